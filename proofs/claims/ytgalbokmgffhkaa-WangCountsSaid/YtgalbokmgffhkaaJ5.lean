/- Contract: ways of the specification. -/
import Derived.Test.YtgalbokmgffhkaaJ4
import Derived.Test.YtgalbokmgffhkaaB4
set_option linter.all false
namespace Go.Proofs.Ytgalbokmgffhkaa
open Go.Lf Go.RowKit Go.Wg

theorem encD_ex {n : Nat} (hn : 0 < n) : ∀ (W s : Nat), s < n ^ W → ∃ d : List Nat, d.length = W ∧ (∀ a ∈ d, a < n) ∧ encD n d = s
  | 0, s, h => ⟨[], rfl, by simp, by rw [encD]; simp at h; omega⟩
  | W + 1, s, h => by
    have h1 : s / n < n ^ W := by
      rw [Nat.pow_succ] at h
      exact Nat.div_lt_of_lt_mul (by rw [Nat.mul_comm]; exact h)
    obtain ⟨d, d1, d2, d3⟩ := encD_ex hn W (s / n) h1
    refine ⟨s % n :: d, by simp [d1], fun a ha => ?_, ?_⟩
    · rcases List.mem_cons.1 ha with rfl | ha
      · exact Nat.mod_lt _ hn
      · exact d2 a ha
    · rw [encD, d3]
      exact Nat.mod_add_div s n
theorem put_lt {l : List Tile} (hs : IsSet l) {W p s s' : Nat} {t : Tile} (ht : t ∈ l) (hW : 0 < W) (hlt : s < (lineL l).length ^ W * 8) (h : putM l W p s t = some s') : s' < (lineL l).length ^ W * 8 := by
  have hn := line_pos hs
  obtain ⟨d, d1, d2, d3⟩ := encD_ex hn W (s / 8) (Nat.div_lt_of_lt_mul (by rw [Nat.mul_comm]; exact hlt))
  have he : s = encS (lineL l).length d (s % 8) := by rw [encS, d3]; omega
  rw [he, put_enc hs.cols ht d1 hW d2 (Nat.mod_lt _ (by omega))] at h
  split at h
  · cases h
  · injection h with h
    have hm := (mem_line hs.cols ht).2
    have hl := encD_lt (n := (lineL l).length) (d := d.set (p % W) (lidx l (tS t))) fun a ha => by
      rcases List.mem_or_eq_of_mem_set ha with h1 | h1
      · exact d2 a h1
      · rw [h1]; exact lidx_lt hm
    have hcr := cols_range (hs.cols t ht)
    rw [List.length_set, d1] at hl
    rw [← h, encS]
    omega

def allS (l : List Tile) (W : Nat) : Nat := (lineL l).length ^ W * 8
def wayL (l : List Tile) (W H p : Nat) : List Int := (List.range (allS l W)).map fun s => capI (Wq l W H (W * H - p) s)
theorem wayL_len (l : List Tile) (W H p : Nat) : (wayL l W H p).length = allS l W := by simp [wayL]
theorem wayL_at {l : List Tile} {W H p s : Nat} (hs : s < allS l W) : (wayL l W H p).getD s 0 = capI (Wq l W H (W * H - p) s) := by
  rw [getD_lt _ _ _ (by rw [wayL_len]; exact hs)]
  simp [wayL]

theorem cappedI_calls (x : Int) (w : World) : Calls Try.prog 88 #[.int .i64 x] w fun e w' => e = .returned (.int .i64 (min x 1099511627777)) ∧ w = w' := by
  refine lift88 ?_
  unfold S88
  simp only [r_ln, r_pick, r_pickT, r_pickF, r_condT, r_condF, r_gdTT, r_gdFF, r_gdTF, r_gdFT, r_gqTT, r_gqFF, r_gqTF, r_gqFT, r_not, r_lss, r_leq, r_gtr, r_geq, r_eql, r_neq, r_add, r_sub, r_min2, r_max2, r_min3, r_max3, r_fa, r_iaS, r_iaA, r_ex2a, r_ex2b, r_ex3a, r_ex3b, r_ex3c, r_nc, r_keepE, Nat.zero_add, Nat.add_zero, Nat.mul_one, Int.toNat_natCast, toNat_sub1, toNat_add1, decide_true, decide_false, Bool.not_true, Bool.not_false, if_true, if_false, Bool.false_eq_true, reduceCtorEq]
  exact ⟨by first | rfl | trivial, by first | rfl | trivial⟩
theorem st30 {w : World} {a : Addr} {x : Option Addr} {n c : Nat} {v : Value} {K : World → Prop} (hc : w.cell? a = some v) (hf : w.frozen? a = false) : stW Try.prog 30 (.pointer (some a)) (.slice x n c) w K = K (w.setCell a (.slice x n c)) := by
  have e : stW Try.prog 30 (.pointer (some a)) (.slice x n c) w K = ((w.cell? (a.add 0)).isSome = true ∧ w.frozen? (a.add 0) = false ∧ true = true ∧ K (w.setCell (a.add 0) (.slice x n c))) := by kernel_rfl
  rw [e]
  have ha : a.add 0 = a := rfl
  simp [ha, hc, hf]
/-- make([][]int, n) -/
theorem mk23 {n : Nat} {w : World} {K : Value → World → Prop} (hn : n ≤ 1000000) (h : ∀ v w', RecAt 30 1 vE w.heap.size w' v (List.replicate n nilS) → Kp w w' → K v w') :
    mkW Try.prog 23 (.int .i64 n) (.int .i64 n) w K := by
  have e : ∀ (l : Int) (K : Value → World → Prop), mkW Try.prog 23 (.int .i64 l) (.int .i64 l) w K = (0 ≤ l ∧ l ≤ l ∧ l ≤ 4611686018427387904 ∧ ((24 : Nat) : Int) * l ≤ 281474976710656 ∧ 0 < 1 ∧
      K (.slice (some ⟨w.heap.size, 0, none⟩) l.toNat l.toNat) (w.alloc (.cells (mkCells #[.slice none 0 0] (l.toNat * 1)) 30))) := fun l K => by kernel_rfl
  rw [e]
  refine ⟨by omega, by omega, by omega, by omega, by omega, ?_⟩
  rw [Nat.mul_one, mkCells_one, Int.toNat_natCast]
  exact h _ _ (made_rec (x := nilS) (enc := vE) rfl hn w) (below_alloc _)

/-- The rows from p on are there, each in a block that is not g. -/
structure WSt (l : List Tile) (W H base : Nat) (v31 : Value) (vs : List Value) (p : Nat) (g : Nat) (w : World) : Prop where
  out : RecAt 30 1 vE base w v31 vs
  len : vs.length = W * H + 1
  rows : ∀ q u, p ≤ q → vs[q]? = some u → IntsAt base w u (wayL l W H q) ∧ ∀ k, u.ownBlock = some k → k ≠ g
theorem WSt.later {l : List Tile} {W H base p g : Nat} {v31 : Value} {vs : List Value} {w w' : World} (h : WSt l W H base v31 vs p g w) (k : Kp w w') : WSt l W H base v31 vs p g w' :=
  ⟨h.out.kp k, h.len, fun q u hq hu => ⟨(h.rows q u hq hu).1.kp k, (h.rows q u hq hu).2⟩⟩
/-- A store into the block g. -/
theorem WSt.store {l : List Tile} {W H base p g : Nat} {v31 : Value} {vs : List Value} {w w' : World} (h : WSt l W H base v31 vs p g w) (hg : ∀ k, v31.ownBlock = some k → k ≠ g) (k : Chg (fun q => q = g) w w') : WSt l W H base v31 vs p g w' :=
  ⟨h.out.chg k fun q hq e => hg q hq e, h.len, fun q u hq hu => ⟨(h.rows q u hq hu).1.chg k fun x hx e => (h.rows q u hq hu).2 x hx e, (h.rows q u hq hu).2⟩⟩

/-- What a tile adds. -/
def addW (l : List Tile) (W H p s : Nat) (t : Tile) : Nat := match putM l W p s t with
  | some s' => Wq l W H (W * H - (p + 1)) s'
  | none => 0
theorem Wq_tot {l : List Tile} {W H p s : Nat} (hp : p < W * H) : Wq l W H (W * H - p) s = tot (addW l W H p s) l := by
  obtain ⟨q, hq⟩ : ∃ q, W * H - p = q + 1 := ⟨W * H - p - 1, by omega⟩
  rw [hq, Wq]
  have e1 : W * H - (q + 1) = p := by omega
  have e2 : W * H - (p + 1) = q := by omega
  rw [e1]
  refine tot_congr fun t _ => ?_
  rw [addW, e2]
  cases putM l W p s t <;> rfl

set_option maxRecDepth 100000 in
set_option maxHeartbeats 800000 in
/-- One state: the sum over the tiles. -/
theorem r75_3 {l : List Tile} {W H base p g s : Nat} {sv lv v31 u0 : Value} {vs : List Value} {R0 : List Int} {w0 w : World} {next : Value → World → Prop} (hset : IsSet l) (hW : 1 ≤ W ∧ W ≤ 4) (hH : 1 ≤ H ∧ H ≤ 4) (hall : allS l W ≤ 60000) (hr : RdT w0 sv l) (hL : RdInts w0 lv (lineL l)) (hk : Kp w0 w)
    (hp : p < W * H) (hs : s < allS l W) (S : WSt l W H base v31 vs (p + 1) g w) (hv : ∀ k, v31.ownBlock = some k → k ≠ g) (hup : vs[p]? = some u0) (hu0 : IntsAt base w u0 R0) (hR0 : R0.length = allS l W) (hg : u0.ownBlock = some g)
    (hn : ∀ w', Kp w0 w' ∨ True → WSt l W H base v31 vs (p + 1) g w' → IntsAt base w' u0 (R0.set s (capI (Wq l W H (W * H - p) s))) → (∃ wm, Kp w wm ∧ Chg (fun q => q = g) wm w') → next (.int .i64 ((s : Int) + 1)) w') :
    S75L3 sv (.int .i64 W) (.int .i64 p) (.int .i64 s) lv v31 next w := by
  have hWH : W * H ≤ 16 := Nat.mul_le_mul hW.2 hH.2
  obtain ⟨sa, sc, es, _⟩ := hr.len
  have lns : ∀ K : Value → Prop, ln1 sv K = K (.int .i64 l.length) := fun K => by rw [es]; rfl
  have hlm := hset.most
  unfold S75L3
  refine ⟨fun t15 t16 wr => ∃ i : Nat, i ≤ l.length ∧ t16 = .int .i64 i ∧ t15 = .int .i64 (capI (tot (addW l W H p s) (l.take i))) ∧ Kp w wr, fun _ t16 _ => l.length - (intOf t16).toNat, ⟨0, by omega, rfl, rfl, Kp.refl _⟩, ?_⟩
  rintro _ _ _ wr ⟨i, hi, rfl, rfl, kr⟩
  rw [lns]
  have Sr := S.later kr
  have hlenv := S.len
  by_cases hlt : i < l.length
  case neg =>
    have hlt' : ¬ (i : Int) < (l.length : Int) := by omega
    rw [List.take_of_length_le (by omega), ← Wq_tot hp]
    obtain ⟨ob, oo, oc, eo, _, hco⟩ := (Sr.out.rd vE_len).at hup
    have co : wr.cell? ⟨ob, oo + p, none⟩ = some u0 := by
      have := hco 0 _ rfl
      simpa using this
    obtain ⟨g', cap, eu, hbg, hcell, hfr, hput⟩ := IntsAt.put (hu0.kp kr) (q := s) (by omega) (capI (Wq l W H (W * H - p) s))
    have hgg : g' = g := by
      rw [eu] at hg
      injection hg
    subst hgg
    have hpp : (p : Int).toNat = p := by omega
    have hss : (s : Int).toNat = s := by omega
    rw [eo] at *
    rw [eu] at co
    simp (disch := omega) only [r_ln, r_pick, r_pickT, r_pickF, r_condT, r_condF, r_gdTT, r_gdFF, r_gdTF, r_gdFT, r_gqTT, r_gqFF, r_gqTF, r_gqFT, r_not, r_lss, r_leq, r_gtr, r_geq, r_eql, r_neq, r_add, r_sub, r_min2, r_max2, r_min3, r_max3, r_fa, r_iaS, r_iaA, r_ex2a, r_ex2b, r_ex3a, r_ex3b, r_ex3c, r_nc, r_keepE, Nat.zero_add, Nat.add_zero, Nat.mul_one, Int.toNat_natCast, toNat_sub1, toNat_add1, decide_true, decide_false, Bool.not_true, Bool.not_false, if_true, if_false, Bool.false_eq_true, reduceCtorEq, hlt', hpp, r_ld co, hss]
    rw [st3 hcell hfr]
    have hch : Chg (fun q => q = g') wr (wr.setCell ⟨g', s, none⟩ (.int .i64 (capI (Wq l W H (W * H - p) s)))) := Chg.setCell _ _ rfl
    try simp (disch := omega) only [r_ln, r_pick, r_pickT, r_pickF, r_condT, r_condF, r_gdTT, r_gdFF, r_gdTF, r_gdFT, r_gqTT, r_gqFF, r_gqTF, r_gqFT, r_not, r_lss, r_leq, r_gtr, r_geq, r_eql, r_neq, r_add, r_sub, r_min2, r_max2, r_min3, r_max3, r_fa, r_iaS, r_iaA, r_ex2a, r_ex2b, r_ex3a, r_ex3b, r_ex3c, r_nc, r_keepE, Nat.zero_add, Nat.add_zero, Nat.mul_one, Int.toNat_natCast, toNat_sub1, toNat_add1, decide_true, decide_false, Bool.not_true, Bool.not_false, if_true, if_false, Bool.false_eq_true, reduceCtorEq]
    exact hn _ (.inr trivial) (Sr.store hv hch) hput ⟨wr, kr, hch⟩
  have hlt' : (i : Int) < (l.length : Int) := by omega
  obtain ⟨b, off, cap, e, _, hcell⟩ := (hr.kp (Kp.trans hk kr)).at (List.getElem?_eq_getElem hlt)
  have hii : (i : Int).toNat = i := by omega
  have ia : ∀ K : Value → Prop, iaS 4 sv (.int .i64 i) K = K (.pointer (some ⟨b, off + i * 4, none⟩)) := fun K => by rw [e, r_iaS _ _ _ _ _ _ _ (by omega) (by omega), hii]
  have htm := List.getElem_mem hlt
  have hstep : tot (addW l W H p s) (l.take (i + 1)) = tot (addW l W H p s) (l.take i) + addW l W H p s l[i] := by
    rw [take_succ' _ _ hlt, tot_append]; simp [tot]
  generalize l[i] = t at *
  have ev : ∀ t : Tile, Value.agg (tlC t).toArray = tlV t := fun t => rfl
  simp (disch := omega) only [r_lss, decide_eq_true hlt', r_condT, ia, r_ldCells (tlC_len t) hcell, ev]
  refine r_use fok80 (put_calls (p := p) (s := s) wr (hL.below (Kp.trans hk kr)) hset htm hW (by omega) hs hall) rfl ?_
  rintro _ w2 ⟨rfl, k2⟩
  refine ⟨_, rfl, ?_⟩
  have kr2 := Kp.trans kr k2
  simp only [r_geq]
  refine r_join1 (fun v w' => v = .int .i64 (capI (tot (addW l W H p s) (l.take (i + 1)))) ∧ Kp w w') ?_ fun k' hk' => ?_
  · rintro v w' ⟨rfl, kk⟩
    rw [r_add _ _ (by omega) (by omega)]
    exact ⟨⟨i + 1, by omega, by go_num, rfl, kk⟩, by simp only [intOf]; omega⟩
  rw [hstep] at hk'
  cases hpm : putM l W p s t with
  | none =>
    have ha : addW l W H p s t = 0 := by rw [addW, hpm]
    rw [ha, Nat.add_zero] at hk'
    have hneg : ¬ (0 : Int) ≤ -1 := by decide
    simp (disch := omega) only [putV, r_ln, r_pick, r_pickT, r_pickF, r_condT, r_condF, r_gdTT, r_gdFF, r_gdTF, r_gdFT, r_gqTT, r_gqFF, r_gqTF, r_gqFT, r_not, r_lss, r_leq, r_gtr, r_geq, r_eql, r_neq, r_add, r_sub, r_min2, r_max2, r_min3, r_max3, r_fa, r_iaS, r_iaA, r_ex2a, r_ex2b, r_ex3a, r_ex3b, r_ex3c, r_nc, r_keepE, Nat.zero_add, Nat.add_zero, Nat.mul_one, Int.toNat_natCast, toNat_sub1, toNat_add1, decide_true, decide_false, Bool.not_true, Bool.not_false, if_true, if_false, Bool.false_eq_true, reduceCtorEq, hneg]
    exact hk' _ _ ⟨rfl, kr2⟩
  | some s' =>
    have hs' := put_lt hset htm hW.1 hs hpm
    have ha : addW l W H p s t = Wq l W H (W * H - (p + 1)) s' := by rw [addW, hpm]
    rw [ha] at hk'
    have hpos : (0 : Int) ≤ (s' : Int) := by omega
    have S2 := S.later kr2
    obtain ⟨u, hu⟩ : ∃ u, vs[p + 1]? = some u := ⟨_, List.getElem?_eq_getElem (by omega)⟩
    obtain ⟨hI, _⟩ := S2.rows (p + 1) u (Nat.le_refl _) hu
    obtain ⟨ob, oo, oc, eo, _, hco⟩ := (S2.out.rd vE_len).at hu
    have co : w2.cell? ⟨ob, oo + (p + 1), none⟩ = some u := by
      have := hco 0 _ rfl
      simpa using this
    obtain ⟨g', cap', eu, _, hcl, _, _⟩ := IntsAt.put hI (q := s') (by rw [wayL_len]; exact hs') 0
    rw [wayL_at hs'] at hcl
    have hwl := wayL_len l W H (p + 1)
    have hpp : ((p : Int) + 1).toNat = p + 1 := by omega
    have hss : (s' : Int).toNat = s' := by omega
    rw [eu] at co
    have hs'' : s' < allS l W := hs'
    have hcap : 0 ≤ capI (tot (addW l W H p s) (l.take i)) ∧ capI (tot (addW l W H p s) (l.take i)) ≤ 1099511627777 := by unfold capI; omega
    have hcap2 : 0 ≤ capI (Wq l W H (W * H - (p + 1)) s') ∧ capI (Wq l W H (W * H - (p + 1)) s') ≤ 1099511627777 := by unfold capI; omega
    rw [eo]
    simp (disch := omega) only [putV, r_ln, r_pick, r_pickT, r_pickF, r_condT, r_condF, r_gdTT, r_gdFF, r_gdTF, r_gdFT, r_gqTT, r_gqFF, r_gqTF, r_gqFT, r_not, r_lss, r_leq, r_gtr, r_geq, r_eql, r_neq, r_add, r_sub, r_min2, r_max2, r_min3, r_max3, r_fa, r_iaS, r_iaA, r_ex2a, r_ex2b, r_ex3a, r_ex3b, r_ex3c, r_nc, r_keepE, Nat.zero_add, Nat.add_zero, Nat.mul_one, Int.toNat_natCast, toNat_sub1, toNat_add1, decide_true, decide_false, Bool.not_true, Bool.not_false, if_true, if_false, Bool.false_eq_true, reduceCtorEq, decide_eq_true hpos, hpp, r_ld co, hss, r_ld hcl]
    refine r_use fok88 (cappedI_calls _ w2) rfl ?_
    rintro _ _ ⟨rfl, rfl⟩
    refine ⟨_, rfl, ?_⟩
    rw [capI_add]
    exact hk' _ _ ⟨rfl, kr2⟩

end Go.Proofs.Ytgalbokmgffhkaa
