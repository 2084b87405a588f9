/- Contract: Product of the specification: the loops. -/
import Derived.Test.YtgalbokmgffhkaaH4
set_option linter.all false
namespace Go.Proofs.Ytgalbokmgffhkaa
open Go.Lf Go.RowKit Go.Wg

def usedL (l : List Tile) : List Bool := (List.range 64).map (usedB l)
theorem usedL_len (l : List Tile) : (usedL l).length = 64 := by simp [usedL]
theorem usedL_push {l : List Tile} {u : Tile} (hE : 0 ≤ tE u ∧ tE u < 64) (hW : 0 ≤ tW u ∧ tW u < 64) : usedL (l ++ [u]) = ((usedL l).set (tE u).toNat true).set (tW u).toNat true := by
  refine List.ext_getElem (by simp [usedL]) fun c h1 h2 => ?_
  have hc : c < 64 := by simpa [usedL] using h1
  have e1 : (usedL (l ++ [u]))[c]'h1 = usedB (l ++ [u]) c := by simp [usedL]
  have e2 : usedB (l ++ [u]) c = (usedB l c || (decide (tE u = (c : Int)) || decide (tW u = (c : Int)))) := by simp [usedB]
  refine Eq.trans e1 ?_
  rw [e2, List.getElem_set, List.getElem_set]
  by_cases g1 : (tW u).toNat = c
  · rw [if_pos g1, decide_eq_true (show tW u = (c : Int) by omega)]; simp
  · rw [if_neg g1, decide_eq_false (show ¬ tW u = (c : Int) by omega)]
    by_cases g2 : (tE u).toNat = c
    · rw [if_pos g2, decide_eq_true (show tE u = (c : Int) by omega)]; simp
    · rw [if_neg g2, decide_eq_false (show ¬ tE u = (c : Int) by omega)]
      simp [usedL]
theorem usedL_nil : usedL [] = List.replicate 64 false := by decide

def noL (l : List Tile) (i : Nat) : List Int := (List.range 64).map fun j => if j < i then ((cnt l j : Nat) : Int) else 0
theorem noL_len (l : List Tile) (i : Nat) : (noL l i).length = 64 := by simp [noL]
theorem noL_zero (l : List Tile) : noL l 0 = List.replicate 64 0 := by
  refine List.ext_getElem (by simp [noL]) fun c h1 h2 => ?_
  rw [List.getElem_replicate]
  simp only [noL, List.getElem_map, List.getElem_range]
  rw [if_neg (by omega)]
theorem noL_set {l : List Tile} {i : Nat} (hi : i < 64) : noL l (i + 1) = (noL l i).set i ((cnt l i : Nat) : Int) := by
  refine List.ext_getElem (by simp [noL]) fun c h1 h2 => ?_
  rw [List.getElem_set]
  simp only [noL, List.getElem_map, List.getElem_range]
  by_cases g : i = c
  · subst g; simp
  · rw [if_neg g]
    by_cases g2 : c < i
    · rw [if_pos g2, if_pos (by omega)]
    · rw [if_neg g2, if_neg (by omega)]
theorem noL_at {l : List Tile} {c : Nat} (hc : c < 64) : (noL l 64).getD c 0 = ((cnt l c : Nat) : Int) := by
  rw [getD_lt _ _ _ (by rw [noL_len]; exact hc)]
  simp [noL, hc]

/-- The tiles, twins too, and the colours in use. -/
structure QSt (w0 : World) (pre : List Tile) (uv : Value) (w : World) (t7 : Value) : Prop where
  tl : TlAt w0.heap.size w t7 pre
  us : RecAt 4 1 bC w0.heap.size w uv (usedL pre)
  kp : Kp w0 w
theorem QSt.later {w0 : World} {pre : List Tile} {uv : Value} {w w' : World} {t7 : Value} (h : QSt w0 pre uv w t7) (k : Kp w w') : QSt w0 pre uv w' t7 := ⟨h.tl.kp k, h.us.kp k, Kp.trans h.kp k⟩
theorem bdR (x y z u : Int) (K : Value → Prop) : bdQ Try.prog 32 [(0, .int .i64 x), (2, .int .i64 z), (1, .int .i64 y), (3, .int .i64 u)] K = K (tlV (x, y, z, u)) := by kernel_rfl

set_option maxRecDepth 100000 in
/-- append(out, tile), wherever the base. -/
theorem r_pushT' {base : Nat} {w : World} {v : Value} {P : List Tile} {t : Tile} {K : Value → World → Prop} (h : TlAt base w v P) (hn : P.length + 1 ≤ 1000000) (hb : base ≤ w.heap.size)
    (hk : ∀ v' w', TlAt base w' v' (P ++ [t]) → Chg (fun k => v.ownBlock = some k) w w' → K v' w') :
    bsW Try.prog 22 1 [(0, tlV t)] w fun s w => semW Try.prog (apS [22, 22] 22 [v, s]) w K :=
  r_pushRec (x := t) slt22 tlC_len rfl (bs22 _ _ _ _ _) (tlC_one t) (by omega) h hn hb fun v' w' ho hc _ => hk v' w' ho hc

set_option maxRecDepth 100000 in
set_option maxHeartbeats 1000000 in
theorem r51_1 {w0 w : World} {i : Nat} {a b pre : List Tile} {s : Tile} {av bv uv t7 : Value} {next : Value → Value → World → Prop} (S : QSt w0 pre uv w t7) (ha : RdT w0 av a) (hai : a[i]? = some s) (hb : RdT w0 bv b) (hsc : colsB s = true) (hbc : ∀ t ∈ b, colsB t = true) (hbl : b.length ≤ 16) (hpl : pre.length ≤ 500) (hi : i ≤ 100)
    (hn : ∀ t7' w', QSt w0 (pre ++ under1 b s) uv w' t7' → next t7' (.int .i64 ((i : Int) + 1)) w') :
    S51L1 av bv t7 (.int .i64 i) uv next w := by
  obtain ⟨ba, bc, ebv, _⟩ := hb.len
  have lnb : ∀ K : Value → Prop, ln1 bv K = K (.int .i64 b.length) := fun K => by rw [ebv]; rfl
  unfold S51L1
  refine ⟨fun t7 t9 wr => ∃ j : Nat, j ≤ b.length ∧ t9 = .int .i64 j ∧ QSt w0 (pre ++ under1 (b.take j) s) uv wr t7, fun _ t9 _ => b.length - (intOf t9).toNat, ⟨0, by omega, rfl, by simpa [under1] using S⟩, ?_⟩
  rintro _ t7 _ wr ⟨j, hj, rfl, Sj⟩
  rw [lnb]
  by_cases hlt : j < b.length
  case neg =>
    have hlt' : ¬ (j : Int) < (b.length : Int) := by omega
    rw [List.take_of_length_le (by omega)] at Sj
    simp (disch := omega) only [r_ln, r_pick, r_pickT, r_pickF, r_condT, r_condF, r_gdTT, r_gdFF, r_gdTF, r_gdFT, r_gqTT, r_gqFF, r_gqTF, r_gqFT, r_not, r_lss, r_leq, r_gtr, r_geq, r_eql, r_neq, r_add, r_sub, r_min2, r_max2, r_min3, r_max3, r_fa, r_iaS, r_iaA, r_ex2a, r_ex2b, r_ex3a, r_ex3b, r_ex3c, r_nc, r_keepE, Nat.zero_add, Nat.add_zero, Nat.mul_one, Int.toNat_natCast, toNat_sub1, toNat_add1, decide_true, decide_false, Bool.not_true, Bool.not_false, if_true, if_false, Bool.false_eq_true, reduceCtorEq, hlt']
    exact hn _ _ Sj
  have hlt' : (j : Int) < (b.length : Int) := by omega
  have hut := under1_take (s := s) hlt
  have hul := under1_len (b.take j) s
  rw [List.length_take] at hul
  have htc := cols_range (hbc _ (List.getElem_mem hlt))
  have hsr := cols_range hsc
  have hbj : b[j]? = some b[j] := List.getElem?_eq_getElem hlt
  obtain ⟨ab, ao, ac, eav, hia, hca⟩ := (ha.kp Sj.kp).at hai
  obtain ⟨bb, bo, bc', ebv', _, hcb⟩ := (hb.kp Sj.kp).at hbj
  generalize b[j] = t at *
  have hii : (i : Int).toNat = i := by omega
  have hjj : (j : Int).toNat = j := by omega
  have ia : ∀ K : Value → Prop, iaS 4 av (.int .i64 i) K = K (.pointer (some ⟨ab, ao + i * 4, none⟩)) := fun K => by rw [eav, r_iaS _ _ _ _ _ _ _ (by omega) (by omega), hii]
  have ib : ∀ K : Value → Prop, iaS 4 bv (.int .i64 j) K = K (.pointer (some ⟨bb, bo + j * 4, none⟩)) := fun K => by rw [ebv', r_iaS _ _ _ _ _ _ _ (by omega) (by omega), hjj]
  simp (disch := omega) only [r_lss, decide_eq_true hlt', r_condT]
  refine r_join1 (fun v7 w' => QSt w0 (pre ++ under1 (b.take (j + 1)) s) uv w' v7) ?_ fun k2 hk2 => ?_
  · rintro v7 w' S'
    rw [r_add _ _ (by omega) (by omega)]
    exact ⟨⟨j + 1, by omega, by go_num, S'⟩, by simp only [intOf]; omega⟩
  rw [hut, ← List.append_assoc] at hk2
  have hpl2 : (pre ++ under1 (b.take j) s).length ≤ 600 := by rw [List.length_append]; omega
  generalize pre ++ under1 (b.take j) s = pj at *
  refine r_drew fun w2 k2' _ => ?_
  have a2 : w2.cell? ⟨ab, ao + i * 4 + 2, none⟩ = some (.int .i64 (tS s)) := cell_later k2' (hca 2 _ rfl)
  have b0 : w2.cell? ⟨bb, bo + j * 4 + 0, none⟩ = some (.int .i64 (tN t)) := cell_later k2' (hcb 0 _ rfl)
  have S2 := Sj.later k2'
  rw [Nat.add_zero] at b0
  by_cases hst : tS s = tN t
  case neg =>
    rw [if_neg hst, List.append_nil] at hk2
    simp (disch := omega) only [ia, ib, r_fa, Nat.add_zero, r_ld a2, r_ld b0, r_neq, hst, decide_false, Bool.not_false, r_condT]
    exact hk2 _ _ S2
  rw [if_pos hst] at hk2
  simp (disch := omega) only [ia, ib, r_fa, Nat.add_zero, r_ld a2, r_ld b0, r_neq, decide_eq_true hst, Bool.not_true, r_condF]
  refine r_drew fun w3 k3 _ => ?_
  have k23 := Kp.trans k2' k3
  have S3 := Sj.later k23
  have c0 : w3.cell? ⟨ab, ao + i * 4 + 0, none⟩ = some (.int .i64 (tN s)) := cell_later k23 (hca 0 _ rfl)
  have c1 : w3.cell? ⟨ab, ao + i * 4 + 1, none⟩ = some (.int .i64 (tE s)) := cell_later k23 (hca 1 _ rfl)
  have c3 : w3.cell? ⟨ab, ao + i * 4 + 3, none⟩ = some (.int .i64 (tW s)) := cell_later k23 (hca 3 _ rfl)
  have d1 : w3.cell? ⟨bb, bo + j * 4 + 1, none⟩ = some (.int .i64 (tE t)) := cell_later k23 (hcb 1 _ rfl)
  have d2 : w3.cell? ⟨bb, bo + j * 4 + 2, none⟩ = some (.int .i64 (tS t)) := cell_later k23 (hcb 2 _ rfl)
  have d3 : w3.cell? ⟨bb, bo + j * 4 + 3, none⟩ = some (.int .i64 (tW t)) := cell_later k23 (hcb 3 _ rfl)
  rw [Nat.add_zero] at c0
  have hbd : ∀ K : Value → Prop, bdQ Try.prog 32 [(0, .int .i64 (tN s)), (2, .int .i64 (tS t)), (1, .int .i64 (tE s * 8 + tE t)), (3, .int .i64 (tW s * 8 + tW t))] K = K (tlV (pairT s t)) := fun K => bdR _ _ _ _ K
  simp (disch := omega) only [ia, ib, r_fa, Nat.add_zero, r_ld c0, r_ld c1, r_ld c3, r_ld d1, r_ld d2, r_ld d3, r_mul, r_add, hbd]
  have hu : tE (pairT s t) = tE s * 8 + tE t ∧ tW (pairT s t) = tW s * 8 + tW t := ⟨rfl, rfl⟩
  generalize pairT s t = u at *
  have hE : 0 ≤ tE u ∧ tE u < 64 := by omega
  have hW : 0 ≤ tW u ∧ tW u < 64 := by omega
  have hup := usedL_push (l := pj) hE hW
  refine r_box fun b10 w4 e10 s10 h10 k10 => ⟨k10, ?_⟩
  refine r_stAll (n := 4) (ty := 32) (by kernel_rfl) rfl (by intro u hu; simp [Value.cells, tlC] at hu; rcases hu with rfl | rfl | rfl | rfl <;> rfl) h10 rfl fun w5 c5 s5 h5 => ?_
  have k5 : Kp w3 w5 := Kp.of_chg k10 c5 fun q e => by omega
  have S5 := S3.later k5
  have g1 : w5.cell? ⟨b10, 1, none⟩ = some (.int .i64 (tE u)) := by rw [cell_row h5]; rfl
  have hul5 := usedL_len pj
  obtain ⟨y1, hat⟩ : ∃ y, (usedL pj)[(tE u).toNat]? = some y := ⟨_, List.getElem?_eq_getElem (by omega)⟩
  obtain ⟨g, cap, eu, hbg, ⟨x1, cx1⟩, fx1, o1⟩ := RecAt.set (j := 0) (p' := true) (u := .bool true) bC_len S5.us hat (by omega) rfl
  simp only [Nat.mul_one, Nat.add_zero] at cx1 fx1 o1
  have gown : uv.ownBlock = some g := by rw [eu]; rfl
  have gl := (S5.us.lt gown).2
  have gl3 := (S3.us.lt gown).2
  have hgb : ¬ g = b10 := by omega
  have iu : ∀ (x : Int) (K : Value → Prop), 0 ≤ x → x < 64 → iaS 1 uv (.int .i64 x) K = K (.pointer (some ⟨g, x.toNat, none⟩)) := fun x K h0 h1 => by
    rw [eu, hul5, r_iaS _ _ _ _ _ _ _ h0 (by omega), Nat.mul_one, Nat.zero_add]
  simp only [r_fa, Nat.zero_add, r_ld g1]
  rw [iu _ _ hE.1 hE.2, st4 cx1 fx1]
  have ch1 : Chg (fun q => q = g) w5 (w5.setCell ⟨g, (tE u).toNat, none⟩ (.bool true)) := Chg.setCell _ _ rfl
  generalize w5.setCell ⟨g, (tE u).toNat, none⟩ (.bool true) = w6 at *
  have h6 := ch1.at h5 (fun e => hgb e.symm)
  have g3 : w6.cell? ⟨b10, 3, none⟩ = some (.int .i64 (tW u)) := by rw [cell_row h6]; rfl
  obtain ⟨y2, hat2⟩ : ∃ y, ((usedL pj).set (tE u).toNat true)[(tW u).toNat]? = some y := ⟨_, List.getElem?_eq_getElem (by rw [List.length_set]; omega)⟩
  obtain ⟨g', cap', eu', _, ⟨x2, cx2⟩, fx2, o2⟩ := RecAt.set (j := 0) (p' := true) (u := .bool true) bC_len o1 hat2 (by omega) rfl
  have hgg : g' = g := by
    rw [eu'] at gown
    injection gown
  subst hgg
  simp only [Nat.mul_one, Nat.add_zero] at cx2 fx2 o2
  simp only [r_fa, Nat.zero_add, r_ld g3]
  rw [iu _ _ hW.1 hW.2, st4 cx2 fx2]
  have ch2 : Chg (fun q => q = g') w6 (w6.setCell ⟨g', (tW u).toNat, none⟩ (.bool true)) := Chg.setCell _ _ rfl
  generalize w6.setCell ⟨g', (tW u).toNat, none⟩ (.bool true) = w7 at *
  have h7 := ch2.at h6 (fun e => hgb e.symm)
  rw [← hup] at o2
  have ch12 := ch1.trans ch2
  have tl7 : TlAt w0.heap.size w7 t7 pj := S5.tl.chg ch12 fun q hq e => by
    subst e
    exact rec_ne S5.us S5.tl (by decide) q gown hq
  have k7 : Kp w0 w7 := Kp.of_chg S5.kp ch12 fun q e => by rw [e]; exact hbg
  rw [r_ldRow (n := 4) h7 rfl]
  refine r_pushT' (t := u) tl7 (by omega) k7.size fun v8 w8 o8 c8 => ?_
  exact hk2 _ _ ⟨o8, o2.chg c8 fun q hq e => rec_ne o2 tl7 (by decide) q hq e, Kp.of_chg k7 c8 fun q e => (tl7.lt e).1⟩

end Go.Proofs.Ytgalbokmgffhkaa
