/- Contract: Product of the program: one tile above all others. -/
import Derived.Test.YtgalbokmgffhkaaH2
set_option linter.all false
namespace Go.Proofs.Ytgalbokmgffhkaa
open Go.Lf Go.RowKit Go.Wg

theorem under1_take {b : List Tile} {s : Tile} {j : Nat} (hj : j < b.length) : under1 (b.take (j + 1)) s = under1 (b.take j) s ++ if tS s = tN b[j] then [pairT s b[j]] else [] := by
  unfold under1
  rw [take_succ' _ _ hj, List.filter_append, List.map_append]
  congr 1
  by_cases h : tS s = tN b[j]
  · simp [h]
  · simp [h]
theorem under1_len (b : List Tile) (s : Tile) : (under1 b s).length ≤ b.length := by
  rw [under1, List.length_map]; exact List.length_filter_le _ _

set_option maxRecDepth 100000 in
set_option maxHeartbeats 800000 in
theorem r50_1 {w0 w : World} {b10 i : Nat} {s : Tile} {pre b : List Tile} {bv t6 t8 : Value} {next : Value → Value → Value → World → Prop} (S : PSt w0 b10 s pre w t6 t8) (hb : RdT w0 bv b) (hsc : colsB s = true) (hbc : ∀ t ∈ b, colsB t = true) (hbl : b.length ≤ 16) (hpl : pre.length ≤ 500) (hi : i ≤ 100)
    (hn : ∀ t6' t8' w', PSt w0 b10 s (pre ++ under1 b s) w' t6' t8' → next t6' t8' (.int .i64 ((i : Int) + 1)) w') :
    S50L1 bv t6 t8 (.pointer (some ⟨b10, 0, none⟩)) (.int .i64 i) (.int .i64 b.length) next w := by
  unfold S50L1
  refine ⟨fun t6 t8 t32 wr => ∃ j : Nat, j ≤ b.length ∧ t32 = .int .i64 j ∧ PSt w0 b10 s (pre ++ under1 (b.take j) s) wr t6 t8, fun _ _ t32 _ => b.length - (intOf t32).toNat, ⟨0, by omega, rfl, by simpa [under1] using S⟩, ?_⟩
  rintro _ t6 t8 _ wr ⟨j, hj, rfl, Sj⟩
  by_cases hlt : j < b.length
  case neg =>
    have hlt' : ¬ (j : Int) < (b.length : Int) := by omega
    rw [List.take_of_length_le (by omega)] at Sj
    simp (disch := omega) only [r_ln, r_pick, r_pickT, r_pickF, r_condT, r_condF, r_gdTT, r_gdFF, r_gdTF, r_gdFT, r_gqTT, r_gqFF, r_gqTF, r_gqFT, r_not, r_lss, r_leq, r_gtr, r_geq, r_eql, r_neq, r_add, r_sub, r_min2, r_max2, r_min3, r_max3, r_fa, r_iaS, r_iaA, r_ex2a, r_ex2b, r_ex3a, r_ex3b, r_ex3c, r_nc, r_keepE, Nat.zero_add, Nat.add_zero, Nat.mul_one, Int.toNat_natCast, toNat_sub1, toNat_add1, decide_true, decide_false, Bool.not_true, Bool.not_false, if_true, if_false, Bool.false_eq_true, reduceCtorEq, hlt']
    exact hn _ _ _ Sj
  have hlt' : (j : Int) < (b.length : Int) := by omega
  have hut := under1_take (s := s) hlt
  have hul := under1_len (b.take j) s
  rw [List.length_take] at hul
  have htc := cols_range (hbc _ (List.getElem_mem hlt))
  have hsr := cols_range hsc
  obtain ⟨bb, bo, bc, ebv, _, hcell⟩ := (hb.kp Sj.kp).at (List.getElem?_eq_getElem hlt)
  subst ebv
  generalize b[j] = t at *
  simp (disch := omega) only [r_lss, decide_eq_true hlt', r_condT]
  refine r_join2 (fun v6 v8 w' => PSt w0 b10 s (pre ++ under1 (b.take (j + 1)) s) w' v6 v8) ?_ fun k2 hk2 => ?_
  · rintro v6 v8 w' S'
    rw [r_add _ _ (by omega) (by omega)]
    exact ⟨⟨j + 1, by omega, by go_num, S'⟩, by simp only [intOf]; omega⟩
  rw [hut, ← List.append_assoc] at hk2
  have hjj : (j : Int).toNat = j := by omega
  have hpl2 : (pre ++ under1 (b.take j) s).length ≤ 600 := by rw [List.length_append]; omega
  generalize pre ++ under1 (b.take j) s = pj at *
  simp (disch := omega) only [r_iaS, hjj, r_ldCells (tlC_len t) hcell]
  refine r_box fun b12 w2 e12 s12 h12 k12 => ?_
  refine r_stAll (n := 4) (ty := 32) (by kernel_rfl) rfl (by intro u hu; simp [Value.cells, tlC] at hu; rcases hu with rfl | rfl | rfl | rfl <;> rfl) h12 rfl fun w3 c3 s3 h3 => ?_
  have k3 : Kp wr w3 := Kp.of_chg k12 c3 fun q e => by omega
  have S3 := Sj.later k3
  have blk := S3.blk
  have n6 : ∀ {q}, t6.ownBlock = some q → q < wr.heap.size := fun h => (Sj.tl.lt h).2
  have c2 : w3.cell? ⟨b10, 2, none⟩ = some (.int .i64 (tS s)) := by rw [cell_row blk]; rfl
  have d0 : w3.cell? ⟨b12, 0, none⟩ = some (.int .i64 (tN t)) := by rw [cell_row h3]; rfl
  by_cases hst : tS s = tN t
  case neg =>
    rw [if_neg hst, List.append_nil] at hk2
    simp (disch := omega) only [r_ln, r_pick, r_pickT, r_pickF, r_condT, r_condF, r_gdTT, r_gdFF, r_gdTF, r_gdFT, r_gqTT, r_gqFF, r_gqTF, r_gqFT, r_not, r_lss, r_leq, r_gtr, r_geq, r_eql, r_neq, r_add, r_sub, r_min2, r_max2, r_min3, r_max3, r_fa, r_iaS, r_iaA, r_ex2a, r_ex2b, r_ex3a, r_ex3b, r_ex3c, r_nc, r_keepE, Nat.zero_add, Nat.add_zero, Nat.mul_one, Int.toNat_natCast, toNat_sub1, toNat_add1, decide_true, decide_false, Bool.not_true, Bool.not_false, if_true, if_false, Bool.false_eq_true, reduceCtorEq, r_ld c2, r_ld d0, hst]
    exact hk2 _ _ _ S3
  rw [if_pos hst] at hk2
  simp (disch := omega) only [r_ln, r_pick, r_pickT, r_pickF, r_condT, r_condF, r_gdTT, r_gdFF, r_gdTF, r_gdFT, r_gqTT, r_gqFF, r_gqTF, r_gqFT, r_not, r_lss, r_leq, r_gtr, r_geq, r_eql, r_neq, r_add, r_sub, r_min2, r_max2, r_min3, r_max3, r_fa, r_iaS, r_iaA, r_ex2a, r_ex2b, r_ex3a, r_ex3b, r_ex3c, r_nc, r_keepE, Nat.zero_add, Nat.add_zero, Nat.mul_one, Int.toNat_natCast, toNat_sub1, toNat_add1, decide_true, decide_false, Bool.not_true, Bool.not_false, if_true, if_false, Bool.false_eq_true, reduceCtorEq, r_ld c2, r_ld d0, decide_eq_true hst]
  refine r_drew fun w4 k4 _ => ?_
  have S4 := S3.later k4
  have blk4 := S4.blk
  have h4 := block_below h3 k4
  have e0 : w4.cell? ⟨b10, 0, none⟩ = some (.int .i64 (tN s)) := by rw [cell_row blk4]; rfl
  have e1 : w4.cell? ⟨b10, 1, none⟩ = some (.int .i64 (tE s)) := by rw [cell_row blk4]; rfl
  have e3 : w4.cell? ⟨b10, 3, none⟩ = some (.int .i64 (tW s)) := by rw [cell_row blk4]; rfl
  have f1 : w4.cell? ⟨b12, 1, none⟩ = some (.int .i64 (tE t)) := by rw [cell_row h4]; rfl
  have f2 : w4.cell? ⟨b12, 2, none⟩ = some (.int .i64 (tS t)) := by rw [cell_row h4]; rfl
  have f3 : w4.cell? ⟨b12, 3, none⟩ = some (.int .i64 (tW t)) := by rw [cell_row h4]; rfl
  have sz4 : wr.heap.size ≤ w4.heap.size := (Kp.trans k3 k4).size
  refine r_join1 (fun v w' => ∃ b13, v = .pointer (some ⟨b13, 0, none⟩) ∧ w'.heap[b13]? = some (.cells (tlV (pairT s t)).cells 32 (0, 0)) ∧ PSt w0 b10 s pj w' t6 t8 ∧ ∀ q, t6.ownBlock = some q → q ≠ b13) ?_ fun k3' hk3 => ?_
  · rintro v w5 ⟨b13, rfl, h13, S5, hn6⟩
    rw [r_ldRow (n := 4) h13 rfl]
    have hol := once_len_le pj
    refine r_use fok100 (contains_calls (pairT s t) w5 (S5.tl.rd tlC_len) (by omega)) rfl ?_
    rintro _ w6 ⟨rfl, k6⟩
    refine ⟨_, rfl, ?_⟩
    have S6 := S5.later k6
    by_cases hin : pairT s t ∈ once pj
    · simp (disch := omega) only [r_ln, r_pick, r_pickT, r_pickF, r_condT, r_condF, r_gdTT, r_gdFF, r_gdTF, r_gdFT, r_gqTT, r_gqFF, r_gqTF, r_gqFT, r_not, r_lss, r_leq, r_gtr, r_geq, r_eql, r_neq, r_add, r_sub, r_min2, r_max2, r_min3, r_max3, r_fa, r_iaS, r_iaA, r_ex2a, r_ex2b, r_ex3a, r_ex3b, r_ex3c, r_nc, r_keepE, Nat.zero_add, Nat.add_zero, Nat.mul_one, Int.toNat_natCast, toNat_sub1, toNat_add1, decide_true, decide_false, Bool.not_true, Bool.not_false, if_true, if_false, Bool.false_eq_true, reduceCtorEq, decide_eq_true hin]
      refine hk2 _ _ _ ?_
      have hoe : once (pj ++ [pairT s t]) = once pj := by rw [once_append]; simp [addU, hin]
      exact ⟨by rw [hoe]; exact S6.tl, by rw [hoe]; exact S6.ps, S6.kp, S6.blk, S6.ne⟩
    · simp (disch := omega) only [r_ln, r_pick, r_pickT, r_pickF, r_condT, r_condF, r_gdTT, r_gdFF, r_gdTF, r_gdFT, r_gqTT, r_gqFF, r_gqTF, r_gqFT, r_not, r_lss, r_leq, r_gtr, r_geq, r_eql, r_neq, r_add, r_sub, r_min2, r_max2, r_min3, r_max3, r_fa, r_iaS, r_iaA, r_ex2a, r_ex2b, r_ex3a, r_ex3b, r_ex3c, r_nc, r_keepE, Nat.zero_add, Nat.add_zero, Nat.mul_one, Int.toNat_natCast, toNat_sub1, toNat_add1, decide_true, decide_false, Bool.not_true, Bool.not_false, if_true, if_false, Bool.false_eq_true, reduceCtorEq, hin]
      refine r_drew fun w7 k7 _ => ?_
      have S7 := S6.later k7
      refine r_join2 (fun v6 v8 w' => PSt w0 b10 s (pj ++ [pairT s t]) w' v6 v8) (fun v6 v8 w' S' => hk2 _ _ _ S') fun k4' hk4 => ?_
      exact reg2 S7 (block_below (block_below h13 k6) k7) hn6 hin (by omega) hk4
  simp (disch := omega) only [r_fa, Nat.zero_add, r_ld e0, r_ld e1, r_ld e3, r_ld f1, r_ld f2, r_ld f3]
  have done : ∀ (b13 : Nat) (w' : World), w4.heap.size ≤ b13 → Kp w4 w' → w'.heap[b13]? = some (.cells (tlV (pairT s t)).cells 32 (0, 0)) → k3' (.pointer (some ⟨b13, 0, none⟩)) w' := fun b13 w' hb13 kk hh =>
    hk3 _ _ ⟨b13, rfl, hh, S4.later kk, fun q hq e => by have := n6 hq; omega⟩
  have hbd : ∀ K : Value → Prop, bdQ Try.prog 32 [(0, .int .i64 (tN s)), (1, .int .i64 (tE s * 8 + tE t)), (2, .int .i64 (tS t)), (3, .int .i64 (tW s * 8 + tW t))] K = K (tlV (pairT s t)) := fun K => bdP _ _ _ _ K
  have one4 : ∀ u ∈ (tlV (pairT s t)).cells.toList, u.oneCell' = true := by intro u hu; simp [Value.cells, tlC] at hu; rcases hu with rfl | rfl | rfl | rfl <;> rfl
  refine ⟨?_, ?_, trivial⟩
  · refine call99 (by omega) (by omega) ⟨Kp.refl _, ?_, ?_, trivial⟩
    · refine call99 (by omega) (by omega) ⟨Kp.refl _, ?_⟩
      dsimp only
      rw [hbd]
      refine r_box fun b13 w5 e13 s13 h13 k13 => ⟨k13, ?_⟩
      refine r_stAll (n := 4) (ty := 32) (by kernel_rfl) rfl one4 h13 rfl fun w6 c6 s6 h6 => ?_
      exact done b13 w6 (by omega) (Kp.of_chg k13 c6 fun q e => by omega) h6
    · refine r_box fun b13 w5 e13 s13 h13 k13 => ⟨k13, ?_⟩
      refine call99 (by omega) (by omega) ⟨Kp.refl _, ?_⟩
      dsimp only
      rw [hbd]
      refine r_stAll (n := 4) (ty := 32) (by kernel_rfl) rfl one4 h13 rfl fun w6 c6 s6 h6 => ?_
      exact done b13 w6 (by omega) (Kp.of_chg k13 c6 fun q e => by omega) h6
  · refine r_box fun b13 w5 e13 s13 h13 k13 => ⟨k13, ?_⟩
    refine call99 (by omega) (by omega) ⟨Kp.refl _, ?_⟩
    refine call99 (by omega) (by omega) ⟨Kp.refl _, ?_⟩
    dsimp only
    rw [hbd]
    refine r_stAll (n := 4) (ty := 32) (by kernel_rfl) rfl one4 h13 rfl fun w6 c6 s6 h6 => ?_
    exact done b13 w6 (by omega) (Kp.of_chg k13 c6 fun q e => by omega) h6

end Go.Proofs.Ytgalbokmgffhkaa
