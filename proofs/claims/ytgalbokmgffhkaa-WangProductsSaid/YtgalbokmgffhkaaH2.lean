/- Contract: Product of the program: the loops. -/
import Derived.Test.YtgalbokmgffhkaaH1
import Derived.Test.YtgalbokmgffhkaaB6
import Derived.Test.YtgalbokmgffhkaaD4
import Derived.Test.YtgalbokmgffhkaaSi
set_option linter.all false
namespace Go.Proofs.Ytgalbokmgffhkaa
open Go.Lf Go.RowKit Go.Wg

theorem call99 {x y : Int} {w : World} {K : Value → World → Prop} (h0 : 0 ≤ x ∧ x ≤ 100) (h1 : 0 ≤ y ∧ y ≤ 100) (hk : K (.int .i64 (x * 8 + y)) w) : callW Try.prog (.func (.func 99) #[] #[]) [.int .i64 x, .int .i64 y] w K := by
  have hc : Calls Try.prog 99 #[.int .i64 x, .int .i64 y] w fun r w' => r = .returned (.int .i64 (x * 8 + y)) ∧ w' = w := by
    refine lift99 ?_
    unfold S99
    simp (disch := omega) only [r_ln, r_pick, r_pickT, r_pickF, r_condT, r_condF, r_gdTT, r_gdFF, r_gdTF, r_gdFT, r_gqTT, r_gqFF, r_gqTF, r_gqFT, r_not, r_lss, r_leq, r_gtr, r_geq, r_eql, r_neq, r_add, r_sub, r_min2, r_max2, r_min3, r_max3, r_fa, r_iaS, r_iaA, r_ex2a, r_ex2b, r_ex3a, r_ex3b, r_ex3c, r_nc, r_keepE, Nat.zero_add, Nat.add_zero, Nat.mul_one, Int.toNat_natCast, toNat_sub1, toNat_add1, decide_true, decide_false, Bool.not_true, Bool.not_false, if_true, if_false, Bool.false_eq_true, reduceCtorEq, r_mul]
    exact ⟨by first | rfl | trivial, by first | rfl | trivial⟩
  refine r_use fok99 hc rfl ?_
  rintro _ w2 ⟨rfl, rfl⟩
  exact ⟨_, rfl, hk⟩

set_option maxRecDepth 100000 in
/-- slices.Index at integers. -/
theorem idx101_calls {v : Value} {l : List Int} (x : Int) (w : World) (hr : RdInts w v l) : Calls Try.prog 101 #[v, .int .i64 x] w fun e w' => e = .returned (.int .i64 (idxI l x)) ∧ Kp w w' := by
  have hr' := hr
  obtain ⟨a, cap, rfl, hcap, _⟩ := hr.len
  refine lift101 ?_
  unfold S101
  simp only [r_ln, r_pick, r_pickT, r_pickF, r_condT, r_condF, r_gdTT, r_gdFF, r_gdTF, r_gdFT, r_gqTT, r_gqFF, r_gqTF, r_gqFT, r_not, r_lss, r_leq, r_gtr, r_geq, r_eql, r_neq, r_add, r_sub, r_min2, r_max2, r_min3, r_max3, r_fa, r_iaS, r_iaA, r_ex2a, r_ex2b, r_ex3a, r_ex3b, r_ex3c, r_nc, r_keepE, Nat.zero_add, Nat.add_zero, Nat.mul_one, Int.toNat_natCast, toNat_sub1, toNat_add1, decide_true, decide_false, Bool.not_true, Bool.not_false, if_true, if_false, Bool.false_eq_true, reduceCtorEq]
  unfold S101L0
  refine ⟨fun t8 wr => ∃ i : Nat, i ≤ l.length ∧ t8 = .int .i64 i ∧ x ∉ l.take i ∧ Kp w wr, fun t8 _ => l.length - (intOf t8).toNat, ⟨0, by omega, rfl, by simp, Kp.refl _⟩, ?_⟩
  rintro _ _ wr ⟨i, hi, rfl, hn, hkr⟩
  by_cases hlt : i < l.length
  case neg =>
    have hlt' : ¬ (i : Int) < (l.length : Int) := by omega
    simp (disch := omega) only [r_ln, r_pick, r_pickT, r_pickF, r_condT, r_condF, r_gdTT, r_gdFF, r_gdTF, r_gdFT, r_gqTT, r_gqFF, r_gqTF, r_gqFT, r_not, r_lss, r_leq, r_gtr, r_geq, r_eql, r_neq, r_add, r_sub, r_min2, r_max2, r_min3, r_max3, r_fa, r_iaS, r_iaA, r_ex2a, r_ex2b, r_ex3a, r_ex3b, r_ex3c, r_nc, r_keepE, Nat.zero_add, Nat.add_zero, Nat.mul_one, Int.toNat_natCast, toNat_sub1, toNat_add1, decide_true, decide_false, Bool.not_true, Bool.not_false, if_true, if_false, Bool.false_eq_true, reduceCtorEq, hlt']
    rw [List.take_of_length_le (by omega)] at hn
    exact ⟨by rw [idxI, if_neg hn], hkr⟩
  have hlt' : (i : Int) < (l.length : Int) := by omega
  obtain ⟨b1, o1, _, e1, hc⟩ := (hr'.below hkr).at hlt
  cases e1
  rw [getD_lt _ _ _ hlt] at hc
  have hii : (i : Int).toNat = i := by omega
  have hx : l[i]? = some l[i] := List.getElem?_eq_getElem hlt
  by_cases he : x = l[i]
  · simp (disch := omega) only [r_ln, r_pick, r_pickT, r_pickF, r_condT, r_condF, r_gdTT, r_gdFF, r_gdTF, r_gdFT, r_gqTT, r_gqFF, r_gqTF, r_gqFT, r_not, r_lss, r_leq, r_gtr, r_geq, r_eql, r_neq, r_add, r_sub, r_min2, r_max2, r_min3, r_max3, r_fa, r_iaS, r_iaA, r_ex2a, r_ex2b, r_ex3a, r_ex3b, r_ex3c, r_nc, r_keepE, Nat.zero_add, Nat.add_zero, Nat.mul_one, Int.toNat_natCast, toNat_sub1, toNat_add1, decide_true, decide_false, Bool.not_true, Bool.not_false, if_true, if_false, Bool.false_eq_true, reduceCtorEq, decide_eq_true hlt', hii, r_ld hc, decide_eq_true he]
    rw [← he] at hx
    exact ⟨by rw [idx_first hx hn], hkr⟩
  · simp (disch := omega) only [r_ln, r_pick, r_pickT, r_pickF, r_condT, r_condF, r_gdTT, r_gdFF, r_gdTF, r_gdFT, r_gqTT, r_gqFF, r_gqTF, r_gqFT, r_not, r_lss, r_leq, r_gtr, r_geq, r_eql, r_neq, r_add, r_sub, r_min2, r_max2, r_min3, r_max3, r_fa, r_iaS, r_iaA, r_ex2a, r_ex2b, r_ex3a, r_ex3b, r_ex3c, r_nc, r_keepE, Nat.zero_add, Nat.add_zero, Nat.mul_one, Int.toNat_natCast, toNat_sub1, toNat_add1, decide_true, decide_false, Bool.not_true, Bool.not_false, if_true, if_false, Bool.false_eq_true, reduceCtorEq, decide_eq_true hlt', hii, r_ld hc, he]
    refine ⟨⟨i + 1, by omega, by go_num, ?_, hkr⟩, by simp only [intOf]; omega⟩
    intro hm
    rw [take_succ' _ _ hlt] at hm
    rcases List.mem_append.1 hm with h | h
    · exact hn h
    · exact he (by simpa using h)

theorem bs30_2 (x y : Int) (w : World) (K : Value → World → Prop) : bsW Try.prog 30 2 [(0, .int .i64 x), (1, .int .i64 y)] w K = K (.slice (some ⟨w.heap.size, 0, none⟩) 2 2) (w.alloc (.cells #[.int .i64 x, .int .i64 y] 3)) := by kernel_rfl
theorem bs22' (u : Tile) (w : World) (K : Value → World → Prop) : bsW Try.prog 22 1 [(0, tlV u)] w K = K (.slice (some ⟨w.heap.size, 0, none⟩) 1 1) (w.alloc (.cells (tlV u).cells 32)) := bs22 _ _ _ _ w K
theorem bdP (x y z u : Int) (K : Value → Prop) : bdQ Try.prog 32 [(0, .int .i64 x), (1, .int .i64 y), (2, .int .i64 z), (3, .int .i64 u)] K = K (tlV (x, y, z, u)) := by kernel_rfl

/-- The tiles and the colours so far, beside the tile that is put above others. -/
structure PSt (w0 : World) (b10 : Nat) (s : Tile) (pre : List Tile) (w : World) (t6 t8 : Value) : Prop where
  tl : TlAt w0.heap.size w t6 (once pre)
  ps : IntsAt w0.heap.size w t8 (ends (once pre))
  kp : Kp w0 w
  blk : w.heap[b10]? = some (.cells (tlV s).cells 32 (0, 0))
  ne : ∀ k, t6.ownBlock = some k → k ≠ b10
theorem PSt.later {w0 : World} {b10 : Nat} {s : Tile} {pre : List Tile} {w w' : World} {t6 t8 : Value} (h : PSt w0 b10 s pre w t6 t8) (k : Kp w w') : PSt w0 b10 s pre w' t6 t8 :=
  ⟨h.tl.kp k, h.ps.kp k, Kp.trans h.kp k, block_below h.blk k, h.ne⟩

abbrev Reg2 (t6_2 t8_2 t13 : Value) (w : World) (k_4 : Value → Value → World → Prop) : Prop :=
              ∃ X : Nat → Prop,
              takeX X w (fun w k => k t6_2) fun t62 =>
              takeX X w (fun w k => ldN 4 w t13 k) fun t63 =>
              takeX X w (fun w k => k t8_2) fun t66 =>
              takeX X w (fun w k => fa1 t13 1 k) fun t67 =>
              takeX X w (fun w k => ld1 w t67 k) fun t68 =>
              takeX X w (fun w k => fa1 t13 3 k) fun t69 =>
              takeX X w (fun w k => ld1 w t69 k) fun t70 =>
              And (
                bsW Try.prog 22 1 [(0, t63)] w <| keepX X w fun t64 w =>
                And (
                  semW Try.prog (apS [22, 22] 22 [t62, t64]) w <| keepX X w fun t65 w =>
                  bsW Try.prog 30 2 [(0, t68), (1, t70)] w <| keepX X w fun t71 w =>
                  semW Try.prog (apS [30, 30] 30 [t66, t71]) w fun t72 w =>
                  takeX X w (fun w k => k t65) fun t6_5 =>
                  takeX X w (fun w k => k t72) fun t8_5 =>
                  k_4 t6_5 t8_5 w
                ) <|
                And (
                  bsW Try.prog 30 2 [(0, t68), (1, t70)] w <| keepX X w fun t71_2 w =>
                  semW Try.prog (apS [22, 22] 22 [t62, t64]) w <| keepX X w fun t65_2 w =>
                  semW Try.prog (apS [30, 30] 30 [t66, t71_2]) w fun t72_2 w =>
                  takeX X w (fun w k => k t65_2) fun t6_6 =>
                  takeX X w (fun w k => k t72_2) fun t8_6 =>
                  k_4 t6_6 t8_6 w
                ) <|
                True
              ) <|
              And (
                bsW Try.prog 30 2 [(0, t68), (1, t70)] w <| keepX X w fun t71_3 w =>
                bsW Try.prog 22 1 [(0, t63)] w <| keepX X w fun t64_2 w =>
                semW Try.prog (apS [22, 22] 22 [t62, t64_2]) w <| keepX X w fun t65_3 w =>
                semW Try.prog (apS [30, 30] 30 [t66, t71_3]) w fun t72_3 w =>
                takeX X w (fun w k => k t65_3) fun t6_7 =>
                takeX X w (fun w k => k t72_3) fun t8_7 =>
                k_4 t6_7 t8_7 w
              ) <|
              True

set_option maxRecDepth 100000 in
/-- append of a tile whose slice lies ready. -/
theorem ap22 {base : Nat} {w : World} {t6 : Value} {P : List Tile} {u : Tile} {g : Nat} {K : Value → World → Prop} (h : TlAt base w t6 P) (hl : P.length ≤ 100000) (hb : base ≤ w.heap.size) (hg : w.heap[g]? = some (.cells (tlV u).cells 32 (0, 0)))
    (hk : ∀ v' w', TlAt base w' v' (P ++ [u]) → Chg (fun k => t6.ownBlock = some k) w w' → (∀ k, v'.ownBlock = some k → t6.ownBlock = some k ∨ w.heap.size ≤ k) → K v' w') :
    semW Try.prog (apS [22, 22] 22 [t6, .slice (some ⟨g, 0, none⟩) 1 1]) w K :=
  r_apAt (news := tlC u) slt22 h rfl (cells_at_row hg) (tlC_one u) (by omega) (by omega) hb fun v' w' ho hc ha => hk v' w' (by
    have e : recCells tlC (P ++ [u]) = recCells tlC P ++ tlC u := by simp [recCells]
    unfold TlAt RecAt
    rw [e, List.length_append]
    exact ho) hc ha
set_option maxRecDepth 100000 in
/-- append of two numbers whose slice lies ready. -/
theorem ap30 {base : Nat} {w : World} {t8 : Value} {Q : List Int} {x y : Int} {g : Nat} {K : Value → World → Prop} (h : IntsAt base w t8 Q) (hl : Q.length ≤ 100000) (hb : base ≤ w.heap.size) (hg : w.heap[g]? = some (.cells #[.int .i64 x, .int .i64 y] 3 (0, 0)))
    (hk : ∀ v' w', IntsAt base w' v' (Q ++ [x, y]) → Chg (fun k => t8.ownBlock = some k) w w' → K v' w') :
    semW Try.prog (apS [30, 30] 30 [t8, .slice (some ⟨g, 0, none⟩) 2 2]) w K :=
  r_apAt (news := [.int .i64 x, .int .i64 y]) slt30 h rfl (cells_at_row hg) (by intro u hu; simp at hu; rcases hu with rfl | rfl <;> rfl) (by omega) (by omega) hb fun v' w' ho hc ha => hk v' w' (by
    have e : recCells iC (Q ++ [x, y]) = recCells iC Q ++ [.int .i64 x, .int .i64 y] := by simp [recCells, iC]
    unfold IntsAt RecAt
    rw [e, List.length_append]
    exact ho) hc

set_option maxRecDepth 100000 in
theorem reg2 {w0 w : World} {b10 b13 : Nat} {s u : Tile} {pre : List Tile} {t6 t8 : Value} {k : Value → Value → World → Prop} (S : PSt w0 b10 s pre w t6 t8) (h13 : w.heap[b13]? = some (.cells (tlV u).cells 32 (0, 0))) (hn6 : ∀ q, t6.ownBlock = some q → q ≠ b13) (hu : u ∉ once pre) (hl : (once pre).length ≤ 1000)
    (hk : ∀ t6' t8' w', PSt w0 b10 s (pre ++ [u]) w' t6' t8' → k t6' t8' w') : Reg2 t6 t8 (.pointer (some ⟨b13, 0, none⟩)) w k := by
  have hoe : once (pre ++ [u]) = once pre ++ [u] := by rw [once_append]; simp [addU, hu]
  have hee : ends (once (pre ++ [u])) = ends (once pre) ++ [tE u, tW u] := by rw [hoe]; simp [ends]
  have hel := ends_len (once pre)
  obtain ⟨tl, ps, kp, blk, ne⟩ := S
  have sz := kp.size
  have hn8 : ∀ q, t8.ownBlock = some q → q ≠ b13 := fun q hq e => by
    obtain ⟨cur, hc⟩ := own_type ps hq
    rw [e, h13] at hc
    injection hc with hc
    injection hc with _ hc _
    exact absurd hc (by decide)
  have n810 : ∀ q, t8.ownBlock = some q → q ≠ b10 := fun q hq e => by
    obtain ⟨cur, hc⟩ := own_type ps hq
    rw [e, blk] at hc
    injection hc with hc
    injection hc with _ hc _
    exact absurd hc (by decide)
  have nX : ¬ (fun q => t6.ownBlock = some q ∨ t8.ownBlock = some q) b13 := fun h => by
    rcases h with h | h
    · exact hn6 _ h rfl
    · exact hn8 _ h rfl
  have c1 : w.cell? ⟨b13, 1, none⟩ = some (.int .i64 (tE u)) := by rw [cell_row h13]; rfl
  have c3 : w.cell? ⟨b13, 3, none⟩ = some (.int .i64 (tW u)) := by rw [cell_row h13]; rfl
  unfold Reg2
  refine ⟨fun q => t6.ownBlock = some q ∨ t8.ownBlock = some q, ?_⟩
  simp only [r_tx, r_ln, r_pick, r_pickT, r_pickF, r_condT, r_condF, r_gdTT, r_gdFF, r_gdTF, r_gdFT, r_gqTT, r_gqFF, r_gqTF, r_gqFT, r_not, r_lss, r_leq, r_gtr, r_geq, r_eql, r_neq, r_add, r_sub, r_min2, r_max2, r_min3, r_max3, r_fa, r_iaS, r_iaA, r_ex2a, r_ex2b, r_ex3a, r_ex3b, r_ex3c, r_nc, r_keepE, Nat.zero_add, Nat.add_zero, Nat.mul_one, Int.toNat_natCast, toNat_sub1, toNat_add1, decide_true, decide_false, Bool.not_true, Bool.not_false, if_true, if_false, Bool.false_eq_true, reduceCtorEq]
  rw [r_txn (n := 4) (X := fun q => t6.ownBlock = some q ∨ t8.ownBlock = some q) h13 rfl nX, r_txl (X := fun q => t6.ownBlock = some q ∨ t8.ownBlock = some q) c1 nX, r_txl (X := fun q => t6.ownBlock = some q ∨ t8.ownBlock = some q) c3 nX]
  have bl10 := block_lt blk
  -- what remains when both have grown
  have fin : ∀ (w1 w2 : World) (v6 v8 : Value), TlAt w0.heap.size w2 v6 (once pre ++ [u]) → IntsAt w0.heap.size w2 v8 (ends (once pre) ++ [tE u, tW u]) → Kp w0 w2 → w2.heap[b10]? = some (.cells (tlV s).cells 32 (0, 0)) → (∀ q, v6.ownBlock = some q → q ≠ b10) → k v6 v8 w2 := fun w1 w2 v6 v8 a1 a2 a3 a4 a5 =>
    hk v6 v8 w2 ⟨by rw [hoe]; exact a1, by rw [hee]; exact a2, a3, a4, a5⟩
  have tlagg : Value.agg (tlV u).cells = tlV u := rfl
  have mono6 : ∀ {a b : World}, Chg (fun q => t6.ownBlock = some q) a b → Chg (fun q => t6.ownBlock = some q ∨ t8.ownBlock = some q) a b := fun h => h.mono fun _ _ h => .inl h
  rw [tlagg]
  refine ⟨?_, ?_, trivial⟩
  · rw [bs22']
    refine ⟨BX.of_below (below_alloc _), ?_, ?_, trivial⟩
    · -- tile, then numbers
      have ka := below_alloc (w := w) (.cells (tlV u).cells 32)
      have ga := heap_alloc_new w (.cells (tlV u).cells 32)
      generalize w.alloc (.cells (tlV u).cells 32) = wa at *
      have sa := ka.size
      refine ap22 (tl.kp ka) (by omega) (by omega) ga fun v6 wb o6 cb hb => ⟨BX.of_chg (mono6 cb), ?_⟩
      have sb := cb.size
      dsimp only
      rw [bs30_2]
      refine ⟨BX.of_below (below_alloc _), ?_⟩
      have psb : IntsAt w0.heap.size wb t8 (ends (once pre)) := (ps.kp ka).chg cb fun q hq e => rec_ne (ps.kp ka) (tl.kp ka) (by decide) q hq e
      have kc := below_alloc (w := wb) (.cells #[.int .i64 (tE u), .int .i64 (tW u)] 3)
      have gc := heap_alloc_new wb (.cells #[.int .i64 (tE u), .int .i64 (tW u)] 3)
      generalize wb.alloc (.cells #[.int .i64 (tE u), .int .i64 (tW u)] 3) = wc at *
      have sc := kc.size
      refine ap30 (psb.kp kc) (by omega) (by omega) gc fun v8 wd o8 cd => ?_
      have kb : Kp w0 wb := Kp.of_chg (Kp.trans kp ka) cb fun q e => (tl.lt e).1
      have kcc := Kp.trans kb kc
      refine fin wc wd v6 v8 ((o6.kp kc).chg cd fun q hq e => rec_ne (psb.kp kc) (o6.kp kc) (by decide) q e hq) o8 (Kp.of_chg kcc cd fun q e => (ps.lt e).1) ?_ fun q hq e => ?_
      · exact cd.at (block_below (cb.at (block_below blk ka) fun h => ne _ h rfl) kc) fun h => n810 _ h rfl
      · rcases hb q hq with h | h
        · exact ne q h e
        · omega
    · -- numbers' slice, tile, numbers
      have ka := below_alloc (w := w) (.cells (tlV u).cells 32)
      have ga := heap_alloc_new w (.cells (tlV u).cells 32)
      generalize w.alloc (.cells (tlV u).cells 32) = wa at *
      have sa := ka.size
      try dsimp only
      rw [bs30_2]
      refine ⟨BX.of_below (below_alloc _), ?_⟩
      have kc := below_alloc (w := wa) (.cells #[.int .i64 (tE u), .int .i64 (tW u)] 3)
      have gc := heap_alloc_new wa (.cells #[.int .i64 (tE u), .int .i64 (tW u)] 3)
      generalize wa.alloc (.cells #[.int .i64 (tE u), .int .i64 (tW u)] 3) = wc at *
      have sc := kc.size
      have kac := Kp.trans ka kc
      refine ap22 (tl.kp kac) (by omega) (by omega) (block_below ga kc) fun v6 wb o6 cb hb => ⟨BX.of_chg (mono6 cb), ?_⟩
      have sb := cb.size
      have psb : IntsAt w0.heap.size wb t8 (ends (once pre)) := (ps.kp kac).chg cb fun q hq e => rec_ne (ps.kp kac) (tl.kp kac) (by decide) q hq e
      have gcb := cb.at gc fun h => by have := (tl.lt h).2; omega
      refine ap30 psb (by omega) (by omega) gcb fun v8 wd o8 cd => ?_
      have kb : Kp w0 wb := Kp.of_chg (Kp.trans kp kac) cb fun q e => (tl.lt e).1
      refine fin wb wd v6 v8 (o6.chg cd fun q hq e => rec_ne psb o6 (by decide) q e hq) o8 (Kp.of_chg kb cd fun q e => (ps.lt e).1) ?_ fun q hq e => ?_
      · exact cd.at (cb.at (block_below blk kac) fun h => ne _ h rfl) fun h => n810 _ h rfl
      · rcases hb q hq with h | h
        · exact ne q h e
        · omega
  · -- numbers' slice first
    rw [bs30_2]
    refine ⟨BX.of_below (below_alloc _), ?_⟩
    have kc := below_alloc (w := w) (.cells #[.int .i64 (tE u), .int .i64 (tW u)] 3)
    have gc := heap_alloc_new w (.cells #[.int .i64 (tE u), .int .i64 (tW u)] 3)
    generalize w.alloc (.cells #[.int .i64 (tE u), .int .i64 (tW u)] 3) = wc at *
    have sc := kc.size
    dsimp only
    rw [bs22']
    refine ⟨BX.of_below (below_alloc _), ?_⟩
    have ka := below_alloc (w := wc) (.cells (tlV u).cells 32)
    have ga := heap_alloc_new wc (.cells (tlV u).cells 32)
    generalize wc.alloc (.cells (tlV u).cells 32) = wa at *
    have sa := ka.size
    have kac := Kp.trans kc ka
    refine ap22 (tl.kp kac) (by omega) (by omega) ga fun v6 wb o6 cb hb => ⟨BX.of_chg (mono6 cb), ?_⟩
    have sb := cb.size
    have psb : IntsAt w0.heap.size wb t8 (ends (once pre)) := (ps.kp kac).chg cb fun q hq e => rec_ne (ps.kp kac) (tl.kp kac) (by decide) q hq e
    have gcb := cb.at (block_below gc ka) fun h => by have := (tl.lt h).2; omega
    refine ap30 psb (by omega) (by omega) gcb fun v8 wd o8 cd => ?_
    have kb : Kp w0 wb := Kp.of_chg (Kp.trans kp kac) cb fun q e => (tl.lt e).1
    refine fin wb wd v6 v8 (o6.chg cd fun q hq e => rec_ne psb o6 (by decide) q e hq) o8 (Kp.of_chg kb cd fun q e => (ps.lt e).1) ?_ fun q hq e => ?_
    · exact cd.at (cb.at (block_below blk kac) fun h => ne _ h rfl) fun h => n810 _ h rfl
    · rcases hb q hq with h | h
      · exact ne q h e
      · omega

end Go.Proofs.Ytgalbokmgffhkaa
