/- Texts of my own, merged by program: J4 J5 N2. -/
import Derived.Test.YtgalbokmgffhkaaM20
import Derived.Test.YtgalbokmgffhkaaM13
set_option linter.all false
/- Contracts: put, capped of the specification. -/
namespace Go.Proofs.Ytgalbokmgffhkaa
open Go.Lf Go.RowKit Go.Wg

theorem capped_calls (n : Nat) (w : World) : Calls Try.prog 88 #[.int .i64 n] w fun e w' => e = .returned (.int .i64 (capI n)) ∧ w = w' := by
  refine lift88 ?_
  unfold S88
  simp only [r_ln, r_pick, r_pickT, r_pickF, r_condT, r_condF, r_gdTT, r_gdFF, r_gdTF, r_gdFT, r_gqTT, r_gqFF, r_gqTF, r_gqFT, r_not, r_lss, r_leq, r_gtr, r_geq, r_eql, r_neq, r_add, r_sub, r_min2, r_max2, r_min3, r_max3, r_fa, r_iaS, r_iaA, r_ex2a, r_ex2b, r_ex3a, r_ex3b, r_ex3c, r_nc, r_keepE, Nat.zero_add, Nat.add_zero, Nat.mul_one, Int.toNat_natCast, toNat_sub1, toNat_add1, decide_true, decide_false, Bool.not_true, Bool.not_false, if_true, if_false, Bool.false_eq_true, reduceCtorEq]
  exact ⟨by first | rfl | trivial, by first | rfl | trivial⟩

abbrev C80 (t1 t2 t3 t4 t5 t20 t30 : Value) (w : World) (K : Value → Prop) : Prop :=
  binQ Try.prog w .geq 3 false t3 t2 fun t33 =>
  gdQ t33 true (fun k => k t1) fun t35 =>
  gdQ t33 true (fun k => k t30) fun t36 =>
  gdQ t33 true (fun k => iaS 1 t35 t36 k) fun t37 =>
  gdQ t33 true (fun k => ld1 w t37 k) fun t38 =>
  gdQ t33 true (fun k => fa1 t5 0 k) fun t39 =>
  gdQ t33 true (fun k => ld1 w t39 k) fun t40 =>
  gdQ t33 true (fun k => binQ Try.prog w .neq 3 false t38 t40 k) fun t41 =>
  pickQ t33 t41 (.bool false) fun t42 =>
  gdQ t42 false (fun k => k t20) fun t44 =>
  gdQ t42 false (fun k => binQ Try.prog w .gtr 3 true t44 (.int .i64 0) k) fun t45 =>
  gdQ t42 false (fun k => k t45) fun t46 =>
  gdQ t46 true (fun k => k t4) fun t47 =>
  gdQ t46 true (fun k => k (.int .i64 8)) fun t48 =>
  gdQ t46 true (fun k => binQ Try.prog w .rem 3 false t47 t48 k) fun t49 =>
  gdQ t46 true (fun k => fa1 t5 3 k) fun t50 =>
  gdQ t46 true (fun k => ld1 w t50 k) fun t51 =>
  gdQ t46 true (fun k => binQ Try.prog w .neq 3 false t49 t51 k) fun t52 =>
  gdQ t42 false (fun k => pickQ t46 t52 (.bool false) k) fun t53 =>
  pickQ t42 (.bool true) t53 fun t54 =>
  K t54

theorem r_rem8 {w : World} {K : Value → Prop} {t : TypeId} {lit : Bool} (s : Nat) : binQ Try.prog w .rem t lit (.int .i64 s) (.int .i64 8) K = K (.int .i64 ((s % 8 : Nat) : Int)) := r_remN s 8 (by omega)
theorem r_mul8 {w : World} {K : Value → Prop} {t : TypeId} {lit : Bool} (s : Nat) (hs : s ≤ 1000000000) : binQ Try.prog w .mul t lit (.int .i64 s) (.int .i64 8) K = K (.int .i64 ((s * 8 : Nat) : Int)) := r_mulN s 8 (by omega)

set_option maxRecDepth 100000 in
theorem cond80 {w : World} {lv : Value} {l : List Tile} {t : Tile} {W p s b5 : Nat} {K : Value → Prop} (hL : RdInts w lv (lineL l)) (hn : 0 < (lineL l).length) (h5 : w.heap[b5]? = some (.cells (tlV t).cells 32 (0, 0))) (hK : K (.bool (decide (misfit l W p s t)))) :
    C80 lv (.int .i64 W) (.int .i64 p) (.int .i64 s) (.pointer (some ⟨b5, 0, none⟩)) (.int .i64 (p % W : Nat)) (.int .i64 (aboveS l W p s : Nat)) w K := by
  have habl : aboveS l W p s < (lineL l).length := Nat.mod_lt _ hn
  have c0 : w.cell? ⟨b5, 0, none⟩ = some (.int .i64 (tN t)) := by rw [cell_row h5]; rfl
  have c3 : w.cell? ⟨b5, 3, none⟩ = some (.int .i64 (tW t)) := by rw [cell_row h5]; rfl
  obtain ⟨lb, lo, lcp, rfl, hla⟩ := hL.at habl
  have hii : ((aboveS l W p s : Nat) : Int).toNat = aboveS l W p s := by omega
  unfold C80
  have last : ∀ b : Bool, (b = true ↔ misfit l W p s t) → K (.bool b) := fun b hb => by
    have : b = decide (misfit l W p s t) := by
      cases b with
      | true => exact (decide_eq_true (hb.1 rfl)).symm
      | false => exact (decide_eq_false fun h => absurd (hb.2 h) Bool.false_ne_true).symm
    rw [this]; exact hK
  have second : ¬ (W ≤ p ∧ (lineL l).getD (aboveS l W p s) 0 ≠ tN t) → ∀ x : Bool, x = false →
    (gdQ (.bool x) false (fun k => k (.int .i64 (p % W : Nat))) fun t44 =>
      gdQ (.bool x) false (fun k => binQ Try.prog w .gtr 3 true t44 (.int .i64 0) k) fun t45 =>
      gdQ (.bool x) false (fun k => k t45) fun t46 =>
      gdQ t46 true (fun k => k (.int .i64 s)) fun t47 =>
      gdQ t46 true (fun k => k (.int .i64 8)) fun t48 =>
      gdQ t46 true (fun k => binQ Try.prog w .rem 3 false t47 t48 k) fun t49 =>
      gdQ t46 true (fun k => fa1 (.pointer (some ⟨b5, 0, none⟩)) 3 k) fun t50 =>
      gdQ t46 true (fun k => ld1 w t50 k) fun t51 =>
      gdQ t46 true (fun k => binQ Try.prog w .neq 3 false t49 t51 k) fun t52 =>
      gdQ (.bool x) false (fun k => pickQ t46 t52 (.bool false) k) fun t53 =>
      pickQ (.bool x) (.bool true) t53 fun t54 => K t54) := fun h1 x hx => by
    subst hx
    by_cases g3 : 0 < p % W
    case neg =>
      have g3' : ¬ (0 : Int) < ((p % W : Nat) : Int) := by omega
      simp (disch := omega) only [r_ln, r_pick, r_pickT, r_pickF, r_condT, r_condF, r_gdTT, r_gdFF, r_gdTF, r_gdFT, r_gqTT, r_gqFF, r_gqTF, r_gqFT, r_not, r_lss, r_leq, r_gtr, r_geq, r_eql, r_neq, r_add, r_sub, r_min2, r_max2, r_min3, r_max3, r_fa, r_iaS, r_iaA, r_ex2a, r_ex2b, r_ex3a, r_ex3b, r_ex3c, r_nc, r_keepE, Nat.zero_add, Nat.add_zero, Nat.mul_one, Int.toNat_natCast, toNat_sub1, toNat_add1, decide_true, decide_false, Bool.not_true, Bool.not_false, if_true, if_false, Bool.false_eq_true, reduceCtorEq, g3', r_gqU]
      exact last false ⟨fun h => absurd h Bool.false_ne_true, fun h => by
        rcases h with h | h
        · exact absurd h h1
        · exact absurd h.1 g3⟩
    have g3' : (0 : Int) < ((p % W : Nat) : Int) := by omega
    simp (disch := omega) only [r_ln, r_pick, r_pickT, r_pickF, r_condT, r_condF, r_gdTT, r_gdFF, r_gdTF, r_gdFT, r_gqTT, r_gqFF, r_gqTF, r_gqFT, r_not, r_lss, r_leq, r_gtr, r_geq, r_eql, r_neq, r_add, r_sub, r_min2, r_max2, r_min3, r_max3, r_fa, r_iaS, r_iaA, r_ex2a, r_ex2b, r_ex3a, r_ex3b, r_ex3c, r_nc, r_keepE, Nat.zero_add, Nat.add_zero, Nat.mul_one, Int.toNat_natCast, toNat_sub1, toNat_add1, decide_true, decide_false, Bool.not_true, Bool.not_false, if_true, if_false, Bool.false_eq_true, reduceCtorEq, decide_eq_true g3', r_rem8, r_ld c3, r_gqU]
    by_cases g4 : ((s % 8 : Nat) : Int) = tW t
    · simp only [decide_eq_true g4, Bool.not_true]
      exact last false ⟨fun h => absurd h Bool.false_ne_true, fun h => by
        rcases h with h | h
        · exact absurd h h1
        · exact absurd g4 h.2⟩
    · simp only [g4, decide_false, Bool.not_false]
      exact last true ⟨fun _ => .inr ⟨g3, g4⟩, fun _ => rfl⟩
  by_cases g1 : W ≤ p
  case neg =>
    have g1' : ¬ (W : Int) ≤ (p : Int) := by omega
    simp (disch := omega) only [r_geq, g1', decide_false, r_gqFT, r_pickF]
    exact second (fun h => g1 h.1) false rfl
  have g1' : (W : Int) ≤ (p : Int) := by omega
  by_cases g2 : (lineL l).getD (aboveS l W p s) 0 = tN t
  · simp (disch := omega) only [r_geq, decide_eq_true g1', r_gqTT, r_iaS, hii, Nat.mul_one, r_ld hla, r_fa, Nat.zero_add, r_ld c0, r_neq, decide_eq_true g2, Bool.not_true, r_pickT]
    have := second (fun h => h.2 g2) false rfl
    simp (disch := omega) only [r_fa, Nat.zero_add] at this
    exact this
  · simp (disch := omega) only [r_ln, r_pick, r_pickT, r_pickF, r_condT, r_condF, r_gdTT, r_gdFF, r_gdTF, r_gdFT, r_gqTT, r_gqFF, r_gqTF, r_gqFT, r_not, r_lss, r_leq, r_gtr, r_geq, r_eql, r_neq, r_add, r_sub, r_min2, r_max2, r_min3, r_max3, r_fa, r_iaS, r_iaA, r_ex2a, r_ex2b, r_ex3a, r_ex3b, r_ex3c, r_nc, r_keepE, Nat.zero_add, Nat.add_zero, Nat.mul_one, Int.toNat_natCast, toNat_sub1, toNat_add1, decide_true, decide_false, Bool.not_true, Bool.not_false, if_true, if_false, Bool.false_eq_true, reduceCtorEq, decide_eq_true g1', hii, r_ld hla, r_ld c0, g2, r_gqU]
    exact last true ⟨fun _ => .inl ⟨g1, g2⟩, fun _ => rfl⟩

set_option maxRecDepth 100000 in
set_option maxHeartbeats 1000000 in
theorem put_calls {lv : Value} {l : List Tile} {t : Tile} {W p s : Nat} (w : World) (hL : RdInts w lv (lineL l)) (hset : IsSet l) (ht : t ∈ l) (hW : 0 < W ∧ W ≤ 4) (hp : p ≤ 100) (hs : s < (lineL l).length ^ W * 8) (hb : (lineL l).length ^ W * 8 ≤ 60000) :
    Calls Try.prog 80 #[tlV t, lv, .int .i64 W, .int .i64 p, .int .i64 s] w fun e w' => e = .returned (.int .i64 (putV (putM l W p s t))) ∧ Kp w w' := by
  have hn := line_pos hset
  have hn8 := line_len l
  have hlt := mem_line hset.cols ht
  have hcr := cols_range (hset.cols t ht)
  have hxW : p % W < W := Nat.mod_lt _ hW.1
  have hpx : (lineL l).length ^ (p % W) ≤ (lineL l).length ^ W := Nat.pow_le_pow_right hn (by omega)
  have hpp : 0 < (lineL l).length ^ (p % W) := Nat.pow_pos hn
  have hL' := hL
  obtain ⟨la, lc, rfl, _, _⟩ := hL.len
  have hidx : idxI (lineL l) (tS t) = ((lidx l (tS t) : Nat) : Int) := by rw [idxI, if_pos hlt.2]; rfl
  have hil := lidx_lt hlt.2
  refine lift80 ?_
  unfold S80
  refine r_box fun b5 w1 e5 s5 h5 k5 => ?_
  have h5' : w1.heap[b5]? = some (.cells (tlV t).cells 32 (0, 0)) := h5
  simp only [r_ln]
  rw [r_remN _ _ hW.1]
  refine r_use fok69 (power_calls (n := (lineL l).length) (k := p % W) w1 (by omega) hn (by omega)) rfl ?_
  rintro _ _ ⟨rfl, rfl⟩
  refine ⟨_, rfl, ?_⟩
  rw [r_mul8 _ (by omega), r_quoN _ _ (by omega) (by omega), r_remN _ _ hn]
  have hab : s / ((lineL l).length ^ (p % W) * 8) % (lineL l).length = aboveS l W p s := rfl
  rw [hab]
  have habl : aboveS l W p s < (lineL l).length := Nat.mod_lt _ hn
  have habs : aboveS l W p s * ((lineL l).length ^ (p % W) * 8) ≤ s := by
    have h1 : aboveS l W p s ≤ s / ((lineL l).length ^ (p % W) * 8) := Nat.mod_le _ _
    exact Nat.le_trans (Nat.mul_le_mul_right _ h1) (Nat.div_mul_le_self _ _)
  have habm : s % 8 ≤ s - aboveS l W p s * ((lineL l).length ^ (p % W) * 8) := by
    have e : aboveS l W p s * ((lineL l).length ^ (p % W) * 8) = 8 * (aboveS l W p s * (lineL l).length ^ (p % W)) := by rw [← Nat.mul_assoc, Nat.mul_comm]
    rw [e] at habs ⊢
    omega
  have hmul2 : lidx l (tS t) * ((lineL l).length ^ (p % W) * 8) ≤ 8 * 60000 := Nat.mul_le_mul (by omega) (by omega)
  have hput : putM l W p s t = if misfit l W p s t then none else some (s - aboveS l W p s * ((lineL l).length ^ (p % W) * 8) + lidx l (tS t) * ((lineL l).length ^ (p % W) * 8) - s % 8 + (tE t).toNat) := rfl
  refine r_drew fun w2 k2 _ => ?_
  have k02 := Kp.trans k5 k2
  have h52 := block_below h5' k2
  refine cond80 (hL'.below k02) hn h52 ?_
  by_cases hm : misfit l W p s t
  · simp only [decide_eq_true hm, r_condT]
    exact ⟨by rw [hput, if_pos hm]; rfl, k02⟩
  simp only [hm, decide_false, r_condF]
  rw [if_neg hm] at hput
  rw [hput]
  refine r_drew fun w3 k3 _ => ?_
  have k03 := Kp.trans k02 k3
  have h53 := block_below h52 k3
  have c1 : w3.cell? ⟨b5, 1, none⟩ = some (.int .i64 (tE t)) := by rw [cell_row h53]; rfl
  have c2 : w3.cell? ⟨b5, 2, none⟩ = some (.int .i64 (tS t)) := by rw [cell_row h53]; rfl
  rw [r_mulN _ _ (by omega)]
  simp only [r_fa, Nat.zero_add, r_ld c2]
  rw [r_sub _ _ (by omega) (by omega), r_rem8]
  simp only [r_ld c1]
  refine r_use fok107 (index107_calls (tS t) w3 (hL'.below k03)) rfl ?_
  rintro _ w4 ⟨rfl, k4⟩
  refine ⟨_, rfl, k4, ?_⟩
  dsimp only
  rw [hidx, r_mulN _ _ (by omega)]
  generalize aboveS l W p s * ((lineL l).length ^ (p % W) * 8) = A at *
  generalize lidx l (tS t) * ((lineL l).length ^ (p % W) * 8) = B at *
  rw [r_add _ _ (by omega) (by omega), r_sub _ _ (by omega) (by omega), r_add _ _ (by omega) (by omega)]
  refine ⟨?_, Kp.trans k03 k4⟩
  congr 2
  show _ = ((_ : Nat) : Int)
  omega

end Go.Proofs.Ytgalbokmgffhkaa

/- Contract: ways of the specification. -/
namespace Go.Proofs.Ytgalbokmgffhkaa
open Go.Lf Go.RowKit Go.Wg

theorem encD_ex {n : Nat} (hn : 0 < n) : ∀ (W s : Nat), s < n ^ W → ∃ d : List Nat, d.length = W ∧ (∀ a ∈ d, a < n) ∧ encD n d = s
  | 0, s, h => ⟨[], rfl, by simp, by rw [encD]; simp at h; omega⟩
  | W + 1, s, h => by
    have h1 : s / n < n ^ W := by
      rw [Nat.pow_succ] at h
      exact Nat.div_lt_of_lt_mul (by rw [Nat.mul_comm]; exact h)
    obtain ⟨d, d1, d2, d3⟩ := encD_ex hn W (s / n) h1
    refine ⟨s % n :: d, by simp [d1], fun a ha => ?_, ?_⟩
    · rcases List.mem_cons.1 ha with rfl | ha
      · exact Nat.mod_lt _ hn
      · exact d2 a ha
    · rw [encD, d3]
      exact Nat.mod_add_div s n
theorem put_lt {l : List Tile} (hs : IsSet l) {W p s s' : Nat} {t : Tile} (ht : t ∈ l) (hW : 0 < W) (hlt : s < (lineL l).length ^ W * 8) (h : putM l W p s t = some s') : s' < (lineL l).length ^ W * 8 := by
  have hn := line_pos hs
  obtain ⟨d, d1, d2, d3⟩ := encD_ex hn W (s / 8) (Nat.div_lt_of_lt_mul (by rw [Nat.mul_comm]; exact hlt))
  have he : s = encS (lineL l).length d (s % 8) := by rw [encS, d3]; omega
  rw [he, put_enc hs.cols ht d1 hW d2 (Nat.mod_lt _ (by omega))] at h
  split at h
  · cases h
  · injection h with h
    have hm := (mem_line hs.cols ht).2
    have hl := encD_lt (n := (lineL l).length) (d := d.set (p % W) (lidx l (tS t))) fun a ha => by
      rcases List.mem_or_eq_of_mem_set ha with h1 | h1
      · exact d2 a h1
      · rw [h1]; exact lidx_lt hm
    have hcr := cols_range (hs.cols t ht)
    rw [List.length_set, d1] at hl
    rw [← h, encS]
    omega

def allS (l : List Tile) (W : Nat) : Nat := (lineL l).length ^ W * 8
def wayL (l : List Tile) (W H p : Nat) : List Int := (List.range (allS l W)).map fun s => capI (Wq l W H (W * H - p) s)
theorem wayL_len (l : List Tile) (W H p : Nat) : (wayL l W H p).length = allS l W := by simp [wayL]
theorem wayL_at {l : List Tile} {W H p s : Nat} (hs : s < allS l W) : (wayL l W H p).getD s 0 = capI (Wq l W H (W * H - p) s) := by
  rw [getD_lt _ _ _ (by rw [wayL_len]; exact hs)]
  simp [wayL]

theorem cappedI_calls (x : Int) (w : World) : Calls Try.prog 88 #[.int .i64 x] w fun e w' => e = .returned (.int .i64 (min x 1099511627777)) ∧ w = w' := by
  refine lift88 ?_
  unfold S88
  simp only [r_ln, r_pick, r_pickT, r_pickF, r_condT, r_condF, r_gdTT, r_gdFF, r_gdTF, r_gdFT, r_gqTT, r_gqFF, r_gqTF, r_gqFT, r_not, r_lss, r_leq, r_gtr, r_geq, r_eql, r_neq, r_add, r_sub, r_min2, r_max2, r_min3, r_max3, r_fa, r_iaS, r_iaA, r_ex2a, r_ex2b, r_ex3a, r_ex3b, r_ex3c, r_nc, r_keepE, Nat.zero_add, Nat.add_zero, Nat.mul_one, Int.toNat_natCast, toNat_sub1, toNat_add1, decide_true, decide_false, Bool.not_true, Bool.not_false, if_true, if_false, Bool.false_eq_true, reduceCtorEq]
  exact ⟨by first | rfl | trivial, by first | rfl | trivial⟩
theorem st30 {w : World} {a : Addr} {x : Option Addr} {n c : Nat} {v : Value} {K : World → Prop} (hc : w.cell? a = some v) (hf : w.frozen? a = false) : stW Try.prog 30 (.pointer (some a)) (.slice x n c) w K = K (w.setCell a (.slice x n c)) := by
  have e : stW Try.prog 30 (.pointer (some a)) (.slice x n c) w K = ((w.cell? (a.add 0)).isSome = true ∧ w.frozen? (a.add 0) = false ∧ true = true ∧ K (w.setCell (a.add 0) (.slice x n c))) := by kernel_rfl
  rw [e]
  have ha : a.add 0 = a := rfl
  simp [ha, hc, hf]
/-- make([][]int, n) -/
theorem mk23 {n : Nat} {w : World} {K : Value → World → Prop} (hn : n ≤ 1000000) (h : ∀ v w', RecAt 30 1 vE w.heap.size w' v (List.replicate n nilS) → Kp w w' → K v w') :
    mkW Try.prog 23 (.int .i64 n) (.int .i64 n) w K := by
  have e : ∀ (l : Int) (K : Value → World → Prop), mkW Try.prog 23 (.int .i64 l) (.int .i64 l) w K = (0 ≤ l ∧ l ≤ l ∧ l ≤ 4611686018427387904 ∧ ((24 : Nat) : Int) * l ≤ 281474976710656 ∧ 0 < 1 ∧
      K (.slice (some ⟨w.heap.size, 0, none⟩) l.toNat l.toNat) (w.alloc (.cells (mkCells #[.slice none 0 0] (l.toNat * 1)) 30))) := fun l K => by kernel_rfl
  rw [e]
  refine ⟨by omega, by omega, by omega, by omega, by omega, ?_⟩
  rw [Nat.mul_one, mkCells_one, Int.toNat_natCast]
  exact h _ _ (made_rec (x := nilS) (enc := vE) rfl hn w) (below_alloc _)

/-- The rows from p on are there, each in a block that is not g. -/
structure WSt (l : List Tile) (W H base : Nat) (v31 : Value) (vs : List Value) (p : Nat) (g : Nat) (w : World) : Prop where
  out : RecAt 30 1 vE base w v31 vs
  len : vs.length = W * H + 1
  rows : ∀ q u, p ≤ q → vs[q]? = some u → IntsAt base w u (wayL l W H q) ∧ ∀ k, u.ownBlock = some k → k ≠ g
theorem WSt.later {l : List Tile} {W H base p g : Nat} {v31 : Value} {vs : List Value} {w w' : World} (h : WSt l W H base v31 vs p g w) (k : Kp w w') : WSt l W H base v31 vs p g w' :=
  ⟨h.out.kp k, h.len, fun q u hq hu => ⟨(h.rows q u hq hu).1.kp k, (h.rows q u hq hu).2⟩⟩
/-- A store into the block g. -/
theorem WSt.store {l : List Tile} {W H base p g : Nat} {v31 : Value} {vs : List Value} {w w' : World} (h : WSt l W H base v31 vs p g w) (hg : ∀ k, v31.ownBlock = some k → k ≠ g) (k : Chg (fun q => q = g) w w') : WSt l W H base v31 vs p g w' :=
  ⟨h.out.chg k fun q hq e => hg q hq e, h.len, fun q u hq hu => ⟨(h.rows q u hq hu).1.chg k fun x hx e => (h.rows q u hq hu).2 x hx e, (h.rows q u hq hu).2⟩⟩

/-- What a tile adds. -/
def addW (l : List Tile) (W H p s : Nat) (t : Tile) : Nat := match putM l W p s t with
  | some s' => Wq l W H (W * H - (p + 1)) s'
  | none => 0
theorem Wq_tot {l : List Tile} {W H p s : Nat} (hp : p < W * H) : Wq l W H (W * H - p) s = tot (addW l W H p s) l := by
  obtain ⟨q, hq⟩ : ∃ q, W * H - p = q + 1 := ⟨W * H - p - 1, by omega⟩
  rw [hq, Wq]
  have e1 : W * H - (q + 1) = p := by omega
  have e2 : W * H - (p + 1) = q := by omega
  rw [e1]
  refine tot_congr fun t _ => ?_
  rw [addW, e2]
  cases putM l W p s t <;> rfl

set_option maxRecDepth 100000 in
set_option maxHeartbeats 800000 in
/-- One state: the sum over the tiles. -/
theorem r75_3 {l : List Tile} {W H base p g s : Nat} {sv lv v31 u0 : Value} {vs : List Value} {R0 : List Int} {w0 w : World} {next : Value → World → Prop} (hset : IsSet l) (hW : 1 ≤ W ∧ W ≤ 4) (hH : 1 ≤ H ∧ H ≤ 4) (hall : allS l W ≤ 60000) (hr : RdT w0 sv l) (hL : RdInts w0 lv (lineL l)) (hk : Kp w0 w)
    (hp : p < W * H) (hs : s < allS l W) (S : WSt l W H base v31 vs (p + 1) g w) (hv : ∀ k, v31.ownBlock = some k → k ≠ g) (hup : vs[p]? = some u0) (hu0 : IntsAt base w u0 R0) (hR0 : R0.length = allS l W) (hg : u0.ownBlock = some g)
    (hn : ∀ w', Kp w0 w' ∨ True → WSt l W H base v31 vs (p + 1) g w' → IntsAt base w' u0 (R0.set s (capI (Wq l W H (W * H - p) s))) → (∃ wm, Kp w wm ∧ Chg (fun q => q = g) wm w') → next (.int .i64 ((s : Int) + 1)) w') :
    S75L3 sv (.int .i64 W) (.int .i64 p) (.int .i64 s) lv v31 next w := by
  have hWH : W * H ≤ 16 := Nat.mul_le_mul hW.2 hH.2
  obtain ⟨sa, sc, es, _⟩ := hr.len
  have lns : ∀ K : Value → Prop, ln1 sv K = K (.int .i64 l.length) := fun K => by rw [es]; rfl
  have hlm := hset.most
  unfold S75L3
  refine ⟨fun t15 t16 wr => ∃ i : Nat, i ≤ l.length ∧ t16 = .int .i64 i ∧ t15 = .int .i64 (capI (tot (addW l W H p s) (l.take i))) ∧ Kp w wr, fun _ t16 _ => l.length - (intOf t16).toNat, ⟨0, by omega, rfl, rfl, Kp.refl _⟩, ?_⟩
  rintro _ _ _ wr ⟨i, hi, rfl, rfl, kr⟩
  rw [lns]
  have Sr := S.later kr
  have hlenv := S.len
  by_cases hlt : i < l.length
  case neg =>
    have hlt' : ¬ (i : Int) < (l.length : Int) := by omega
    rw [List.take_of_length_le (by omega), ← Wq_tot hp]
    obtain ⟨ob, oo, oc, eo, _, hco⟩ := (Sr.out.rd vE_len).at hup
    have co : wr.cell? ⟨ob, oo + p, none⟩ = some u0 := by
      have := hco 0 _ rfl
      simpa using this
    obtain ⟨g', cap, eu, hbg, hcell, hfr, hput⟩ := IntsAt.put (hu0.kp kr) (q := s) (by omega) (capI (Wq l W H (W * H - p) s))
    have hgg : g' = g := by
      rw [eu] at hg
      injection hg
    subst hgg
    have hpp : (p : Int).toNat = p := by omega
    have hss : (s : Int).toNat = s := by omega
    rw [eo] at *
    rw [eu] at co
    simp (disch := omega) only [r_ln, r_pick, r_pickT, r_pickF, r_condT, r_condF, r_gdTT, r_gdFF, r_gdTF, r_gdFT, r_gqTT, r_gqFF, r_gqTF, r_gqFT, r_not, r_lss, r_leq, r_gtr, r_geq, r_eql, r_neq, r_add, r_sub, r_min2, r_max2, r_min3, r_max3, r_fa, r_iaS, r_iaA, r_ex2a, r_ex2b, r_ex3a, r_ex3b, r_ex3c, r_nc, r_keepE, Nat.zero_add, Nat.add_zero, Nat.mul_one, Int.toNat_natCast, toNat_sub1, toNat_add1, decide_true, decide_false, Bool.not_true, Bool.not_false, if_true, if_false, Bool.false_eq_true, reduceCtorEq, hlt', hpp, r_ld co, hss]
    rw [st3 hcell hfr]
    have hch : Chg (fun q => q = g') wr (wr.setCell ⟨g', s, none⟩ (.int .i64 (capI (Wq l W H (W * H - p) s)))) := Chg.setCell _ _ rfl
    try simp (disch := omega) only [r_ln, r_pick, r_pickT, r_pickF, r_condT, r_condF, r_gdTT, r_gdFF, r_gdTF, r_gdFT, r_gqTT, r_gqFF, r_gqTF, r_gqFT, r_not, r_lss, r_leq, r_gtr, r_geq, r_eql, r_neq, r_add, r_sub, r_min2, r_max2, r_min3, r_max3, r_fa, r_iaS, r_iaA, r_ex2a, r_ex2b, r_ex3a, r_ex3b, r_ex3c, r_nc, r_keepE, Nat.zero_add, Nat.add_zero, Nat.mul_one, Int.toNat_natCast, toNat_sub1, toNat_add1, decide_true, decide_false, Bool.not_true, Bool.not_false, if_true, if_false, Bool.false_eq_true, reduceCtorEq]
    exact hn _ (.inr trivial) (Sr.store hv hch) hput ⟨wr, kr, hch⟩
  have hlt' : (i : Int) < (l.length : Int) := by omega
  obtain ⟨b, off, cap, e, _, hcell⟩ := (hr.kp (Kp.trans hk kr)).at (List.getElem?_eq_getElem hlt)
  have hii : (i : Int).toNat = i := by omega
  have ia : ∀ K : Value → Prop, iaS 4 sv (.int .i64 i) K = K (.pointer (some ⟨b, off + i * 4, none⟩)) := fun K => by rw [e, r_iaS _ _ _ _ _ _ _ (by omega) (by omega), hii]
  have htm := List.getElem_mem hlt
  have hstep : tot (addW l W H p s) (l.take (i + 1)) = tot (addW l W H p s) (l.take i) + addW l W H p s l[i] := by
    rw [take_succ' _ _ hlt, tot_append]; simp [tot]
  generalize l[i] = t at *
  have ev : ∀ t : Tile, Value.agg (tlC t).toArray = tlV t := fun t => rfl
  simp (disch := omega) only [r_lss, decide_eq_true hlt', r_condT, ia, r_ldCells (tlC_len t) hcell, ev]
  refine r_use fok80 (put_calls (p := p) (s := s) wr (hL.below (Kp.trans hk kr)) hset htm hW (by omega) hs hall) rfl ?_
  rintro _ w2 ⟨rfl, k2⟩
  refine ⟨_, rfl, ?_⟩
  have kr2 := Kp.trans kr k2
  simp only [r_geq]
  refine r_join1 (fun v w' => v = .int .i64 (capI (tot (addW l W H p s) (l.take (i + 1)))) ∧ Kp w w') ?_ fun k' hk' => ?_
  · rintro v w' ⟨rfl, kk⟩
    rw [r_add _ _ (by omega) (by omega)]
    exact ⟨⟨i + 1, by omega, by go_num, rfl, kk⟩, by simp only [intOf]; omega⟩
  rw [hstep] at hk'
  cases hpm : putM l W p s t with
  | none =>
    have ha : addW l W H p s t = 0 := by rw [addW, hpm]
    rw [ha, Nat.add_zero] at hk'
    have hneg : ¬ (0 : Int) ≤ -1 := by decide
    simp (disch := omega) only [putV, r_ln, r_pick, r_pickT, r_pickF, r_condT, r_condF, r_gdTT, r_gdFF, r_gdTF, r_gdFT, r_gqTT, r_gqFF, r_gqTF, r_gqFT, r_not, r_lss, r_leq, r_gtr, r_geq, r_eql, r_neq, r_add, r_sub, r_min2, r_max2, r_min3, r_max3, r_fa, r_iaS, r_iaA, r_ex2a, r_ex2b, r_ex3a, r_ex3b, r_ex3c, r_nc, r_keepE, Nat.zero_add, Nat.add_zero, Nat.mul_one, Int.toNat_natCast, toNat_sub1, toNat_add1, decide_true, decide_false, Bool.not_true, Bool.not_false, if_true, if_false, Bool.false_eq_true, reduceCtorEq, hneg]
    exact hk' _ _ ⟨rfl, kr2⟩
  | some s' =>
    have hs' := put_lt hset htm hW.1 hs hpm
    have ha : addW l W H p s t = Wq l W H (W * H - (p + 1)) s' := by rw [addW, hpm]
    rw [ha] at hk'
    have hpos : (0 : Int) ≤ (s' : Int) := by omega
    have S2 := S.later kr2
    obtain ⟨u, hu⟩ : ∃ u, vs[p + 1]? = some u := ⟨_, List.getElem?_eq_getElem (by omega)⟩
    obtain ⟨hI, _⟩ := S2.rows (p + 1) u (Nat.le_refl _) hu
    obtain ⟨ob, oo, oc, eo, _, hco⟩ := (S2.out.rd vE_len).at hu
    have co : w2.cell? ⟨ob, oo + (p + 1), none⟩ = some u := by
      have := hco 0 _ rfl
      simpa using this
    obtain ⟨g', cap', eu, _, hcl, _, _⟩ := IntsAt.put hI (q := s') (by rw [wayL_len]; exact hs') 0
    rw [wayL_at hs'] at hcl
    have hwl := wayL_len l W H (p + 1)
    have hpp : ((p : Int) + 1).toNat = p + 1 := by omega
    have hss : (s' : Int).toNat = s' := by omega
    rw [eu] at co
    have hs'' : s' < allS l W := hs'
    have hcap : 0 ≤ capI (tot (addW l W H p s) (l.take i)) ∧ capI (tot (addW l W H p s) (l.take i)) ≤ 1099511627777 := by unfold capI; omega
    have hcap2 : 0 ≤ capI (Wq l W H (W * H - (p + 1)) s') ∧ capI (Wq l W H (W * H - (p + 1)) s') ≤ 1099511627777 := by unfold capI; omega
    rw [eo]
    simp (disch := omega) only [putV, r_ln, r_pick, r_pickT, r_pickF, r_condT, r_condF, r_gdTT, r_gdFF, r_gdTF, r_gdFT, r_gqTT, r_gqFF, r_gqTF, r_gqFT, r_not, r_lss, r_leq, r_gtr, r_geq, r_eql, r_neq, r_add, r_sub, r_min2, r_max2, r_min3, r_max3, r_fa, r_iaS, r_iaA, r_ex2a, r_ex2b, r_ex3a, r_ex3b, r_ex3c, r_nc, r_keepE, Nat.zero_add, Nat.add_zero, Nat.mul_one, Int.toNat_natCast, toNat_sub1, toNat_add1, decide_true, decide_false, Bool.not_true, Bool.not_false, if_true, if_false, Bool.false_eq_true, reduceCtorEq, decide_eq_true hpos, hpp, r_ld co, hss, r_ld hcl]
    refine r_use fok88 (cappedI_calls _ w2) rfl ?_
    rintro _ _ ⟨rfl, rfl⟩
    refine ⟨_, rfl, ?_⟩
    rw [capI_add]
    exact hk' _ _ ⟨rfl, kr2⟩

end Go.Proofs.Ytgalbokmgffhkaa

/- Closed boards of the specification, plainly: rings of rows. No program. -/
namespace Go.Proofs.Ytgalbokmgffhkaa
open Go.Wg

def dgA (l : List Tile) (a x : Nat) : Nat := a / (lineL l).length ^ x % (lineL l).length
def ringC (l : List Tile) (a x : Nat) (e : Int) (t : Tile) : Prop := tW t = e ∧ tN t = (lineL l).getD (dgA l a x) 0
instance (l : List Tile) (a x : Nat) (e : Int) (t : Tile) : Decidable (ringC l a x e t) := inferInstanceAs (Decidable (_ ∧ _))
/-- What ring does to a row, m columns being left. -/
def ringF (l : List Tile) (W a : Nat) (west : Int) : Nat → Nat → Int → List Int → List Int
  | 0, s, e, row => if e = west then row.set s (row.getD s 0 + 1) else row
  | m + 1, s, e, row => l.foldl (fun row t => if ringC l a (W - (m + 1)) e t then ringF l W a west m (s + lidx l (tS t) * (lineL l).length ^ (W - (m + 1))) (tE t) row else row) row
def ringN (l : List Tile) (W a : Nat) (west : Int) (b : Nat) : Nat → Nat → Int → Nat
  | 0, s, e => if e = west ∧ s = b then 1 else 0
  | m + 1, s, e => tot (fun t => if ringC l a (W - (m + 1)) e t then ringN l W a west b m (s + lidx l (tS t) * (lineL l).length ^ (W - (m + 1))) (tE t) else 0) l

theorem ringF_exact {l : List Tile} {W a : Nat} {west : Int} : ∀ (m s : Nat) (e : Int) (row : List Int), (ringF l W a west m s e row).length = row.length ∧ ∀ b, b < row.length → (ringF l W a west m s e row).getD b 0 = row.getD b 0 + ringN l W a west b m s e
  | 0, s, e, row => by
    unfold ringF
    by_cases he : e = west
    · rw [if_pos he]
      refine ⟨by simp, fun b hb => ?_⟩
      unfold ringN
      by_cases hs : s = b
      · subst hs
        rw [List.getD_eq_getElem?_getD, List.getElem?_set_self hb, if_pos ⟨he, rfl⟩]; rfl
      · rw [List.getD_eq_getElem?_getD, List.getElem?_set_ne hs, ← List.getD_eq_getElem?_getD, if_neg fun h => hs h.2]
        simp
    · rw [if_neg he]
      refine ⟨rfl, fun b hb => ?_⟩
      unfold ringN
      rw [if_neg fun h => he h.1]
      simp
  | m + 1, s, e, row => by
    have key : ∀ (M : List Tile) (row : List Int), (M.foldl (fun row t => if ringC l a (W - (m + 1)) e t then ringF l W a west m (s + lidx l (tS t) * (lineL l).length ^ (W - (m + 1))) (tE t) row else row) row).length = row.length ∧
      ∀ b, b < row.length → (M.foldl (fun row t => if ringC l a (W - (m + 1)) e t then ringF l W a west m (s + lidx l (tS t) * (lineL l).length ^ (W - (m + 1))) (tE t) row else row) row).getD b 0 = row.getD b 0 + (tot (fun t => if ringC l a (W - (m + 1)) e t then ringN l W a west b m (s + lidx l (tS t) * (lineL l).length ^ (W - (m + 1))) (tE t) else 0) M : Nat) := by
      intro M
      induction M with
      | nil => intro row; exact ⟨rfl, fun b _ => by simp [tot]⟩
      | cons t M ih =>
        intro row
        rw [List.foldl_cons]
        by_cases hc : ringC l a (W - (m + 1)) e t
        · rw [if_pos hc]
          obtain ⟨g1, g2⟩ := ringF_exact (l := l) (W := W) (a := a) (west := west) m (s + lidx l (tS t) * (lineL l).length ^ (W - (m + 1))) (tE t) row
          obtain ⟨h1, h2⟩ := ih (ringF l W a west m (s + lidx l (tS t) * (lineL l).length ^ (W - (m + 1))) (tE t) row)
          refine ⟨h1.trans g1, fun b hb => ?_⟩
          rw [h2 b (by omega), g2 b hb]
          simp only [tot]
          rw [if_pos hc]
          omega
        · rw [if_neg hc]
          obtain ⟨h1, h2⟩ := ih row
          refine ⟨h1, fun b hb => ?_⟩
          rw [h2 b hb]
          simp only [tot]
          rw [if_neg hc, Nat.zero_add]
    exact key l row
theorem tot_le {α : Type} {f : α → Nat} {c : Nat} : ∀ {a : List α}, (∀ x ∈ a, f x ≤ c) → tot f a ≤ a.length * c
  | [], _ => by simp [tot]
  | x :: a, h => by
    have h1 := h x (by simp)
    have h2 := tot_le (f := f) (c := c) (a := a) fun y hy => h y (by simp [hy])
    simp only [tot, List.length_cons, Nat.add_mul]
    omega
theorem ringN_le {l : List Tile} {W a b : Nat} {west : Int} : ∀ (m s : Nat) (e : Int), ringN l W a west b m s e ≤ l.length ^ m
  | 0, s, e => by unfold ringN; split <;> simp
  | m + 1, s, e => by
    unfold ringN
    rw [Nat.pow_succ, Nat.mul_comm]
    refine tot_le fun t _ => ?_
    split
    · exact ringN_le m _ _
    · exact Nat.zero_le _

/-! ### against rows -/
def digN (l : List Tile) (r : List Nat) : List Nat := (norths l r).map (lidx l)
def digA (l : List Tile) (W a : Nat) : List Nat := (List.range W).map (dgA l a)
theorem digA_at {l : List Tile} {W a j : Nat} (hj : j < W) : (digA l W a).getD j 0 = dgA l a j := by
  rw [getD_lt _ _ _ (by simpa [digA] using hj)]
  simp [digA]

theorem line_nodup (l : List Tile) : (lineL l).Nodup := by
  unfold lineL List.Nodup
  rw [List.pairwise_map]
  refine List.Pairwise.imp (fun h => ?_) ((List.nodup_range (n := 8)).filter (lineB l))
  intro e
  exact h (by omega)
theorem lidx_at {l : List Tile} {i : Nat} (hi : i < (lineL l).length) : lidx l ((lineL l).getD i 0) = i := by
  rw [getD_lt _ _ _ hi]
  exact (line_nodup l).idxOf_getElem i hi

theorem encD_snoc (n : Nat) : ∀ (d : List Nat) (a : Nat), encD n (d ++ [a]) = encD n d + a * n ^ d.length
  | [], a => by simp [encD]
  | b :: d, a => by
    rw [List.cons_append, encD, encD_snoc n d a, encD, List.length_cons, Nat.mul_add, Nat.pow_succ]
    have : n * (a * n ^ d.length) = a * (n ^ d.length * n) := by rw [Nat.mul_comm n, Nat.mul_assoc]
    omega
theorem digS_len (l : List Tile) (r : List Nat) : (digS l r).length = r.length := by simp [digS, souths]
theorem digN_len (l : List Tile) (r : List Nat) : (digN l r).length = r.length := by simp [digN, norths]
theorem digS_snoc (l : List Tile) (r : List Nat) (i : Nat) : digS l (r ++ [i]) = digS l r ++ [lidx l (tS (tl l i))] := by simp [digS, souths]

theorem ring_rows {l : List Tile} {W a b : Nat} {west : Int} : ∀ (m : Nat) (r : List Nat), r.length + m = W → 0 < r.length →
    ringN l W a west b m (encD (lineL l).length (digS l r)) (tE (tl l (r.getLastD 0))) = tot (fun q => if matchN l (digA l W a) r.length W q ∧ tE (tl l (q.getLastD 0)) = west ∧ encD (lineL l).length (digS l q) = b then 1 else 0) (exts l m r)
  | 0, r, hr, h0 => by
    have hm : matchN l (digA l W a) r.length W r := fun j h1 h2 => by omega
    unfold ringN
    simp only [exts, tot, Nat.add_zero]
    by_cases h : tE (tl l (r.getLastD 0)) = west ∧ encD (lineL l).length (digS l r) = b
    · rw [if_pos h, if_pos ⟨hm, h⟩]
    · rw [if_neg h, if_neg fun h' => h h'.2]
  | m + 1, r, hr, h0 => by
    unfold ringN
    rw [tot_places, exts, tot_flatMap]
    refine tot_congr fun i hi => ?_
    have hil := List.mem_range.1 hi
    have hx : W - (m + 1) = r.length := by omega
    have hfit : fits l r i = true ↔ tW (tl l i) = tE (tl l (r.getLastD 0)) := by
      unfold fits
      simp only [Bool.or_eq_true, decide_eq_true_eq]
      constructor
      · rintro (h | h)
        · rw [h] at h0; simp at h0
        · exact h.symm
      · exact fun h => .inr h.symm
    rw [hx]
    by_cases hf : fits l r i = true
    case neg =>
      rw [if_neg hf, if_neg fun h => hf (hfit.2 h.1)]
      rfl
    rw [if_pos hf]
    have hq : ∀ q ∈ exts l m (r ++ [i]), q.getD r.length 0 = i := fun q hq => by
      obtain ⟨s, rfl, _, _⟩ := (mem_exts m (r ++ [i]) q).1 hq
      rw [List.getD_eq_getElem?_getD, List.append_assoc, List.getElem?_append_right (by omega), Nat.sub_self]
      rfl
    by_cases hn : tN (tl l i) = (lineL l).getD (dgA l a r.length) 0
    · rw [if_pos ⟨hfit.1 hf, hn⟩]
      have e := ring_rows (l := l) (W := W) (a := a) (b := b) (west := west) m (r ++ [i]) (by simp; omega) (by simp)
      rw [digS_snoc, encD_snoc, digS_len, List.getLastD_concat, List.length_append] at e
      rw [e]
      refine tot_congr fun q hqm => ?_
      have hqx := hq q hqm
      have hmm : matchN l (digA l W a) (r.length + [i].length) W q ↔ matchN l (digA l W a) r.length W q := by
        constructor
        · intro h j h1 h2
          by_cases e : j = r.length
          · subst e
            rw [hqx, digA_at h2]; exact hn.symm
          · exact h j (by simp; omega) h2
        · exact fun h j h1 h2 => h j (by simp at h1; omega) h2
      by_cases hc : matchN l (digA l W a) r.length W q ∧ tE (tl l (q.getLastD 0)) = west ∧ encD (lineL l).length (digS l q) = b
      · rw [if_pos hc, if_pos ⟨hmm.2 hc.1, hc.2⟩]
      · rw [if_neg hc, if_neg fun h => hc ⟨hmm.1 h.1, h.2⟩]
    · rw [if_neg fun h => hn h.2]
      symm
      refine tot_zero fun q hqm => if_neg fun h => hn ?_
      have := h.1 r.length (Nat.le_refl _) (by omega)
      rw [hq q hqm, digA_at (by omega)] at this
      exact this.symm

def closeR (l : List Tile) (W : Nat) : List (List Nat) := (rowsL l W).filter (closes l)
def rN (l : List Tile) (r : List Nat) : Int := ((encD (lineL l).length (digN l r) : Nat) : Int)
def rS (l : List Tile) (r : List Nat) : Int := ((encD (lineL l).length (digS l r) : Nat) : Int)
/-- In how many ways a row closes between two lists. -/
def mN (l : List Tile) (W a b : Nat) : Nat := tot (fun q => if rN l q = (a : Int) ∧ rS l q = (b : Int) then 1 else 0) (closeR l W)
def ringRow (l : List Tile) (W a : Nat) : List Int := (List.range 8).foldl (fun row c => ringF l W a ((c : Nat) : Int) W 0 ((c : Nat) : Int) row) (List.replicate ((lineL l).length ^ W) 0)
def ringsL (l : List Tile) (W : Nat) : List (List Int) := (List.range ((lineL l).length ^ W)).map (ringRow l W)

theorem tot_filter {α : Type} (f : α → Nat) (p : α → Bool) : ∀ L : List α, tot f (L.filter p) = tot (fun x => if p x = true then f x else 0) L
  | [] => rfl
  | x :: L => by
    rw [List.filter_cons]
    cases hp : p x with
    | true => simp [tot, tot_filter f p L, hp]
    | false => simp [tot, tot_filter f p L, hp]

theorem encD_inj {n : Nat} {d d' : List Nat} (hl : d.length = d'.length) (h1 : ∀ a ∈ d, a < n) (h2 : ∀ a ∈ d', a < n) (h : encD n d = encD n d') : d = d' := by
  refine List.ext_getElem hl fun i i1 i2 => ?_
  have e1 := encD_digit h1 i1
  have e2 := encD_digit h2 i2
  rw [h, e2, getD_lt _ _ _ i1, getD_lt _ _ _ i2] at e1
  exact e1.symm
theorem digA_enc {l : List Tile} (hn : 0 < (lineL l).length) {W a : Nat} (ha : a < (lineL l).length ^ W) : encD (lineL l).length (digA l W a) = a ∧ (digA l W a).length = W ∧ ∀ d ∈ digA l W a, d < (lineL l).length := by
  obtain ⟨d, d1, d2, d3⟩ := encD_ex hn W a ha
  have e : digA l W a = d := by
    refine List.ext_getElem (by simp [digA, d1]) fun i i1 i2 => ?_
    have := encD_digit d2 i2
    rw [d3, getD_lt _ _ _ i2] at this
    simpa [digA, dgA] using this
  rw [e]
  exact ⟨d3, d1, d2⟩
theorem match_enc {l : List Tile} (hn : 0 < (lineL l).length) {W a : Nat} (ha : a < (lineL l).length ^ W) {q : List Nat} (hq : q.length = W) (hql : ∀ c ∈ norths l q, c ∈ lineL l) : matchN l (digA l W a) 0 W q ↔ rN l q = (a : Int) := by
  obtain ⟨e1, e2, e3⟩ := digA_enc hn ha
  have hd : ∀ d ∈ digN l q, d < (lineL l).length := fun d hd => by
    obtain ⟨c, hc, rfl⟩ := List.mem_map.1 hd
    exact lidx_lt (hql c hc)
  have hat : ∀ j (hj : j < W), (digN l q).getD j 0 = lidx l (tN (tl l (q.getD j 0))) ∧ tN (tl l (q.getD j 0)) ∈ lineL l := fun j hj => by
    have hjq : j < q.length := by omega
    have e : (norths l q)[j]'(by simp [norths]; omega) = tN (tl l (q.getD j 0)) := by
      rw [getD_lt _ _ _ hjq]; simp [norths]
    refine ⟨?_, by rw [← e]; exact hql _ (List.getElem_mem _)⟩
    rw [getD_lt _ _ _ (by rw [digN_len]; omega)]
    simp only [digN, List.getElem_map]
    rw [e]
  have hiff : matchN l (digA l W a) 0 W q ↔ digA l W a = digN l q := by
    constructor
    · intro h
      refine List.ext_getElem (by rw [e2, digN_len, hq]) fun j j1 j2 => ?_
      have hj : j < W := by omega
      have h1 := h j (by omega) hj
      have hlt : (digA l W a).getD j 0 < (lineL l).length := e3 _ (getD_mem j1)
      rw [← getD_lt _ _ 0 j1, ← getD_lt _ _ 0 j2, (hat j hj).1, ← h1, lidx_at hlt]
    · intro h j _ hj
      rw [h, (hat j hj).1, lidx_get (hat j hj).2]
  rw [hiff]
  unfold rN
  constructor
  · intro h; rw [← h, e1]
  · intro h
    refine encD_inj (by rw [e2, digN_len, hq]) e3 hd ?_
    rw [e1]; omega

theorem fold_add {α : Type} {f : α → List Int → List Int} {g : α → Nat → Nat} (hf : ∀ x row, (f x row).length = row.length ∧ ∀ b, b < row.length → (f x row).getD b 0 = row.getD b 0 + (g x b : Nat)) : ∀ (L : List α) (row : List Int), (L.foldl (fun row x => f x row) row).length = row.length ∧ ∀ b, b < row.length → (L.foldl (fun row x => f x row) row).getD b 0 = row.getD b 0 + (tot (fun x => g x b) L : Nat)
  | [], row => ⟨rfl, fun b _ => by simp [tot]⟩
  | x :: L, row => by
    obtain ⟨h1, h2⟩ := hf x row
    obtain ⟨h3, h4⟩ := fold_add hf L (f x row)
    rw [List.foldl_cons]
    refine ⟨h3.trans h1, fun b hb => ?_⟩
    rw [h4 b (by omega), h2 b hb]
    simp only [tot]
    omega

theorem ring_at {l : List Tile} (hs : IsSet l) {W a b : Nat} (hW : 0 < W) (ha : a < (lineL l).length ^ W) (hb : b < (lineL l).length ^ W) : (ringRow l W a).length = (lineL l).length ^ W ∧ (ringRow l W a).getD b 0 = (mN l W a b : Nat) := by
  have hn := line_pos hs
  obtain ⟨h1, h2⟩ := fold_add (f := fun c row => ringF l W a ((c : Nat) : Int) W 0 ((c : Nat) : Int) row) (g := fun c b => ringN l W a ((c : Nat) : Int) b W 0 ((c : Nat) : Int)) (fun c row => ringF_exact W 0 _ row) (List.range 8) (List.replicate ((lineL l).length ^ W) 0)
  rw [List.length_replicate] at h1 h2
  refine ⟨h1, ?_⟩
  unfold ringRow
  rw [h2 b hb, getD_lt _ _ _ (by simpa using hb), List.getElem_replicate, Int.zero_add]
  congr 1
  unfold mN closeR
  rw [tot_filter]
  obtain ⟨m, rfl⟩ : ∃ m, W = m + 1 := ⟨W - 1, by omega⟩
  -- by the first tile
  have e1 : tot (fun c : Nat => ringN l (m + 1) a (c : Int) b (m + 1) 0 (c : Int)) (List.range 8) = tot (fun c : Nat => tot (fun t => if tW t = (c : Int) then (if tN t = (lineL l).getD (dgA l a 0) 0 then ringN l (m + 1) a (c : Int) b m (lidx l (tS t)) (tE t) else 0) else 0) l) (List.range 8) := by
    refine tot_congr fun c _ => ?_
    rw [ringN]
    refine tot_congr fun t _ => ?_
    rw [Nat.sub_self, Nat.pow_zero, Nat.mul_one, Nat.zero_add]
    by_cases h3 : tW t = (c : Int)
    · rw [if_pos h3]
      by_cases h4 : tN t = (lineL l).getD (dgA l a 0) 0
      · rw [if_pos ⟨h3, h4⟩, if_pos h4]
      · rw [if_neg fun h => h4 h.2, if_neg h4]
    · rw [if_neg fun h => h3 h.1, if_neg h3]
  rw [e1, tot_swap (N := 8) (f := fun t : Tile => tW t) (g := fun t c => if tN t = (lineL l).getD (dgA l a 0) 0 then ringN l (m + 1) a ((c : Nat) : Int) b m (lidx l (tS t)) (tE t) else 0) (fun t ht => by have := cols_range (hs.cols t ht); omega)]
  rw [tot_places]
  show _ = tot _ (exts l (m + 1) [])
  rw [exts, tot_flatMap]
  refine tot_congr fun i hi => ?_
  have hil := List.mem_range.1 hi
  have hcr := tl_cols hs hil
  have hfi : fits l [] i = true := by simp [fits]
  rw [if_pos hfi, List.nil_append]
  have hWW : (((tW (tl l i)).toNat : Nat) : Int) = tW (tl l i) := by omega
  rw [hWW]
  have e2 := ring_rows (l := l) (W := m + 1) (a := a) (b := b) (west := tW (tl l i)) m [i] (by simp; omega) (by simp)
  have e3 : encD (lineL l).length (digS l [i]) = lidx l (tS (tl l i)) := by simp [digS, souths, encD]
  rw [e3] at e2
  change ringN l (m + 1) a (tW (tl l i)) b m (lidx l (tS (tl l i))) (tE (tl l i)) = _ at e2
  have hq : ∀ q ∈ exts l m [i], q.length = m + 1 ∧ q.getD 0 0 = i ∧ q ∈ rowsL l (m + 1) := fun q hq => by
    obtain ⟨s, e, hs1, _⟩ := (mem_exts m [i] q).1 hq
    refine ⟨by rw [e]; simp; omega, by rw [e]; rfl, ?_⟩
    unfold rowsL
    rw [exts, List.mem_flatMap]
    exact ⟨i, List.mem_range.2 hil, by rw [if_pos (by simp [fits])]; simpa using hq⟩
  by_cases hN : tN (tl l i) = (lineL l).getD (dgA l a 0) 0
  · rw [if_pos hN, e2]
    refine tot_congr fun q hqm => ?_
    obtain ⟨hql, hq0, hqr⟩ := hq q hqm
    obtain ⟨_, hno, hso, _⟩ := row_line hs hqr
    have hmm : matchN l (digA l (m + 1) a) [i].length (m + 1) q ↔ rN l q = (a : Int) := by
      rw [← match_enc hn ha hql hno]
      constructor
      · intro h j h1 h2
        by_cases e : j = 0
        · subst e
          rw [hq0, digA_at h2]; exact hN.symm
        · exact h j (by simp; omega) h2
      · exact fun h j h1 h2 => h j (by omega) h2
    have hcl : closes l q = true ↔ tE (tl l (q.getLastD 0)) = tW (tl l i) := by
      unfold closes
      rw [decide_eq_true_eq, hq0]
      exact eq_comm
    have hbb : encD (lineL l).length (digS l q) = b ↔ rS l q = (b : Int) := by unfold rS; omega
    by_cases hc : closes l q = true
    · rw [if_pos hc]
      by_cases h : rN l q = (a : Int) ∧ rS l q = (b : Int)
      · rw [if_pos h, if_pos ⟨hmm.2 h.1, hcl.1 hc, hbb.2 h.2⟩]
      · rw [if_neg h, if_neg fun h' => h ⟨hmm.1 h'.1, hbb.1 h'.2.2⟩]
    · rw [if_neg hc, if_neg fun h' => hc (hcl.2 h'.2.1)]
  · rw [if_neg hN]
    symm
    refine tot_zero fun q hqm => ?_
    obtain ⟨hql, hq0, hqr⟩ := hq q hqm
    obtain ⟨_, hno, _, _⟩ := row_line hs hqr
    split
    · refine if_neg fun h => hN ?_
      have := (match_enc hn ha hql hno).2 h.1 0 (by omega) (by omega)
      rw [hq0, digA_at (by omega)] at this
      exact this.symm
    · rfl
theorem mN_le {l : List Tile} (hs : IsSet l) {W a b : Nat} (hW : W ≤ 4) : mN l W a b ≤ 65536 := by
  have h1 : mN l W a b ≤ (closeR l W).length * 1 := tot_le fun q _ => by split <;> omega
  have h2 : (closeR l W).length ≤ (rowsL l W).length := List.length_filter_le _ _
  have h3 := exts_length_le hs.most W []
  have h4 := pow16_le hW
  have h5 : (rowsL l W).length ≤ 16 ^ W := h3
  omega

/-! ### from each list of Norths -/
def nextC (M : List (List Int)) (now : List Int) (b : Nat) (nx : List Int) (c : Nat) : List Int := nx.set c (min (nx.getD c 0 + min (now.getD b 0 * min ((M.getD b []).getD c 0) 1048576) 1099511627777) 1099511627777)
def nextB (M : List (List Int)) (now nx : List Int) (b : Nat) : List Int := if 0 < now.getD b 0 then (List.range M.length).foldl (nextC M now b) nx else nx
def nextR (M : List (List Int)) (now : List Int) : List Int := (List.range M.length).foldl (nextB M now) (List.replicate M.length 0)
def nowK (M : List (List Int)) (a : Nat) : Nat → List Int
  | 0 => unitL M.length a
  | k + 1 => nextR M (nowK M a k)

theorem capI_mul (p m : Nat) : min (capI p * (m : Int)) 1099511627777 = capI (p * m) := by
  unfold capI
  by_cases h : p ≤ 1099511627777
  · rw [show min (p : Int) 1099511627777 = (p : Int) by omega]
    rw [Int.natCast_mul]
  · rw [show min (p : Int) 1099511627777 = 1099511627777 by omega]
    by_cases h0 : m = 0
    · subst h0; rfl
    · have : p ≤ p * m := Nat.le_mul_of_pos_right p (by omega)
      omega

theorem nextC_exact {M : List (List Int)} {now nx : List Int} {b n p : Nat} {G : Nat → Nat} {mm : Nat → Nat} (hp : now.getD b 0 = capI p) (hm : ∀ c, c < n → (M.getD b []).getD c 0 = (mm c : Nat) ∧ mm c ≤ 65536) (hn : nx.length = n) (hG : ∀ c, c < n → nx.getD c 0 = capI (G c)) :
    ∀ j, j ≤ n → ((List.range j).foldl (nextC M now b) nx).length = n ∧ ∀ c, c < n → ((List.range j).foldl (nextC M now b) nx).getD c 0 = capI (G c + if c < j then p * mm c else 0)
  | 0, _ => ⟨hn, fun c hc => by rw [if_neg (by omega)]; exact hG c hc⟩
  | j + 1, hj => by
    obtain ⟨h1, h2⟩ := nextC_exact hp hm hn hG j (by omega)
    rw [List.range_succ, List.foldl_append, List.foldl_cons, List.foldl_nil]
    generalize (List.range j).foldl (nextC M now b) nx = X at *
    refine ⟨by simp [nextC, h1], fun c hc => ?_⟩
    unfold nextC
    by_cases e : j = c
    · subst e
      rw [List.getD_eq_getElem?_getD, List.getElem?_set_self (by omega), Option.getD_some, h2 j hc, hp, (hm j hc).1, if_neg (by omega), if_pos (by omega), Nat.add_zero]
      have : min ((mm j : Nat) : Int) 1048576 = (mm j : Int) := by have := (hm j hc).2; omega
      rw [this, capI_mul, capI_add]
    · rw [List.getD_eq_getElem?_getD, List.getElem?_set_ne e, ← List.getD_eq_getElem?_getD, h2 c hc]
      by_cases h3 : c < j
      · rw [if_pos h3, if_pos (by omega)]
      · rw [if_neg h3, if_neg (by omega)]

theorem nextR_exact {M : List (List Int)} {now : List Int} {n : Nat} {P : Nat → Nat} {mm : Nat → Nat → Nat} (hM : M.length = n) (hP : ∀ b, b < n → now.getD b 0 = capI (P b)) (hm : ∀ b c, b < n → c < n → (M.getD b []).getD c 0 = (mm b c : Nat) ∧ mm b c ≤ 65536) :
    ∀ j, j ≤ n → ((List.range j).foldl (nextB M now) (List.replicate n 0)).length = n ∧ ∀ c, c < n → ((List.range j).foldl (nextB M now) (List.replicate n 0)).getD c 0 = capI (tot (fun b => P b * mm b c) (List.range j))
  | 0, _ => ⟨by simp, fun c hc => by
    show (List.replicate n (0 : Int)).getD c 0 = _
    rw [getD_lt _ _ _ (by simpa using hc), List.getElem_replicate]; rfl⟩
  | j + 1, hj => by
    obtain ⟨h1, h2⟩ := nextR_exact hM hP hm j (by omega)
    rw [List.range_succ, List.foldl_append, List.foldl_cons, List.foldl_nil]
    generalize (List.range j).foldl (nextB M now) (List.replicate n 0) = X at *
    unfold nextB
    have hpj := hP j (by omega)
    by_cases h0 : 0 < now.getD j 0
    · rw [if_pos h0, hM]
      obtain ⟨h3, h4⟩ := nextC_exact (mm := mm j) hpj (fun c hc => hm j c (by omega) hc) h1 h2 n (Nat.le_refl _)
      refine ⟨h3, fun c hc => ?_⟩
      rw [h4 c hc, if_pos hc, tot_append]
      simp [tot]
    · rw [if_neg h0]
      refine ⟨h1, fun c hc => ?_⟩
      rw [h2 c hc, tot_append]
      have : P j = 0 := by rw [hpj] at h0; unfold capI at h0; omega
      simp [tot, this]

theorem now_exact {l : List Tile} (hs : IsSet l) {W a : Nat} (hW : 1 ≤ W ∧ W ≤ 4) : ∀ k, (nowK (ringsL l W) a k).length = (lineL l).length ^ W ∧ ∀ c : Nat, c < (lineL l).length ^ W → (nowK (ringsL l W) a k).getD c 0 = capI (Pt (closeR l W) (rN l) (rS l) (a : Int) k (c : Int))
  | 0 => by
    have hl : (ringsL l W).length = (lineL l).length ^ W := by simp [ringsL]
    refine ⟨by rw [nowK, unit_len, hl], fun c hc => ?_⟩
    rw [nowK, hl, unitL, Pt]
    by_cases e : a = c
    · subst e
      rw [List.getD_eq_getElem?_getD, List.getElem?_set_self (by simpa using hc), if_pos rfl]; rfl
    · rw [List.getD_eq_getElem?_getD, List.getElem?_set_ne e, List.getElem?_replicate, if_pos hc, if_neg (by omega)]; rfl
  | k + 1 => by
    have hl : (ringsL l W).length = (lineL l).length ^ W := by simp [ringsL]
    obtain ⟨h1, h2⟩ := now_exact (a := a) hs hW k
    have hm : ∀ b c, b < (lineL l).length ^ W → c < (lineL l).length ^ W → ((ringsL l W).getD b []).getD c 0 = (mN l W b c : Nat) ∧ mN l W b c ≤ 65536 := fun b c hb hc => by
      refine ⟨?_, mN_le hs hW.2⟩
      have e : (ringsL l W).getD b [] = ringRow l W b := by
        rw [getD_lt _ _ _ (by rw [hl]; exact hb)]
        simp only [ringsL, List.getElem_map, List.getElem_range]
      rw [e]
      exact (ring_at hs (by omega) hb hc).2
    obtain ⟨h3, h4⟩ := nextR_exact hl h2 hm _ (Nat.le_refl _)
    have e : nowK (ringsL l W) a (k + 1) = (List.range ((lineL l).length ^ W)).foldl (nextB (ringsL l W) (nowK (ringsL l W) a k)) (List.replicate ((lineL l).length ^ W) 0) := by
      rw [nowK, nextR, hl]
    rw [e]
    refine ⟨h3, fun c hc => ?_⟩
    rw [h4 c hc]
    congr 1
    rw [Pt]
    have e2 : tot (fun b : Nat => Pt (closeR l W) (rN l) (rS l) (a : Int) k (b : Int) * mN l W b c) (List.range ((lineL l).length ^ W)) = tot (fun b : Nat => tot (fun q => if rN l q = (b : Int) then (if rS l q = (c : Int) then Pt (closeR l W) (rN l) (rS l) (a : Int) k (b : Int) else 0) else 0) (closeR l W)) (List.range ((lineL l).length ^ W)) := by
      refine tot_congr fun b _ => ?_
      rw [Nat.mul_comm, mN, ← tot_mul]
      refine tot_congr fun q _ => ?_
      by_cases h5 : rN l q = (b : Int)
      · by_cases h6 : rS l q = (c : Int)
        · rw [if_pos ⟨h5, h6⟩, if_pos h5, if_pos h6, Nat.one_mul]
        · rw [if_neg fun h => h6 h.2, if_pos h5, if_neg h6, Nat.zero_mul]
      · rw [if_neg fun h => h5 h.1, if_neg h5, Nat.zero_mul]
    rw [e2, tot_swap (N := (lineL l).length ^ W) (f := rN l) (g := fun q b => if rS l q = (c : Int) then Pt (closeR l W) (rN l) (rS l) (a : Int) k ((b : Nat) : Int) else 0) fun q hq => ?_]
    · refine tot_congr fun q _ => ?_
      have : (((rN l q).toNat : Nat) : Int) = rN l q := by unfold rN; omega
      rw [this]
    · have hqr := (List.mem_filter.1 hq).1
      obtain ⟨q1, q2, _, _⟩ := row_line hs hqr
      have := encD_lt (n := (lineL l).length) (d := digN l q) fun d hd => by
        obtain ⟨c, hc, rfl⟩ := List.mem_map.1 hd
        exact lidx_lt (q2 c hc)
      rw [digN_len, q1] at this
      unfold rN
      omega

/-- What the specification counts. -/
def closedV (l : List Tile) (W h : Nat) : Int := sumC ((List.range ((lineL l).length ^ W)).map fun a => (nowK (ringsL l W) a h).getD a 0)
theorem rS_lt {l : List Tile} (hs : IsSet l) {W : Nat} {q : List Nat} (hq : q ∈ closeR l W) : 0 ≤ rS l q ∧ rS l q < ((lineL l).length ^ W : Nat) := by
  have hqr := (List.mem_filter.1 hq).1
  obtain ⟨q1, _, q2, _⟩ := row_line hs hqr
  have := encD_lt (n := (lineL l).length) (d := digS l q) fun d hd => by
    obtain ⟨c, hc, rfl⟩ := List.mem_map.1 hd
    exact lidx_lt (q2 c hc)
  rw [digS_len, q1] at this
  unfold rS
  omega
theorem closedV_exact {l : List Tile} (hs : IsSet l) {W h : Nat} (hW : 1 ≤ W ∧ W ≤ 4) (hh : 0 < h) : closedV l W h = capI (roundN (closeR l W) (rN l) (rS l) h) := by
  unfold closedV
  rw [sumC_exact (N := (lineL l).length ^ W) (G := fun a => Pt (closeR l W) (rN l) (rS l) (a : Int) h (a : Int)) (by simp) fun c hc => by
    rw [getD_lt _ _ _ (by simpa using hc)]
    simp only [List.getElem_map, List.getElem_range]
    exact (now_exact hs hW h).2 c hc]
  rw [round_sum (fun q hq => rS_lt hs hq) hh]

/-- Both count alike. -/
theorem closed_both {l : List Tile} (hs : IsSet l) {W h : Nat} (hW : 1 ≤ W ∧ W ≤ 4) (hh : 0 < h) : (closedS (8 ^ W) h (closedL (linesL l W))).1 = closedV l W h := by
  have hL : LnOk (8 ^ W) (closedL (linesL l W)) := fun x hx => lines_ok hs hW.2 x (List.mem_filter.1 hx).1
  rw [closed_exact hL hh, closedV_exact hs hW hh]
  have e : closedL (linesL l W) = (closeR l W).map (lineOf l) := by
    unfold closedL linesL closeR
    rw [List.filter_map]
    rfl
  rw [e, round_map]
  congr 1
  refine round_label (fun q hq r hr => ?_) h
  obtain ⟨q1, q2, q3, _⟩ := row_line hs (List.mem_filter.1 hq).1
  obtain ⟨r1, r2, r3, _⟩ := row_line hs (List.mem_filter.1 hr).1
  have hl : (souths l q).length = (norths l r).length := by simp [souths, norths]; omega
  show code (souths l q) = code (norths l r) ↔ rS l q = rN l r
  constructor
  · intro h
    have := code_inj hl (fun x hx => line_range (q3 x hx)) (fun x hx => line_range (r2 x hx)) h
    unfold rS rN digS digN
    rw [this]
  · intro h
    have h1 : encD (lineL l).length (digS l q) = encD (lineL l).length (digN l r) := by unfold rS rN at h; omega
    have h2 : digS l q = digN l r := encD_inj (by rw [digS_len, digN_len]; omega) (fun d hd => by
      obtain ⟨c, hc, rfl⟩ := List.mem_map.1 hd
      exact lidx_lt (q3 c hc)) (fun d hd => by
      obtain ⟨c, hc, rfl⟩ := List.mem_map.1 hd
      exact lidx_lt (r2 c hc)) h1
    have h3 : souths l q = norths l r := by
      refine List.ext_getElem hl fun j j1 j2 => ?_
      have h4 : (digS l q)[j]'(by simpa [digS] using j1) = (digN l r)[j]'(by simpa [digN] using j2) := by simp only [h2]
      simp only [digS, digN, List.getElem_map] at h4
      have h5 := lidx_get (q3 _ (List.getElem_mem j1))
      have h6 := lidx_get (r2 _ (List.getElem_mem j2))
      rw [h4, h6] at h5
      exact h5.symm
    rw [h3]

end Go.Proofs.Ytgalbokmgffhkaa
