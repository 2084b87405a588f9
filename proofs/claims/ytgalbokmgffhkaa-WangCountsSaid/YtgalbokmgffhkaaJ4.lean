/- Contracts: put, capped of the specification. -/
import Derived.Test.YtgalbokmgffhkaaJ3
set_option linter.all false
namespace Go.Proofs.Ytgalbokmgffhkaa
open Go.Lf Go.RowKit Go.Wg

theorem capped_calls (n : Nat) (w : World) : Calls Try.prog 88 #[.int .i64 n] w fun e w' => e = .returned (.int .i64 (capI n)) ∧ w = w' := by
  refine lift88 ?_
  unfold S88
  simp only [r_ln, r_pick, r_pickT, r_pickF, r_condT, r_condF, r_gdTT, r_gdFF, r_gdTF, r_gdFT, r_gqTT, r_gqFF, r_gqTF, r_gqFT, r_not, r_lss, r_leq, r_gtr, r_geq, r_eql, r_neq, r_add, r_sub, r_min2, r_max2, r_min3, r_max3, r_fa, r_iaS, r_iaA, r_ex2a, r_ex2b, r_ex3a, r_ex3b, r_ex3c, r_nc, r_keepE, Nat.zero_add, Nat.add_zero, Nat.mul_one, Int.toNat_natCast, toNat_sub1, toNat_add1, decide_true, decide_false, Bool.not_true, Bool.not_false, if_true, if_false, Bool.false_eq_true, reduceCtorEq]
  exact ⟨by first | rfl | trivial, by first | rfl | trivial⟩

abbrev C80 (t1 t2 t3 t4 t5 t20 t30 : Value) (w : World) (K : Value → Prop) : Prop :=
  binQ Try.prog w .geq 3 false t3 t2 fun t33 =>
  gdQ t33 true (fun k => k t1) fun t35 =>
  gdQ t33 true (fun k => k t30) fun t36 =>
  gdQ t33 true (fun k => iaS 1 t35 t36 k) fun t37 =>
  gdQ t33 true (fun k => ld1 w t37 k) fun t38 =>
  gdQ t33 true (fun k => fa1 t5 0 k) fun t39 =>
  gdQ t33 true (fun k => ld1 w t39 k) fun t40 =>
  gdQ t33 true (fun k => binQ Try.prog w .neq 3 false t38 t40 k) fun t41 =>
  pickQ t33 t41 (.bool false) fun t42 =>
  gdQ t42 false (fun k => k t20) fun t44 =>
  gdQ t42 false (fun k => binQ Try.prog w .gtr 3 true t44 (.int .i64 0) k) fun t45 =>
  gdQ t42 false (fun k => k t45) fun t46 =>
  gdQ t46 true (fun k => k t4) fun t47 =>
  gdQ t46 true (fun k => k (.int .i64 8)) fun t48 =>
  gdQ t46 true (fun k => binQ Try.prog w .rem 3 false t47 t48 k) fun t49 =>
  gdQ t46 true (fun k => fa1 t5 3 k) fun t50 =>
  gdQ t46 true (fun k => ld1 w t50 k) fun t51 =>
  gdQ t46 true (fun k => binQ Try.prog w .neq 3 false t49 t51 k) fun t52 =>
  gdQ t42 false (fun k => pickQ t46 t52 (.bool false) k) fun t53 =>
  pickQ t42 (.bool true) t53 fun t54 =>
  K t54

theorem r_rem8 {w : World} {K : Value → Prop} {t : TypeId} {lit : Bool} (s : Nat) : binQ Try.prog w .rem t lit (.int .i64 s) (.int .i64 8) K = K (.int .i64 ((s % 8 : Nat) : Int)) := r_remN s 8 (by omega)
theorem r_mul8 {w : World} {K : Value → Prop} {t : TypeId} {lit : Bool} (s : Nat) (hs : s ≤ 1000000000) : binQ Try.prog w .mul t lit (.int .i64 s) (.int .i64 8) K = K (.int .i64 ((s * 8 : Nat) : Int)) := r_mulN s 8 (by omega)

set_option maxRecDepth 100000 in
theorem cond80 {w : World} {lv : Value} {l : List Tile} {t : Tile} {W p s b5 : Nat} {K : Value → Prop} (hL : RdInts w lv (lineL l)) (hn : 0 < (lineL l).length) (h5 : w.heap[b5]? = some (.cells (tlV t).cells 32 (0, 0))) (hK : K (.bool (decide (misfit l W p s t)))) :
    C80 lv (.int .i64 W) (.int .i64 p) (.int .i64 s) (.pointer (some ⟨b5, 0, none⟩)) (.int .i64 (p % W : Nat)) (.int .i64 (aboveS l W p s : Nat)) w K := by
  have habl : aboveS l W p s < (lineL l).length := Nat.mod_lt _ hn
  have c0 : w.cell? ⟨b5, 0, none⟩ = some (.int .i64 (tN t)) := by rw [cell_row h5]; rfl
  have c3 : w.cell? ⟨b5, 3, none⟩ = some (.int .i64 (tW t)) := by rw [cell_row h5]; rfl
  obtain ⟨lb, lo, lcp, rfl, hla⟩ := hL.at habl
  have hii : ((aboveS l W p s : Nat) : Int).toNat = aboveS l W p s := by omega
  unfold C80
  have last : ∀ b : Bool, (b = true ↔ misfit l W p s t) → K (.bool b) := fun b hb => by
    have : b = decide (misfit l W p s t) := by
      cases b with
      | true => exact (decide_eq_true (hb.1 rfl)).symm
      | false => exact (decide_eq_false fun h => absurd (hb.2 h) Bool.false_ne_true).symm
    rw [this]; exact hK
  have second : ¬ (W ≤ p ∧ (lineL l).getD (aboveS l W p s) 0 ≠ tN t) → ∀ x : Bool, x = false →
    (gdQ (.bool x) false (fun k => k (.int .i64 (p % W : Nat))) fun t44 =>
      gdQ (.bool x) false (fun k => binQ Try.prog w .gtr 3 true t44 (.int .i64 0) k) fun t45 =>
      gdQ (.bool x) false (fun k => k t45) fun t46 =>
      gdQ t46 true (fun k => k (.int .i64 s)) fun t47 =>
      gdQ t46 true (fun k => k (.int .i64 8)) fun t48 =>
      gdQ t46 true (fun k => binQ Try.prog w .rem 3 false t47 t48 k) fun t49 =>
      gdQ t46 true (fun k => fa1 (.pointer (some ⟨b5, 0, none⟩)) 3 k) fun t50 =>
      gdQ t46 true (fun k => ld1 w t50 k) fun t51 =>
      gdQ t46 true (fun k => binQ Try.prog w .neq 3 false t49 t51 k) fun t52 =>
      gdQ (.bool x) false (fun k => pickQ t46 t52 (.bool false) k) fun t53 =>
      pickQ (.bool x) (.bool true) t53 fun t54 => K t54) := fun h1 x hx => by
    subst hx
    by_cases g3 : 0 < p % W
    case neg =>
      have g3' : ¬ (0 : Int) < ((p % W : Nat) : Int) := by omega
      simp (disch := omega) only [r_ln, r_pick, r_pickT, r_pickF, r_condT, r_condF, r_gdTT, r_gdFF, r_gdTF, r_gdFT, r_gqTT, r_gqFF, r_gqTF, r_gqFT, r_not, r_lss, r_leq, r_gtr, r_geq, r_eql, r_neq, r_add, r_sub, r_min2, r_max2, r_min3, r_max3, r_fa, r_iaS, r_iaA, r_ex2a, r_ex2b, r_ex3a, r_ex3b, r_ex3c, r_nc, r_keepE, Nat.zero_add, Nat.add_zero, Nat.mul_one, Int.toNat_natCast, toNat_sub1, toNat_add1, decide_true, decide_false, Bool.not_true, Bool.not_false, if_true, if_false, Bool.false_eq_true, reduceCtorEq, g3', r_gqU]
      exact last false ⟨fun h => absurd h Bool.false_ne_true, fun h => by
        rcases h with h | h
        · exact absurd h h1
        · exact absurd h.1 g3⟩
    have g3' : (0 : Int) < ((p % W : Nat) : Int) := by omega
    simp (disch := omega) only [r_ln, r_pick, r_pickT, r_pickF, r_condT, r_condF, r_gdTT, r_gdFF, r_gdTF, r_gdFT, r_gqTT, r_gqFF, r_gqTF, r_gqFT, r_not, r_lss, r_leq, r_gtr, r_geq, r_eql, r_neq, r_add, r_sub, r_min2, r_max2, r_min3, r_max3, r_fa, r_iaS, r_iaA, r_ex2a, r_ex2b, r_ex3a, r_ex3b, r_ex3c, r_nc, r_keepE, Nat.zero_add, Nat.add_zero, Nat.mul_one, Int.toNat_natCast, toNat_sub1, toNat_add1, decide_true, decide_false, Bool.not_true, Bool.not_false, if_true, if_false, Bool.false_eq_true, reduceCtorEq, decide_eq_true g3', r_rem8, r_ld c3, r_gqU]
    by_cases g4 : ((s % 8 : Nat) : Int) = tW t
    · simp only [decide_eq_true g4, Bool.not_true]
      exact last false ⟨fun h => absurd h Bool.false_ne_true, fun h => by
        rcases h with h | h
        · exact absurd h h1
        · exact absurd g4 h.2⟩
    · simp only [g4, decide_false, Bool.not_false]
      exact last true ⟨fun _ => .inr ⟨g3, g4⟩, fun _ => rfl⟩
  by_cases g1 : W ≤ p
  case neg =>
    have g1' : ¬ (W : Int) ≤ (p : Int) := by omega
    simp (disch := omega) only [r_geq, g1', decide_false, r_gqFT, r_pickF]
    exact second (fun h => g1 h.1) false rfl
  have g1' : (W : Int) ≤ (p : Int) := by omega
  by_cases g2 : (lineL l).getD (aboveS l W p s) 0 = tN t
  · simp (disch := omega) only [r_geq, decide_eq_true g1', r_gqTT, r_iaS, hii, Nat.mul_one, r_ld hla, r_fa, Nat.zero_add, r_ld c0, r_neq, decide_eq_true g2, Bool.not_true, r_pickT]
    have := second (fun h => h.2 g2) false rfl
    simp (disch := omega) only [r_fa, Nat.zero_add] at this
    exact this
  · simp (disch := omega) only [r_ln, r_pick, r_pickT, r_pickF, r_condT, r_condF, r_gdTT, r_gdFF, r_gdTF, r_gdFT, r_gqTT, r_gqFF, r_gqTF, r_gqFT, r_not, r_lss, r_leq, r_gtr, r_geq, r_eql, r_neq, r_add, r_sub, r_min2, r_max2, r_min3, r_max3, r_fa, r_iaS, r_iaA, r_ex2a, r_ex2b, r_ex3a, r_ex3b, r_ex3c, r_nc, r_keepE, Nat.zero_add, Nat.add_zero, Nat.mul_one, Int.toNat_natCast, toNat_sub1, toNat_add1, decide_true, decide_false, Bool.not_true, Bool.not_false, if_true, if_false, Bool.false_eq_true, reduceCtorEq, decide_eq_true g1', hii, r_ld hla, r_ld c0, g2, r_gqU]
    exact last true ⟨fun _ => .inl ⟨g1, g2⟩, fun _ => rfl⟩

set_option maxRecDepth 100000 in
set_option maxHeartbeats 1000000 in
theorem put_calls {lv : Value} {l : List Tile} {t : Tile} {W p s : Nat} (w : World) (hL : RdInts w lv (lineL l)) (hset : IsSet l) (ht : t ∈ l) (hW : 0 < W ∧ W ≤ 4) (hp : p ≤ 100) (hs : s < (lineL l).length ^ W * 8) (hb : (lineL l).length ^ W * 8 ≤ 60000) :
    Calls Try.prog 80 #[tlV t, lv, .int .i64 W, .int .i64 p, .int .i64 s] w fun e w' => e = .returned (.int .i64 (putV (putM l W p s t))) ∧ Kp w w' := by
  have hn := line_pos hset
  have hn8 := line_len l
  have hlt := mem_line hset.cols ht
  have hcr := cols_range (hset.cols t ht)
  have hxW : p % W < W := Nat.mod_lt _ hW.1
  have hpx : (lineL l).length ^ (p % W) ≤ (lineL l).length ^ W := Nat.pow_le_pow_right hn (by omega)
  have hpp : 0 < (lineL l).length ^ (p % W) := Nat.pow_pos hn
  have hL' := hL
  obtain ⟨la, lc, rfl, _, _⟩ := hL.len
  have hidx : idxI (lineL l) (tS t) = ((lidx l (tS t) : Nat) : Int) := by rw [idxI, if_pos hlt.2]; rfl
  have hil := lidx_lt hlt.2
  refine lift80 ?_
  unfold S80
  refine r_box fun b5 w1 e5 s5 h5 k5 => ?_
  have h5' : w1.heap[b5]? = some (.cells (tlV t).cells 32 (0, 0)) := h5
  simp only [r_ln]
  rw [r_remN _ _ hW.1]
  refine r_use fok69 (power_calls (n := (lineL l).length) (k := p % W) w1 (by omega) hn (by omega)) rfl ?_
  rintro _ _ ⟨rfl, rfl⟩
  refine ⟨_, rfl, ?_⟩
  rw [r_mul8 _ (by omega), r_quoN _ _ (by omega) (by omega), r_remN _ _ hn]
  have hab : s / ((lineL l).length ^ (p % W) * 8) % (lineL l).length = aboveS l W p s := rfl
  rw [hab]
  have habl : aboveS l W p s < (lineL l).length := Nat.mod_lt _ hn
  have habs : aboveS l W p s * ((lineL l).length ^ (p % W) * 8) ≤ s := by
    have h1 : aboveS l W p s ≤ s / ((lineL l).length ^ (p % W) * 8) := Nat.mod_le _ _
    exact Nat.le_trans (Nat.mul_le_mul_right _ h1) (Nat.div_mul_le_self _ _)
  have habm : s % 8 ≤ s - aboveS l W p s * ((lineL l).length ^ (p % W) * 8) := by
    have e : aboveS l W p s * ((lineL l).length ^ (p % W) * 8) = 8 * (aboveS l W p s * (lineL l).length ^ (p % W)) := by rw [← Nat.mul_assoc, Nat.mul_comm]
    rw [e] at habs ⊢
    omega
  have hmul2 : lidx l (tS t) * ((lineL l).length ^ (p % W) * 8) ≤ 8 * 60000 := Nat.mul_le_mul (by omega) (by omega)
  have hput : putM l W p s t = if misfit l W p s t then none else some (s - aboveS l W p s * ((lineL l).length ^ (p % W) * 8) + lidx l (tS t) * ((lineL l).length ^ (p % W) * 8) - s % 8 + (tE t).toNat) := rfl
  refine r_drew fun w2 k2 _ => ?_
  have k02 := Kp.trans k5 k2
  have h52 := block_below h5' k2
  refine cond80 (hL'.below k02) hn h52 ?_
  by_cases hm : misfit l W p s t
  · simp only [decide_eq_true hm, r_condT]
    exact ⟨by rw [hput, if_pos hm]; rfl, k02⟩
  simp only [hm, decide_false, r_condF]
  rw [if_neg hm] at hput
  rw [hput]
  refine r_drew fun w3 k3 _ => ?_
  have k03 := Kp.trans k02 k3
  have h53 := block_below h52 k3
  have c1 : w3.cell? ⟨b5, 1, none⟩ = some (.int .i64 (tE t)) := by rw [cell_row h53]; rfl
  have c2 : w3.cell? ⟨b5, 2, none⟩ = some (.int .i64 (tS t)) := by rw [cell_row h53]; rfl
  rw [r_mulN _ _ (by omega)]
  simp only [r_fa, Nat.zero_add, r_ld c2]
  rw [r_sub _ _ (by omega) (by omega), r_rem8]
  simp only [r_ld c1]
  refine r_use fok107 (index107_calls (tS t) w3 (hL'.below k03)) rfl ?_
  rintro _ w4 ⟨rfl, k4⟩
  refine ⟨_, rfl, k4, ?_⟩
  dsimp only
  rw [hidx, r_mulN _ _ (by omega)]
  generalize aboveS l W p s * ((lineL l).length ^ (p % W) * 8) = A at *
  generalize lidx l (tS t) * ((lineL l).length ^ (p % W) * 8) = B at *
  rw [r_add _ _ (by omega) (by omega), r_sub _ _ (by omega) (by omega), r_add _ _ (by omega) (by omega)]
  refine ⟨?_, Kp.trans k03 k4⟩
  congr 2
  show _ = ((_ : Nat) : Int)
  omega

end Go.Proofs.Ytgalbokmgffhkaa
