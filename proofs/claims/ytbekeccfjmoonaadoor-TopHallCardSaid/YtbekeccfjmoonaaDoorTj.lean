/- Contracts of weight: reading, tile, Equal; the two dominoes. -/
import Derived.Test.YtbekeccfjmoonaaDoorTi
import Derived.Test.YtbekeccfjmoonaaDoorSb
set_option linter.all false
namespace Go.Proofs.YtbekeccfjmoonaaDoor
open Go.Lf Go.RowKit Go.Ht

set_option maxRecDepth 100000 in
theorem r_ne43 {w : World} {lit : Bool} (p q : Int × Int) (K : Value → Prop) : binQ Tryd.prog w .neq 43 lit (cV p) (cV q) K = K (.bool (!decide (p = q))) := by
  have hg : Tryd.prog.eqGuardType Tryd.prog.depth 43 = false := by kernel_rfl
  have hrun : ∀ w, (semBin .neq 43 lit (cV p) (cV q)).run Tryd.prog w = .ok (.value (.bool (!decide (p = q)))) w := fun w => by
    unfold semBin
    have := eqs43 p.1 p.2 q.1 q.2 w
    rw [eqs2_bool] at this
    simp [run_eqGuard_agg w _ _ _ _ _ _ hg, run_neq_struct, this]
  refine propext ⟨?_, fun h => ⟨_, fun w' _ => hrun w', h⟩⟩
  rintro ⟨v, hv, hk⟩
  have h1 := hv w (Below.refl _ _)
  rw [hrun] at h1
  injection h1 with h1 _
  injection h1 with h1
  rw [h1]; exact hk

set_option maxRecDepth 100000 in
theorem readW_calls (x y : C2) (w : World) : Calls Tryd.prog 71 #[cV x, cV y] w fun e w' => e = .returned (.int .i64 (cmpZ x y)) ∧ Kp w w' := by
  refine lift71 ?_
  unfold S71
  refine r_box fun b2 w1 e2 s2 h2 k1 => ?_
  refine r_box fun b3 w2 e3 s3 h3 k2 => ?_
  refine r_drew fun w3 k3 _ => ?_
  obtain ⟨c0, c1⟩ := c_cells (p := x) (block_below h2 (Kp.trans k2 k3))
  obtain ⟨d0, d1⟩ := c_cells (p := y) (block_below h3 k3)
  simp (disch := omega) only [r_ln, r_pick, r_pickT, r_pickF, r_condT, r_condF, r_gdTT, r_gdFF, r_gdTF, r_gdFT, r_gqTT, r_gqFF, r_gqTF, r_gqFT, r_not, r_lss, r_leq, r_gtr, r_geq, r_eql, r_neq, r_add, r_sub, r_min2, r_max2, r_min3, r_max3, r_fa, r_iaS, r_iaA, r_ex2a, r_ex2b, r_ex3a, r_ex3b, r_ex3c, r_nc, r_keepE, Nat.zero_add, Nat.add_zero, Nat.mul_one, Int.toNat_natCast, toNat_sub1, toNat_add1, decide_true, decide_false, Bool.not_true, Bool.not_false, if_true, if_false, Bool.false_eq_true, reduceCtorEq, r_ld c0, r_ld c1, r_ld d0, r_ld d1]
  refine r_use fok69 (cmp_calls _ _ _) rfl ?_
  rintro _ _ ⟨rfl, rfl⟩
  refine ⟨_, rfl, Below.refl _ _, ?_⟩
  refine r_use fok69 (cmp_calls _ _ _) rfl ?_
  rintro _ _ ⟨rfl, rfl⟩
  refine ⟨_, rfl, ?_⟩
  rw [bs31_2]
  have k4 : Kp w3 (w3.alloc (.cells #[.int .i64 (cmpI x.2 y.2), .int .i64 (cmpI x.1 y.1)] 3)) := below_alloc _
  refine r_use fok68 (or_calls _ [cmpI x.2 y.2, cmpI x.1 y.1] _ (rd_two (heap_alloc_new _ _))) rfl ?_
  rintro _ _ ⟨rfl, rfl⟩
  exact ⟨_, rfl, rfl, Kp.trans k1 (Kp.trans k2 (Kp.trans k3 k4))⟩

/-- The second cell of a domino. -/
def domS (k : Nat) : C2 := if k = 0 then (1, 0) else (0, 1)
def domT (k : Nat) : List C2 := [(0, 0), domS k]
theorem domS_or (k : Nat) : domS k = (1, 0) ∨ domS k = (0, 1) := by unfold domS; split <;> simp

set_option maxRecDepth 100000 in
set_option maxHeartbeats 1000000 in
theorem tile_calls {v : Value} {k : Nat} (w : World) (hr : RdC w v (domT k)) : Calls Tryd.prog 46 #[v] w fun e w' => e = .returned (.bool true) ∧ Kp w w' := by
  obtain ⟨a, cap, ev, _⟩ := hr.len
  have lnv : ∀ K : Value → Prop, ln1 v K = K (.int .i64 ((2 : Nat) : Int)) := fun K => by rw [ev]; rfl
  have h0 : ∀ w' : World, Kp w w' → ∀ K : Value → Prop, (iaS 2 v (.int .i64 ((0 : Nat) : Int)) fun p => ldN 2 w' p K) = K (cV (0, 0)) := fun w' k' K => cell_at (hr.kp k') (i := 0) (by show 0 < 2; omega) K
  have h1 : ∀ w' : World, Kp w w' → ∀ K : Value → Prop, (iaS 2 v (.int .i64 ((1 : Nat) : Int)) fun p => ldN 2 w' p K) = K (cV (domS k)) := fun w' k' K => cell_at (hr.kp k') (i := 1) (by show 1 < 2; omega) K
  refine lift46 ?_
  unfold S46
  rw [lnv, r_lss, decide_eq_false (by omega)]
  simp only [r_gdFF, lnv, r_gtr]
  rw [decide_eq_false (by omega), r_pickF]
  simp only [r_gdFF]
  rw [show (0 : Int) = ((0 : Nat) : Int) from rfl, h0 w (Kp.refl _)]
  have bd0 : ∀ K : Value → Prop, bdQ Tryd.prog 43 [] K = K (cV (0, 0)) := fun K => by kernel_rfl
  rw [bd0, r_ne43, decide_eq_true rfl, r_pickF, Bool.not_true, r_condF]
  unfold S46L0
  refine ⟨fun t22 w' => ∃ i : Nat, i ≤ 2 ∧ t22 = .int .i64 i ∧ Kp w w', fun t22 _ => 2 - (intOf t22).toNat, ⟨0, by omega, rfl, Kp.refl _⟩, ?_⟩
  rintro _ _ wr ⟨i, hi, rfl, kr⟩
  by_cases hlt : i < 2
  case neg =>
    have hlt' : ¬ (i : Int) < ((2 : Nat) : Int) := by omega
    rw [r_lss, decide_eq_false hlt', r_condF]
    exact ⟨rfl, kr⟩
  have hlt' : (i : Int) < ((2 : Nat) : Int) := by omega
  rw [r_lss, decide_eq_true hlt', r_condT]
  have hc : ∀ w' : World, Kp w w' → ∀ K : Value → Prop, (iaS 2 v (.int .i64 i) fun p => ldN 2 w' p K) = K (cV ((domT k).getD i (0, 0))) := fun w' k' K => cell_at (hr.kp k') (i := i) hlt K
  rw [hc wr kr]
  have hb : 0 ≤ ((domT k).getD i (0, 0)).1 ∧ ((domT k).getD i (0, 0)).1 ≤ 1 ∧ 0 ≤ ((domT k).getD i (0, 0)).2 ∧ ((domT k).getD i (0, 0)).2 ≤ 1 := by
    unfold domT
    match i, hlt with
    | 0, _ => exact ⟨Int.le_refl 0, Int.zero_le_ofNat 1, Int.le_refl 0, Int.zero_le_ofNat 1⟩
    | 1, _ => show 0 ≤ (domS k).1 ∧ (domS k).1 ≤ 1 ∧ 0 ≤ (domS k).2 ∧ (domS k).2 ≤ 1; rcases domS_or k with e | e <;> rw [e] <;> exact ⟨by decide, by decide, by decide, by decide⟩
  have hlast : i = 1 → (domT k).getD i (0, 0) = domS k := fun e => by rw [e]; rfl
  generalize (domT k).getD i (0, 0) = c at *
  refine r_box fun b4 w1 e4 s4 h4 k4 => ?_
  have h4' : w1.heap[b4]? = some (.cells #[.int .i64 0, .int .i64 0] 43 (0, 0)) := h4
  refine st43 (p := c) h4' fun w2 c2 s2 h42 => ?_
  have kr2 : Kp wr w2 := Kp.of_chg k4 c2 fun q e => by omega
  refine r_drew fun w3 k3 _ => ?_
  have k03 := Kp.trans kr (Kp.trans kr2 k3)
  obtain ⟨c0, c1⟩ := c_cells (p := c) (block_below h42 k3)
  have q1 : ¬ c.1 < -4 := by omega
  have q2 : ¬ (4 : Int) < c.1 := by omega
  have q3 : ¬ c.2 < 0 := by omega
  have q4 : ¬ (4 : Int) < c.2 := by omega
  simp only [r_fa, Nat.zero_add, r_ld c0, r_ld c1, r_lss, r_gtr, decide_eq_false q1, r_gqFF, decide_eq_false q2, r_pickF, decide_eq_false q3, decide_eq_false q4]
  by_cases hi0 : i = 0
  · subst hi0
    have q5 : ¬ (0 : Int) < ((0 : Nat) : Int) := by omega
    simp only [decide_eq_false q5, r_gqFT, r_gdFT, r_gqU, r_gdU, r_keepE]
    refine ⟨Below.refl _ _, ?_⟩
    simp only [r_pickF, r_condF]
    rw [r_add _ _ (by omega) (by omega)]
    exact ⟨⟨1, by omega, rfl, k03⟩, by simp [intOf]⟩
  · have hi1 : i = 1 := by omega
    subst hi1
    have hcs := hlast rfl
    have q5 : (0 : Int) < ((1 : Nat) : Int) := by omega
    simp only [decide_eq_true q5, r_gqTT, r_gdTT]
    rw [r_sub _ _ (by omega) (by omega), show ((1 : Nat) : Int) - 1 = ((0 : Nat) : Int) from rfl, h0 w3 k03, c_box (block_below h42 k3)]
    refine r_use fok71 (readW_calls _ _ w3) rfl ?_
    rintro _ w4 ⟨rfl, k4'⟩
    refine ⟨_, rfl, ?_⟩
    rw [r_keepE]
    refine ⟨k4', ?_⟩
    have hcmp : cmpZ (0, 0) c = -1 := by rw [hcs]; rcases domS_or k with e | e <;> rw [e] <;> decide
    rw [hcmp, r_geq, decide_eq_false (by omega)]
    simp only [r_pickT, r_pickF, r_condF]
    rw [r_add _ _ (by omega) (by omega)]
    exact ⟨⟨2, by omega, rfl, Kp.trans k03 k4'⟩, by simp [intOf]⟩

set_option maxRecDepth 100000 in
set_option maxHeartbeats 1000000 in
/-- The two dominoes are not the same. -/
theorem equal_calls {v u : Value} (w : World) (hr : RdC w v (domT 0)) (hu : RdC w u (domT 1)) : Calls Tryd.prog 49 #[v, u] w fun e w' => e = .returned (.bool false) ∧ Kp w w' := by
  obtain ⟨a, cap, ev, _⟩ := hr.len
  obtain ⟨a', cap', eu, _⟩ := hu.len
  have lnv : ∀ K : Value → Prop, ln1 v K = K (.int .i64 ((2 : Nat) : Int)) := fun K => by rw [ev]; rfl
  have lnu : ∀ K : Value → Prop, ln1 u K = K (.int .i64 ((2 : Nat) : Int)) := fun K => by rw [eu]; rfl
  refine lift49 ?_
  unfold S49
  rw [lnv, lnu, r_neq, decide_eq_true rfl, Bool.not_true, r_condF, lnv]
  unfold S49L0
  refine ⟨fun t13 w' => ∃ i : Nat, i ≤ 1 ∧ t13 = .int .i64 i ∧ Kp w w', fun t13 _ => 2 - (intOf t13).toNat, ⟨0, by omega, rfl, Kp.refl _⟩, ?_⟩
  rintro _ _ wr ⟨i, hi, rfl, kr⟩
  have hlt' : (i : Int) < ((2 : Nat) : Int) := by omega
  rw [r_lss, decide_eq_true hlt', r_condT]
  refine r_drew fun w2 k2 _ => ?_
  have k02 := Kp.trans kr k2
  rw [cell_at (hr.kp k02) (i := i) (by show i < 2; omega), cell_at (hu.kp k02) (i := i) (by show i < 2; omega), r_ne43]
  match i, hi with
  | 0, _ =>
    rw [show (domT 0).getD 0 (0, 0) = (domT 1).getD 0 (0, 0) from rfl, decide_eq_true rfl, Bool.not_true, r_condF, r_add _ _ (by omega) (by omega)]
    exact ⟨⟨1, by omega, rfl, k02⟩, by simp [intOf]⟩
  | 1, _ =>
    rw [decide_eq_false (by decide), Bool.not_false, r_condT]
    exact ⟨rfl, k02⟩

end Go.Proofs.YtbekeccfjmoonaaDoor
