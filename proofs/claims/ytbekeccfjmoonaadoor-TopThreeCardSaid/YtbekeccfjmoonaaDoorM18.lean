/- Texts of my own, merged by program: Tj Se. -/
import Derived.Test.YtbekeccfjmoonaaDoorM17
import Derived.Test.YtbekeccfjmoonaaDoorM07
set_option linter.all false
/- Contracts of weight: reading, tile, Equal; the two dominoes. -/
namespace Go.Proofs.YtbekeccfjmoonaaDoor
open Go.Lf Go.RowKit Go.Ht

set_option maxRecDepth 100000 in
theorem r_ne43 {w : World} {lit : Bool} (p q : Int × Int) (K : Value → Prop) : binQ Tryd.prog w .neq 43 lit (cV p) (cV q) K = K (.bool (!decide (p = q))) := by
  have hg : Tryd.prog.eqGuardType Tryd.prog.depth 43 = false := by kernel_rfl
  have hrun : ∀ w, (semBin .neq 43 lit (cV p) (cV q)).run Tryd.prog w = .ok (.value (.bool (!decide (p = q)))) w := fun w => by
    unfold semBin
    have := eqs43 p.1 p.2 q.1 q.2 w
    rw [eqs2_bool] at this
    simp [run_eqGuard_agg w _ _ _ _ _ _ hg, run_neq_struct, this]
  refine propext ⟨?_, fun h => ⟨_, fun w' _ => hrun w', h⟩⟩
  rintro ⟨v, hv, hk⟩
  have h1 := hv w (Below.refl _ _)
  rw [hrun] at h1
  injection h1 with h1 _
  injection h1 with h1
  rw [h1]; exact hk

set_option maxRecDepth 100000 in
theorem readW_calls (x y : C2) (w : World) : Calls Tryd.prog 71 #[cV x, cV y] w fun e w' => e = .returned (.int .i64 (cmpZ x y)) ∧ Kp w w' := by
  refine lift71 ?_
  unfold S71
  refine r_box fun b2 w1 e2 s2 h2 k1 => ?_
  refine r_box fun b3 w2 e3 s3 h3 k2 => ?_
  refine r_drew fun w3 k3 _ => ?_
  obtain ⟨c0, c1⟩ := c_cells (p := x) (block_below h2 (Kp.trans k2 k3))
  obtain ⟨d0, d1⟩ := c_cells (p := y) (block_below h3 k3)
  simp (disch := omega) only [r_ln, r_pick, r_pickT, r_pickF, r_condT, r_condF, r_gdTT, r_gdFF, r_gdTF, r_gdFT, r_gqTT, r_gqFF, r_gqTF, r_gqFT, r_not, r_lss, r_leq, r_gtr, r_geq, r_eql, r_neq, r_add, r_sub, r_min2, r_max2, r_min3, r_max3, r_fa, r_iaS, r_iaA, r_ex2a, r_ex2b, r_ex3a, r_ex3b, r_ex3c, r_nc, r_keepE, Nat.zero_add, Nat.add_zero, Nat.mul_one, Int.toNat_natCast, toNat_sub1, toNat_add1, decide_true, decide_false, Bool.not_true, Bool.not_false, if_true, if_false, Bool.false_eq_true, reduceCtorEq, r_ld c0, r_ld c1, r_ld d0, r_ld d1]
  refine r_use fok69 (cmp_calls _ _ _) rfl ?_
  rintro _ _ ⟨rfl, rfl⟩
  refine ⟨_, rfl, Below.refl _ _, ?_⟩
  refine r_use fok69 (cmp_calls _ _ _) rfl ?_
  rintro _ _ ⟨rfl, rfl⟩
  refine ⟨_, rfl, ?_⟩
  rw [bs31_2]
  have k4 : Kp w3 (w3.alloc (.cells #[.int .i64 (cmpI x.2 y.2), .int .i64 (cmpI x.1 y.1)] 3)) := below_alloc _
  refine r_use fok68 (or_calls _ [cmpI x.2 y.2, cmpI x.1 y.1] _ (rd_two (heap_alloc_new _ _))) rfl ?_
  rintro _ _ ⟨rfl, rfl⟩
  exact ⟨_, rfl, rfl, Kp.trans k1 (Kp.trans k2 (Kp.trans k3 k4))⟩

/-- The second cell of a domino. -/
def domS (k : Nat) : C2 := if k = 0 then (1, 0) else (0, 1)
def domT (k : Nat) : List C2 := [(0, 0), domS k]
theorem domS_or (k : Nat) : domS k = (1, 0) ∨ domS k = (0, 1) := by unfold domS; split <;> simp

set_option maxRecDepth 100000 in
set_option maxHeartbeats 1000000 in
theorem tile_calls {v : Value} {k : Nat} (w : World) (hr : RdC w v (domT k)) : Calls Tryd.prog 46 #[v] w fun e w' => e = .returned (.bool true) ∧ Kp w w' := by
  obtain ⟨a, cap, ev, _⟩ := hr.len
  have lnv : ∀ K : Value → Prop, ln1 v K = K (.int .i64 ((2 : Nat) : Int)) := fun K => by rw [ev]; rfl
  have h0 : ∀ w' : World, Kp w w' → ∀ K : Value → Prop, (iaS 2 v (.int .i64 ((0 : Nat) : Int)) fun p => ldN 2 w' p K) = K (cV (0, 0)) := fun w' k' K => cell_at (hr.kp k') (i := 0) (by show 0 < 2; omega) K
  have h1 : ∀ w' : World, Kp w w' → ∀ K : Value → Prop, (iaS 2 v (.int .i64 ((1 : Nat) : Int)) fun p => ldN 2 w' p K) = K (cV (domS k)) := fun w' k' K => cell_at (hr.kp k') (i := 1) (by show 1 < 2; omega) K
  refine lift46 ?_
  unfold S46
  rw [lnv, r_lss, decide_eq_false (by omega)]
  simp only [r_gdFF, lnv, r_gtr]
  rw [decide_eq_false (by omega), r_pickF]
  simp only [r_gdFF]
  rw [show (0 : Int) = ((0 : Nat) : Int) from rfl, h0 w (Kp.refl _)]
  have bd0 : ∀ K : Value → Prop, bdQ Tryd.prog 43 [] K = K (cV (0, 0)) := fun K => by kernel_rfl
  rw [bd0, r_ne43, decide_eq_true rfl, r_pickF, Bool.not_true, r_condF]
  unfold S46L0
  refine ⟨fun t22 w' => ∃ i : Nat, i ≤ 2 ∧ t22 = .int .i64 i ∧ Kp w w', fun t22 _ => 2 - (intOf t22).toNat, ⟨0, by omega, rfl, Kp.refl _⟩, ?_⟩
  rintro _ _ wr ⟨i, hi, rfl, kr⟩
  by_cases hlt : i < 2
  case neg =>
    have hlt' : ¬ (i : Int) < ((2 : Nat) : Int) := by omega
    rw [r_lss, decide_eq_false hlt', r_condF]
    exact ⟨rfl, kr⟩
  have hlt' : (i : Int) < ((2 : Nat) : Int) := by omega
  rw [r_lss, decide_eq_true hlt', r_condT]
  have hc : ∀ w' : World, Kp w w' → ∀ K : Value → Prop, (iaS 2 v (.int .i64 i) fun p => ldN 2 w' p K) = K (cV ((domT k).getD i (0, 0))) := fun w' k' K => cell_at (hr.kp k') (i := i) hlt K
  rw [hc wr kr]
  have hb : 0 ≤ ((domT k).getD i (0, 0)).1 ∧ ((domT k).getD i (0, 0)).1 ≤ 1 ∧ 0 ≤ ((domT k).getD i (0, 0)).2 ∧ ((domT k).getD i (0, 0)).2 ≤ 1 := by
    unfold domT
    match i, hlt with
    | 0, _ => exact ⟨Int.le_refl 0, Int.zero_le_ofNat 1, Int.le_refl 0, Int.zero_le_ofNat 1⟩
    | 1, _ => show 0 ≤ (domS k).1 ∧ (domS k).1 ≤ 1 ∧ 0 ≤ (domS k).2 ∧ (domS k).2 ≤ 1; rcases domS_or k with e | e <;> rw [e] <;> exact ⟨by decide, by decide, by decide, by decide⟩
  have hlast : i = 1 → (domT k).getD i (0, 0) = domS k := fun e => by rw [e]; rfl
  generalize (domT k).getD i (0, 0) = c at *
  refine r_box fun b4 w1 e4 s4 h4 k4 => ?_
  have h4' : w1.heap[b4]? = some (.cells #[.int .i64 0, .int .i64 0] 43 (0, 0)) := h4
  refine st43 (p := c) h4' fun w2 c2 s2 h42 => ?_
  have kr2 : Kp wr w2 := Kp.of_chg k4 c2 fun q e => by omega
  refine r_drew fun w3 k3 _ => ?_
  have k03 := Kp.trans kr (Kp.trans kr2 k3)
  obtain ⟨c0, c1⟩ := c_cells (p := c) (block_below h42 k3)
  have q1 : ¬ c.1 < -4 := by omega
  have q2 : ¬ (4 : Int) < c.1 := by omega
  have q3 : ¬ c.2 < 0 := by omega
  have q4 : ¬ (4 : Int) < c.2 := by omega
  simp only [r_fa, Nat.zero_add, r_ld c0, r_ld c1, r_lss, r_gtr, decide_eq_false q1, r_gqFF, decide_eq_false q2, r_pickF, decide_eq_false q3, decide_eq_false q4]
  by_cases hi0 : i = 0
  · subst hi0
    have q5 : ¬ (0 : Int) < ((0 : Nat) : Int) := by omega
    simp only [decide_eq_false q5, r_gqFT, r_gdFT, r_gqU, r_gdU, r_keepE]
    refine ⟨Below.refl _ _, ?_⟩
    simp only [r_pickF, r_condF]
    rw [r_add _ _ (by omega) (by omega)]
    exact ⟨⟨1, by omega, rfl, k03⟩, by simp [intOf]⟩
  · have hi1 : i = 1 := by omega
    subst hi1
    have hcs := hlast rfl
    have q5 : (0 : Int) < ((1 : Nat) : Int) := by omega
    simp only [decide_eq_true q5, r_gqTT, r_gdTT]
    rw [r_sub _ _ (by omega) (by omega), show ((1 : Nat) : Int) - 1 = ((0 : Nat) : Int) from rfl, h0 w3 k03, c_box (block_below h42 k3)]
    refine r_use fok71 (readW_calls _ _ w3) rfl ?_
    rintro _ w4 ⟨rfl, k4'⟩
    refine ⟨_, rfl, ?_⟩
    rw [r_keepE]
    refine ⟨k4', ?_⟩
    have hcmp : cmpZ (0, 0) c = -1 := by rw [hcs]; rcases domS_or k with e | e <;> rw [e] <;> decide
    rw [hcmp, r_geq, decide_eq_false (by omega)]
    simp only [r_pickT, r_pickF, r_condF]
    rw [r_add _ _ (by omega) (by omega)]
    exact ⟨⟨2, by omega, rfl, Kp.trans k03 k4'⟩, by simp [intOf]⟩

set_option maxRecDepth 100000 in
set_option maxHeartbeats 1000000 in
/-- The two dominoes are not the same. -/
theorem equal_calls {v u : Value} (w : World) (hr : RdC w v (domT 0)) (hu : RdC w u (domT 1)) : Calls Tryd.prog 49 #[v, u] w fun e w' => e = .returned (.bool false) ∧ Kp w w' := by
  obtain ⟨a, cap, ev, _⟩ := hr.len
  obtain ⟨a', cap', eu, _⟩ := hu.len
  have lnv : ∀ K : Value → Prop, ln1 v K = K (.int .i64 ((2 : Nat) : Int)) := fun K => by rw [ev]; rfl
  have lnu : ∀ K : Value → Prop, ln1 u K = K (.int .i64 ((2 : Nat) : Int)) := fun K => by rw [eu]; rfl
  refine lift49 ?_
  unfold S49
  rw [lnv, lnu, r_neq, decide_eq_true rfl, Bool.not_true, r_condF, lnv]
  unfold S49L0
  refine ⟨fun t13 w' => ∃ i : Nat, i ≤ 1 ∧ t13 = .int .i64 i ∧ Kp w w', fun t13 _ => 2 - (intOf t13).toNat, ⟨0, by omega, rfl, Kp.refl _⟩, ?_⟩
  rintro _ _ wr ⟨i, hi, rfl, kr⟩
  have hlt' : (i : Int) < ((2 : Nat) : Int) := by omega
  rw [r_lss, decide_eq_true hlt', r_condT]
  refine r_drew fun w2 k2 _ => ?_
  have k02 := Kp.trans kr k2
  rw [cell_at (hr.kp k02) (i := i) (by show i < 2; omega), cell_at (hu.kp k02) (i := i) (by show i < 2; omega), r_ne43]
  match i, hi with
  | 0, _ =>
    rw [show (domT 0).getD 0 (0, 0) = (domT 1).getD 0 (0, 0) from rfl, decide_eq_true rfl, Bool.not_true, r_condF, r_add _ _ (by omega) (by omega)]
    exact ⟨⟨1, by omega, rfl, k02⟩, by simp [intOf]⟩
  | 1, _ =>
    rw [decide_eq_false (by decide), Bool.not_false, r_condT]
    exact ⟨rfl, k02⟩

end Go.Proofs.YtbekeccfjmoonaaDoor

/- Lifted texts, printed by program (gen.py): what each function's code asks. The ties are by the kernel. -/
namespace Go.Proofs.YtbekeccfjmoonaaDoor
open Go.Lf Go.RowKit

def S17xL2 (t1 t12 t20 t55 t61 t66 : Value) (next_2 : Value → World → Prop) (w : World) : Prop :=
  Loop1 (.int .i64 0) w fun _ t67 w next_3 =>
    binQ Tryd.prog w .lss 3 false t67 t66 fun t68 =>
    condW t68 (
      iaS 1 t1 t67 fun t70 =>
      ld1 w t70 fun t71 =>
      ldN 2 w t12 fun t75 =>
      callW Tryd.prog (.func (.func 50) #[] #[]) [t20, t71, t75] w fun t76 w =>
      exQ t76 0 fun t77 =>
      exQ t76 1 fun t78 =>
      Join (fun (k_2 : World → Prop) =>
        condW t78 (
          Drew w fun w =>
          Join (fun (k_3 : World → Prop) =>
            ∃ X : Nat → Prop,
            takeX X w (fun w k => k t55) fun t80 =>
            takeX topX w (fun w k => k t55) fun t81 =>
            takeX X w (fun w k => k t55) fun t82 =>
            takeX X w (fun w k => ncQ t82 k) fun t83 =>
            takeX X w (fun w k => fa1 t83 2 k) fun t84 =>
            takeX X w (fun w k => ld1 w t84 k) fun t85 =>
            takeX X w (fun w k => k t67) fun t86 =>
            takeX X w (fun w k => fa1 t12 0 k) fun t87 =>
            takeX X w (fun w k => ld1 w t87 k) fun t88 =>
            takeX X w (fun w k => fa1 t12 1 k) fun t89 =>
            takeX X w (fun w k => ld1 w t89 k) fun t90 =>
            takeX X w (fun w k => bdQ Tryd.prog 106 [(0, t86), (1, t88), (2, t90)] k) fun t91 =>
            takeX X w (fun w k => k t55) fun t94 =>
            takeX X w (fun w k => ncQ t94 k) fun t95 =>
            takeX X w (fun w k => fa1 t95 3 k) fun t96 =>
            takeX X w (fun w k => ld1 w t96 k) fun t97 =>
            takeX X w (fun w k => k t77) fun t98 =>
            And (
              bsW Tryd.prog 36 1 [(0, t91)] w <| keepX X w fun t92 w =>
              And (
                semW Tryd.prog (apS [36, 36] 36 [t85, t92]) w <| keepX X w fun t93 w =>
                bsW Tryd.prog 50 1 [(0, t98)] w <| keepX X w fun t99 w =>
                semW Tryd.prog (apS [50, 50] 50 [t97, t99]) w <| keepX X w fun t100 w =>
                takeX X w (fun w k => ncQ t80 k) fun t101 =>
                takeX X w (fun w k => fa1 t101 2 k) fun t102 =>
                stW Tryd.prog 36 t102 t93 w <| keepW topX w fun w =>
                takeX topX w (fun w k => ncQ t81 k) fun t103 =>
                takeX topX w (fun w k => fa1 t103 3 k) fun t104 =>
                stW Tryd.prog 50 t104 t100 w fun w =>
                k_3  w
              ) <|
              And (
                bsW Tryd.prog 50 1 [(0, t98)] w <| keepX X w fun t99_2 w =>
                semW Tryd.prog (apS [36, 36] 36 [t85, t92]) w <| keepX X w fun t93_2 w =>
                semW Tryd.prog (apS [50, 50] 50 [t97, t99_2]) w <| keepX X w fun t100_2 w =>
                takeX X w (fun w k => ncQ t80 k) fun t101_2 =>
                takeX X w (fun w k => fa1 t101_2 2 k) fun t102_2 =>
                stW Tryd.prog 36 t102_2 t93_2 w <| keepW topX w fun w =>
                takeX topX w (fun w k => ncQ t81 k) fun t103_2 =>
                takeX topX w (fun w k => fa1 t103_2 3 k) fun t104_2 =>
                stW Tryd.prog 50 t104_2 t100_2 w fun w =>
                k_3  w
              ) <|
              True
            ) <|
            And (
              bsW Tryd.prog 50 1 [(0, t98)] w <| keepX X w fun t99_3 w =>
              bsW Tryd.prog 36 1 [(0, t91)] w <| keepX X w fun t92_2 w =>
              semW Tryd.prog (apS [36, 36] 36 [t85, t92_2]) w <| keepX X w fun t93_3 w =>
              semW Tryd.prog (apS [50, 50] 50 [t97, t99_3]) w <| keepX X w fun t100_3 w =>
              takeX X w (fun w k => ncQ t80 k) fun t101_3 =>
              takeX X w (fun w k => fa1 t101_3 2 k) fun t102_3 =>
              stW Tryd.prog 36 t102_3 t93_3 w <| keepW topX w fun w =>
              takeX topX w (fun w k => ncQ t81 k) fun t103_3 =>
              takeX topX w (fun w k => fa1 t103_3 3 k) fun t104_3 =>
              stW Tryd.prog 50 t104_3 t100_3 w fun w =>
              k_3  w
            ) <|
            True
          ) fun  w =>
          k_2 w
        ) (
          k_2 w
        )
      ) fun w =>
      binQ Tryd.prog w .add 3 true t67 (.int .i64 1) fun t105_2 =>
      next_3 t105_2 w
    ) (
      binQ Tryd.prog w .add 3 true t61 (.int .i64 1) fun t106 =>
      next_2 t106 w
    )

def S17xL1 (t1 t20 t55 t59 t60 : Value) (R : Ending → World → Prop) (w : World) : Prop :=
  Loop1 (.int .i64 0) w fun _ t61 w next_2 =>
    binQ Tryd.prog w .lss 3 false t61 t60 fun t62 =>
    condW t62 (
      iaS 2 t59 t61 fun t63 =>
      ldN 2 w t63 fun t64 =>
      boxW 43 (.agg #[(.int .i64 0), (.int .i64 0)]) w fun t12 w =>
      stW Tryd.prog 43 t12 t64 w fun w =>
      ln1 t1 fun t66 =>
      S17xL2 t1 t12 t20 t55 t61 t66 next_2 w
    ) (
      R (.returned (.tuple #[t55, (.int .i64 0)])) w
    )

def S17xL0 (t1 t20 t35 : Value) (R : Ending → World → Prop) (w : World) : Prop :=
  Loop1 (.int .i64 0) w fun _ t36 w next =>
    binQ Tryd.prog w .lss 3 false t36 t35 fun t37 =>
    condW t37 (
      iaS 1 t1 t36 fun t39 =>
      ld1 w t39 fun t40 =>
      boxW 61 (.slice none 0 0) w fun t9 w =>
      stW Tryd.prog 61 t9 t40 w fun w =>
      ld1 w t9 fun t41 =>
      callW Tryd.prog (.func (.func 46) #[] #[]) [t41] w fun t42 w =>
      unQ .not t42 fun t43 =>
      gd t43 false (fun k => k t1 w) w fun t45 w =>
      gd t43 false (fun k => k t36 w) w fun t46 w =>
      gd t43 false (fun k => slS 1 t45 none (some t46) fun v => k v w) w fun t47 w =>
      gd t43 false (fun k => k (.func (.func 48) #[] #[t9]) w) w fun t48 w =>
      gd t43 false (fun k => callW Tryd.prog (.func (.func 47) #[] #[]) [t47, t48] w k) w fun t49 w =>
      pickQ t43 (.bool true) t49 fun t50 =>
      condW t50 (
        R (.returned (.tuple #[(.pointer none), (.int .i64 2)])) w
      ) (
        binQ Tryd.prog w .add 3 true t36 (.int .i64 1) fun t51 =>
        next t51 w
      )
    ) (
      bdQ Tryd.prog 52 [(0, t20), (1, t1)] fun t54 =>
      boxW 52 t54 w fun t55 w =>
      ncQ t20 fun t57 =>
      fa1 t57 0 fun t58 =>
      ld1 w t58 fun t59 =>
      ln1 t59 fun t60 =>
      S17xL1 t1 t20 t55 t59 t60 R w
    )

def S17x (t0 t1 : Value) (w : World) (R : Ending → World → Prop) : Prop :=
  callW Tryd.prog (.func (.func 45) #[] #[]) [t0] w fun t19 w =>
  exQ t19 0 fun t20 =>
  exQ t19 1 fun t21 =>
  unQ .not t21 fun t23 =>
  gd t23 false (fun k => k t1 w) w fun t25 w =>
  gd t23 false (fun k => ln1 t25 fun v => k v w) w fun t26 w =>
  gd t23 false (fun k => binQ Tryd.prog w .lss 3 true t26 (.int .i64 1) fun v => k v w) w fun t27 w =>
  pickQ t23 (.bool true) t27 fun t28 =>
  gd t28 false (fun k => k t1 w) w fun t30 w =>
  gd t28 false (fun k => ln1 t30 fun v => k v w) w fun t31 w =>
  gd t28 false (fun k => binQ Tryd.prog w .gtr 3 true t31 (.int .i64 6) fun v => k v w) w fun t32 w =>
  pickQ t28 (.bool true) t32 fun t33 =>
  condW t33 (
    R (.returned (.tuple #[(.pointer none), (.int .i64 2)])) w
  ) (
    ln1 t1 fun t35 =>
    S17xL0 t1 t20 t35 R w
  )

def A17x : Ann where
  live := fun
    | 0 => [36]
    | 2 => [61]
    | 4 => [67]
    | _ => []
  wr := fun
    | 0 => fun i => (Nat.ble 4 i && Nat.ble i 5) || (Nat.ble 8 i && Nat.ble i 9) || (Nat.ble 36 i && Nat.ble i 51)
    | 2 => fun i => (Nat.ble 12 i && Nat.ble i 16) || (Nat.ble 61 i && Nat.ble i 106)
    | 4 => fun i => (Nat.ble 13 i && Nat.ble i 16) || (Nat.ble 67 i && Nat.ble i 105)
    | _ => fun _ => false
  sched := fun
    | 19 => (.cls (.cls (.take 0 (.take 1 (.take 2 (.take 3 (.take 4 (.take 5 (.take 6 (.take 7 (.take 8 (.take 9 (.take 10 (.take 11 (.take 14 (.take 15 (.take 16 (.take 17 (.take 18 (.alt 12 (.alt 13 (.eff 19 (.eff 20 (.take 21 (.take 22 (.eff 23 (.take 24 (.take 25 (.bar 26 .done)))))))) (.alt 19 (.eff 13 (.eff 20 (.take 21 (.take 22 (.eff 23 (.take 24 (.take 25 (.bar 26 .done)))))))) .nomore)) (.alt 19 (.eff 12 (.eff 13 (.eff 20 (.take 21 (.take 22 (.eff 23 (.take 24 (.take 25 (.bar 26 .done))))))))) .nomore)))))))))))))))))))))
    | _ => .done

set_option maxRecDepth 100000 in
theorem ok17x : (codeOk Tryd.f17.ntmps A17x (Tryd.f17.body.getD .skip) 0 && Nat.ble 2 Tryd.f17.ntmps) = true := by kernel_rfl
set_option maxRecDepth 100000 in
theorem lift17x {t0 t1 : Value} {w : World} {R : Ending → World → Prop} (h : S17x t0 t1 w R) : Calls Tryd.prog 17 #[t0, t1] w R :=
  calls_of_cw (fn := Tryd.f17) (c := Tryd.f17.body.getD .skip) A17x mixes Tryd.func17 (by kernel_rfl) ok17x
    ((by kernel_rfl : (S17x t0 t1 w R) = cw Tryd.prog A17x (Tryd.f17.body.getD .skip) 0 (bodyQ Tryd.prog Tryd.f17 R) (frOf #[t0, t1]) w).mp h)

theorem fok17 : fnOk Tryd.prog 17 = true := by kernel_rfl
end Go.Proofs.YtbekeccfjmoonaaDoor
