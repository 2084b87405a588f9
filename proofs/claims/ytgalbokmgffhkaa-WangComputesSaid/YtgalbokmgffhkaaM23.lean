/- Texts of my own, merged by program: Sp D12 D13. -/
import Derived.Test.YtgalbokmgffhkaaM02
import Derived.Test.YtgalbokmgffhkaaM12
set_option linter.all false
/- Lifted texts, printed by program (gen.py): what each function's code asks. The ties are by the kernel. -/
namespace Go.Proofs.Ytgalbokmgffhkaa
open Go.Lf Go.RowKit

def S45L0 (t0 t1 t2 t8 t12 : Value) (R : Ending → World → Prop) (w : World) : Prop :=
  Loop2 (.slice none 0 0) (.int .i64 0) w fun _ t9_3 t10_2 w next_2 =>
    ln1 t0 fun t36_2 =>
    binQ Try.prog w .lss 3 false t10_2 t36_2 fun t37_2 =>
    condW t37_2 (
      Drew w fun w =>
      iaS 4 t0 t10_2 fun t42_2 =>
      fa1 t42_2 0 fun t43_2 =>
      ld1 w t43_2 fun t44_2 =>
      iaS 1 t1 t12 fun t47_2 =>
      ld1 w t47_2 fun t48_2 =>
      binQ Try.prog w .eql 3 false t44_2 t48_2 fun t49_2 =>
      gdQ t49_2 true (fun k => k t0) fun t51_2 =>
      gdQ t49_2 true (fun k => k t10_2) fun t52_2 =>
      gdQ t49_2 true (fun k => iaS 4 t51_2 t52_2 k) fun t53_2 =>
      gdQ t49_2 true (fun k => fa1 t53_2 3 k) fun t54_2 =>
      gdQ t49_2 true (fun k => ld1 w t54_2 k) fun t55_2 =>
      gdQ t49_2 true (fun k => k t8) fun t56_2 =>
      gdQ t49_2 true (fun k => binQ Try.prog w .eql 3 false t55_2 t56_2 k) fun t57_2 =>
      pickQ t49_2 t57_2 (.bool false) fun t58_2 =>
      Join (fun (k_4 : Value → World → Prop) =>
        condW t58_2 (
          semW Try.prog (s3S 30 t2 none (some t12) t12) w fun t65_2 w =>
          bsW Try.prog 30 1 [(0, t10_2)] w fun t67_2 w =>
          semW Try.prog (apS [30, 30] 30 [t65_2, t67_2]) w fun t68_2 w =>
          callW Try.prog (.func (.func 45) #[] #[]) [t0, t1, t68_2] w fun t69_2 w =>
          semW Try.prog (apS [23, 23] 23 [t9_3, t69_2]) w fun t70_2 w =>
          k_4 t70_2 w
        ) (
          k_4 t9_3 w
        )
      ) fun t9_4 w =>
      binQ Try.prog w .add 3 true t10_2 (.int .i64 1) fun t39_4 =>
      next_2 t9_4 t39_4 w
    ) (
      R (.returned t9_3) w
    )

def S45 (t0 t1 t2 : Value) (w : World) (R : Ending → World → Prop) : Prop :=
  ln1 t2 fun t12 =>
  binQ Try.prog w .gtr 3 true t12 (.int .i64 0) fun t14 =>
  Join (fun (k_3 : Value → World → Prop) =>
    condW t14 (
      binQ Try.prog w .sub 3 true t12 (.int .i64 1) fun t18 =>
      iaS 1 t2 t18 fun t19 =>
      ld1 w t19 fun t20 =>
      iaS 4 t0 t20 fun t21 =>
      fa1 t21 1 fun t22 =>
      ld1 w t22 fun t23 =>
      k_3 t23 w
    ) (
      k_3 (.int .i64 0) w
    )
  ) fun t8 w =>
  ln1 t1 fun t26_2 =>
  binQ Try.prog w .eql 3 false t12 t26_2 fun t27_2 =>
  condW t27_2 (
    binQ Try.prog w .eql 3 true t8 (.int .i64 0) fun t29_2 =>
    condW t29_2 (
      bsW Try.prog 30 0 [] w fun t30_2 w =>
      semW Try.prog (apS [30, 30] 30 [t30_2, t2]) w fun t32_2 w =>
      bsW Try.prog 23 1 [(0, t32_2)] w fun t33_2 w =>
      R (.returned t33_2) w
    ) (
      R (.returned (.slice none 0 0)) w
    )
  ) (
    S45L0 t0 t1 t2 t8 t12 R w
  )

def A45 : Ann where
  live := fun
    | 0 => [9, 10]
    | _ => []
  wr := fun
    | 0 => fun i => (Nat.ble 9 i && Nat.ble i 10) || (Nat.ble 34 i && Nat.ble i 70)
    | _ => fun _ => false
  sched := fun
    | 13 => (.take 0 (.take 1 (.take 2 (.take 3 (.take 4 (.take 5 (.take 6 (.take 7 (.take 8 (.take 9 (.take 10 (.take 11 (.take 12 (.take 13 (.take 14 (.take 15 (.take 16 (.take 17 (.take 18 .done)))))))))))))))))))
    | _ => .done

set_option maxRecDepth 100000 in
theorem ok45 : (codeOk Try.f45.ntmps A45 (Try.f45.body.getD .skip) 0 && Nat.ble 3 Try.f45.ntmps) = true := by kernel_rfl
set_option maxRecDepth 100000 in
theorem lift45 {t0 t1 t2 : Value} {w : World} {R : Ending → World → Prop} (h : S45 t0 t1 t2 w R) : Calls Try.prog 45 #[t0, t1, t2] w R :=
  calls_of_cw (fn := Try.f45) (c := Try.f45.body.getD .skip) A45 mixes Try.func45 (by kernel_rfl) ok45
    ((by kernel_rfl : (S45 t0 t1 t2 w R) = cw Try.prog A45 (Try.f45.body.getD .skip) 0 (bodyQ Try.prog Try.f45 R) (frOf #[t0, t1, t2]) w).mp h)

def S44 (t0 t1 t2 : Value) (w : World) (R : Ending → World → Prop) : Prop :=
  bsW Try.prog 30 0 [] w fun t8 w =>
  semW Try.prog (apS [30, 30] 30 [t8, t0]) w fun t10 w =>
  iaS 1 t10 t1 fun t13 =>
  ld1 w t13 fun t14 =>
  binQ Try.prog w .mul 3 true (.int .i64 2) t2 fun t16 =>
  binQ Try.prog w .add 3 true (.int .i64 2) t16 fun t17 =>
  binQ Try.prog w .add 3 false t14 t17 fun t18 =>
  iaS 1 t10 t1 fun t19 =>
  stW Try.prog 3 t19 t18 w fun w =>
  R (.returned t10) w

def A44 : Ann where
  live := fun _ => []
  wr := fun _ _ => false
  sched := fun _ => .done

set_option maxRecDepth 100000 in
theorem ok44 : (codeOk Try.f44.ntmps A44 (Try.f44.body.getD .skip) 0 && Nat.ble 3 Try.f44.ntmps) = true := by kernel_rfl
set_option maxRecDepth 100000 in
theorem lift44 {t0 t1 t2 : Value} {w : World} {R : Ending → World → Prop} (h : S44 t0 t1 t2 w R) : Calls Try.prog 44 #[t0, t1, t2] w R :=
  calls_of_cw (fn := Try.f44) (c := Try.f44.body.getD .skip) A44 mixes Try.func44 (by kernel_rfl) ok44
    ((by kernel_rfl : (S44 t0 t1 t2 w R) = cw Try.prog A44 (Try.f44.body.getD .skip) 0 (bodyQ Try.prog Try.f44 R) (frOf #[t0, t1, t2]) w).mp h)

def S11L1 (t12 t32 t94 t123 : Value) (next : Value → Value → World → Prop) (R : Ending → World → Prop) (w : World) : Prop :=
  Loop1 (.int .i64 0) w fun _ t18 w next_2 =>
    ln1 t123 fun t126 =>
    binQ Try.prog w .lss 3 false t18 t126 fun t127 =>
    condW t127 (
      Drew w fun w =>
      iaS 1 t94 (.int .i64 0) fun t132 =>
      ld1 w t132 fun t133 =>
      iaS 1 t133 t18 fun t135 =>
      ld1 w t135 fun t136 =>
      iaS 4 t32 t136 fun t137 =>
      fa1 t137 2 fun t138 =>
      ld1 w t138 fun t139 =>
      iaS 1 t123 t18 fun t142 =>
      ld1 w t142 fun t143 =>
      binQ Try.prog w .neq 3 false t139 t143 fun t144 =>
      condW t144 (
        R (.returned (.bool false)) w
      ) (
        binQ Try.prog w .add 3 true t18 (.int .i64 1) fun t129 =>
        next_2 t129 w
      )
    ) (
      binQ Try.prog w .add 3 true t12 (.int .i64 1) fun t73 =>
      next t123 t73 w
    )

def S11L0 (t1 t2 t32 t69 : Value) (R : Ending → World → Prop) (w : World) : Prop :=
  Loop2 t69 (.int .i64 1) w fun _ t11 t12 w next =>
    binQ Try.prog w .leq 3 true t12 (.int .i64 4) fun t71 =>
    condW t71 (
      ldN 2 w t2 fun t75 =>
      callW Try.prog (.func (.func 41) #[] #[]) [t75, t1, t12] w fun t78 w =>
      exQ t78 0 fun t79 =>
      exQ t78 1 fun t80 =>
      exQ t78 2 fun t81 =>
      exQ t78 3 fun t82 =>
      binQ Try.prog w .neq 26 true t82 (.int .i64 0) fun t84 =>
      gd t84 false (fun k => k t79 w) w fun t86 w =>
      gd t84 false (fun k => ln1 t86 fun v => k v w) w fun t87 w =>
      gd t84 false (fun k => k t1 w) w fun t88 w =>
      gd t84 false (fun k => ln1 t88 fun v => k v w) w fun t89 w =>
      gd t84 false (fun k => binQ Try.prog w .neq 3 false t87 t89 fun v => k v w) w fun t90 w =>
      pickQ t84 (.bool true) t90 fun t91 =>
      condW t91 (
        R (.returned (.bool false)) w
      ) (
        callW Try.prog (.func (.func 45) #[] #[]) [t32, t11, (.slice none 0 0)] w fun t94 w =>
        binQ Try.prog w .lss 3 true t81 (.int .i64 0) fun t96 =>
        gd t96 false (fun k => k t80 w) w fun t98 w =>
        gd t96 false (fun k => binQ Try.prog w .lss 3 true t98 (.int .i64 0) fun v => k v w) w fun t99 w =>
        pickQ t96 (.bool true) t99 fun t100 =>
        gd t100 false (fun k => k t80 w) w fun t102 w =>
        gd t100 false (fun k => k t1 w) w fun t103 w =>
        gd t100 false (fun k => ln1 t103 fun v => k v w) w fun t104 w =>
        gd t100 false (fun k => binQ Try.prog w .geq 3 false t102 t104 fun v => k v w) w fun t105 w =>
        pickQ t100 (.bool true) t105 fun t106 =>
        condW t106 (
          ln1 t94 fun t108 =>
          binQ Try.prog w .eql 3 true t108 (.int .i64 0) fun t109 =>
          gd t109 true (fun k => callW Try.prog (.func (.func 18) #[] #[]) [] w k) w fun t111 w =>
          pickQ t109 t111 (.bool false) fun t112 =>
          R (.returned t112) w
        ) (
          ln1 t94 fun t114 =>
          binQ Try.prog w .neq 3 true t114 (.int .i64 1) fun t115 =>
          gd t115 false (fun k => k t81 w) w fun t117 w =>
          gd t115 false (fun k => binQ Try.prog w .gtr 3 true t117 (.int .i64 1) fun v => k v w) w fun t118 w =>
          pickQ t115 (.bool true) t118 fun t119 =>
          condW t119 (
            R (.returned (.bool false)) w
          ) (
            callW Try.prog (.func (.func 44) #[] #[]) [t79, t80, t81] w fun t123 w =>
            S11L1 t12 t32 t94 t123 next R w
          )
        )
      )
    ) (
      callW Try.prog (.func (.func 18) #[] #[]) [] w fun t145 w =>
      R (.returned t145) w
    )

def S11 (t0 t1 : Value) (w : World) (R : Ending → World → Prop) : Prop :=
  boxW 51 t0 w fun t2 w =>
  fa1 t2 1 fun t19 =>
  ld1 w t19 fun t20 =>
  ln1 t20 fun t21 =>
  binQ Try.prog w .gtr 3 true t21 (.int .i64 20) fun t22 =>
  gd t22 false (fun k => k t1 w) w fun t24 w =>
  gd t22 false (fun k => ln1 t24 fun v => k v w) w fun t25 w =>
  gd t22 false (fun k => binQ Try.prog w .gtr 3 true t25 (.int .i64 20) fun v => k v w) w fun t26 w =>
  pickQ t22 (.bool true) t26 fun t27 =>
  condW t27 (
    callW Try.prog (.func (.func 18) #[] #[]) [] w fun t28 w =>
    R (.returned t28) w
  ) (
    ldN 2 w t2 fun t30 =>
    callW Try.prog (.func (.func 39) #[] #[]) [t30] w fun t31 w =>
    exQ t31 0 fun t32 =>
    exQ t31 1 fun t33 =>
    ldN 2 w t2 fun t35 =>
    callW Try.prog (.func (.func 41) #[] #[]) [t35, t1, (.int .i64 0)] w fun t37 w =>
    exQ t37 0 fun t38 =>
    exQ t37 1 fun t39 =>
    exQ t37 2 fun t40 =>
    exQ t37 3 fun t41 =>
    binQ Try.prog w .neq 26 true t33 (.int .i64 0) fun t43 =>
    gd t43 false (fun k => k t41 w) w fun t45 w =>
    gd t43 false (fun k => binQ Try.prog w .neq 26 true t45 (.int .i64 0) fun v => k v w) w fun t46 w =>
    pickQ t43 (.bool true) t46 fun t47 =>
    condW t47 (
      binQ Try.prog w .eql 26 true t33 (.int .i64 0) fun t49 =>
      gd t49 false (fun k => k t33 w) w fun t51 w =>
      gd t49 false (fun k => binQ Try.prog w .eql 26 true t51 (.int .i64 2) fun v => k v w) w fun t52 w =>
      pickQ t49 (.bool true) t52 fun t53 =>
      gd t53 true (fun k => k t41 w) w fun t55 w =>
      gd t53 true (fun k => binQ Try.prog w .eql 26 true t55 (.int .i64 0) fun v => k v w) w fun t56 w =>
      gd t53 true (fun k => k t56 w) w fun t57 w =>
      gd t57 false (fun k => k t41 w) w fun t58 w =>
      gd t57 false (fun k => binQ Try.prog w .eql 26 true t58 (.int .i64 2) fun v => k v w) w fun t59 w =>
      gd t53 true (fun k => pickQ t57 (.bool true) t59 fun v => k v w) w fun t60 w =>
      pickQ t53 t60 (.bool false) fun t61 =>
      gd t61 true (fun k => callW Try.prog (.func (.func 18) #[] #[]) [] w k) w fun t63 w =>
      pickQ t61 t63 (.bool false) fun t64 =>
      R (.returned t64) w
    ) (
      callW Try.prog (.func (.func 35) #[] #[]) [t32] w fun t66 w =>
      unQ .not t66 fun t67 =>
      condW t67 (
        R (.returned (.bool false)) w
      ) (
        callW Try.prog (.func (.func 44) #[] #[]) [t1, (.int .i64 0), (.int .i64 0)] w fun t69 w =>
        S11L0 t1 t2 t32 t69 R w
      )
    )
  )

def A11 : Ann where
  live := fun
    | 0 => [11, 12]
    | 2 => [18]
    | _ => []
  wr := fun
    | 0 => fun i => Nat.beq i 4 || (Nat.ble 11 i && Nat.ble i 18) || (Nat.ble 70 i && Nat.ble i 144)
    | 2 => fun i => Nat.beq i 4 || Nat.beq i 18 || (Nat.ble 124 i && Nat.ble i 144)
    | _ => fun _ => false
  sched := fun
    | 25 => (.take 0 (.take 1 (.take 2 (.take 3 (.take 4 (.take 5 (.take 6 (.take 7 (.take 8 (.take 9 (.take 10 (.take 11 (.take 12 (.take 13 (.take 14 .done)))))))))))))))
    | _ => .done

set_option maxRecDepth 100000 in
theorem ok11 : (codeOk Try.f11.ntmps A11 (Try.f11.body.getD .skip) 0 && Nat.ble 2 Try.f11.ntmps) = true := by kernel_rfl
set_option maxRecDepth 100000 in
theorem lift11 {t0 t1 : Value} {w : World} {R : Ending → World → Prop} (h : S11 t0 t1 w R) : Calls Try.prog 11 #[t0, t1] w R :=
  calls_of_cw (fn := Try.f11) (c := Try.f11.body.getD .skip) A11 mixes Try.func11 (by kernel_rfl) ok11
    ((by kernel_rfl : (S11 t0 t1 w R) = cw Try.prog A11 (Try.f11.body.getD .skip) 0 (bodyQ Try.prog Try.f11 R) (frOf #[t0, t1]) w).mp h)

theorem fok45 : fnOk Try.prog 45 = true := by kernel_rfl
theorem fok44 : fnOk Try.prog 44 = true := by kernel_rfl
theorem fok11 : fnOk Try.prog 11 = true := by kernel_rfl
end Go.Proofs.Ytgalbokmgffhkaa

/- Contract: Run of the program. -/
namespace Go.Proofs.Ytgalbokmgffhkaa
open Go.Lf Go.RowKit Go.Wg

set_option maxRecDepth 100000 in
theorem r41_0 {w2 w : World} {b1 s : Nat} {tv v : Value} {T : List Ent} {tape : List Int} {n : Int} {R : Ending → World → Prop}
    (h1 : w2.heap[b1]? = some (.cells #[.int .i64 s, tv] 51 (0, 0))) (hr : RdE w2 tv T) (hT : TOk s T) (hb : ∀ c ∈ tape, 0 ≤ c ∧ c ≤ 1) (hn0 : 0 ≤ n ∧ n ≤ 4) (hl : tape.length ≤ 100) (hP : IntsAt w2.heap.size w v tape) (k : Kp w2 w)
    (hn : ∀ w', IntsAt w2.heap.size w' v (runM T (tape, 0, 0) n.toNat).1 → Kp w2 w' → R (.returned (.tuple #[v, .int .i64 (runM T (tape, 0, 0) n.toNat).2.1, .int .i64 (runM T (tape, 0, 0) n.toNat).2.2, .int .i64 0])) w') :
    S41L0 (.int .i64 n) (pb b1) v R w := by
  unfold S41L0
  have hok := MOk.run hT (mOk_start hT.s1 hb)
  refine ⟨fun t12 t13 t40 wr => ∃ i : Nat, (i : Int) ≤ n ∧ t40 = .int .i64 i ∧ t12 = .int .i64 (runM T (tape, 0, 0) i).2.1 ∧ t13 = .int .i64 (runM T (tape, 0, 0) i).2.2 ∧ IntsAt w2.heap.size wr v (runM T (tape, 0, 0) i).1 ∧ Kp w2 wr, fun _ _ t40 _ => n.toNat - (intOf t40).toNat, ⟨0, by omega, rfl, rfl, rfl, hP, k⟩, ?_⟩
  rintro _ _ _ _ wr ⟨i, hi, rfl, rfl, rfl, hPi, kr⟩
  have hx := hok i
  have hs2 := hT.s2
  have hq := hx.q
  have ha := hx.a
  have hlen := hx.len
  have hrun : runM T (tape, 0, 0) (i + 1) = stp T (runM T (tape, 0, 0) i) := rfl
  generalize hX : runM T (tape, 0, 0) i = x at *
  by_cases hlt : (i : Int) < n
  case neg =>
    have ei : n.toNat = i := by omega
    rw [ei, hX] at hn
    simp (disch := omega) only [r_ln, r_pick, r_pickT, r_pickF, r_condT, r_condF, r_gdTT, r_gdFF, r_gdTF, r_gdFT, r_gqTT, r_gqFF, r_gqTF, r_gqFT, r_not, r_lss, r_leq, r_gtr, r_geq, r_eql, r_neq, r_add, r_sub, r_min2, r_max2, r_min3, r_max3, r_fa, r_iaS, r_iaA, r_ex2a, r_ex2b, r_ex3a, r_ex3b, r_ex3c, r_nc, r_keepE, Nat.zero_add, Nat.add_zero, Nat.mul_one, Int.toNat_natCast, toNat_sub1, toNat_add1, decide_true, decide_false, Bool.not_true, Bool.not_false, if_true, if_false, Bool.false_eq_true, reduceCtorEq, hlt]
    exact hn wr hPi kr
  by_cases hg : goes x
  case neg =>
    have est : runM T (tape, 0, 0) n.toNat = x := by rw [runM_stop (i := i) (by rw [hX]; exact hg) _ (by omega), hX]
    rw [est] at hn
    obtain ⟨a38, c38, e38, _⟩ := hPi.len
    subst e38
    by_cases g1 : x.2.2 < 0
    · simp (disch := omega) only [r_ln, r_pick, r_pickT, r_pickF, r_condT, r_condF, r_gdTT, r_gdFF, r_gdTF, r_gdFT, r_gqTT, r_gqFF, r_gqTF, r_gqFT, r_not, r_lss, r_leq, r_gtr, r_geq, r_eql, r_neq, r_add, r_sub, r_min2, r_max2, r_min3, r_max3, r_fa, r_iaS, r_iaA, r_ex2a, r_ex2b, r_ex3a, r_ex3b, r_ex3c, r_nc, r_keepE, Nat.zero_add, Nat.add_zero, Nat.mul_one, Int.toNat_natCast, toNat_sub1, toNat_add1, decide_true, decide_false, Bool.not_true, Bool.not_false, if_true, if_false, Bool.false_eq_true, reduceCtorEq, decide_eq_true hlt, decide_eq_true g1]
      exact hn wr hPi kr
    by_cases g2 : x.2.1 < 0
    · simp (disch := omega) only [r_ln, r_pick, r_pickT, r_pickF, r_condT, r_condF, r_gdTT, r_gdFF, r_gdTF, r_gdFT, r_gqTT, r_gqFF, r_gqTF, r_gqFT, r_not, r_lss, r_leq, r_gtr, r_geq, r_eql, r_neq, r_add, r_sub, r_min2, r_max2, r_min3, r_max3, r_fa, r_iaS, r_iaA, r_ex2a, r_ex2b, r_ex3a, r_ex3b, r_ex3c, r_nc, r_keepE, Nat.zero_add, Nat.add_zero, Nat.mul_one, Int.toNat_natCast, toNat_sub1, toNat_add1, decide_true, decide_false, Bool.not_true, Bool.not_false, if_true, if_false, Bool.false_eq_true, reduceCtorEq, decide_eq_true hlt, g1, decide_eq_true g2]
      exact hn wr hPi kr
    have g3 : (x.1.length : Int) ≤ x.2.1 := by
      by_cases h : (x.1.length : Int) ≤ x.2.1
      · exact h
      · exact absurd ⟨by omega, by omega, by omega⟩ hg
    simp (disch := omega) only [r_ln, r_pick, r_pickT, r_pickF, r_condT, r_condF, r_gdTT, r_gdFF, r_gdTF, r_gdFT, r_gqTT, r_gqFF, r_gqTF, r_gqFT, r_not, r_lss, r_leq, r_gtr, r_geq, r_eql, r_neq, r_add, r_sub, r_min2, r_max2, r_min3, r_max3, r_fa, r_iaS, r_iaA, r_ex2a, r_ex2b, r_ex3a, r_ex3b, r_ex3c, r_nc, r_keepE, Nat.zero_add, Nat.add_zero, Nat.mul_one, Int.toNat_natCast, toNat_sub1, toNat_add1, decide_true, decide_false, Bool.not_true, Bool.not_false, if_true, if_false, Bool.false_eq_true, reduceCtorEq, decide_eq_true hlt, g1, g2, decide_eq_true g3]
    exact hn wr hPi kr
  obtain ⟨o, ho1, ho2, holt, hget, hmem⟩ := entAt_get hT hx hg
  have hE := hT.ent _ hmem
  generalize hEe : entAt T x = e at *
  obtain ⟨g1, g2, g3⟩ := hg
  have hq' : ¬ x.2.2 < 0 := by omega
  have ha' : ¬ x.2.1 < 0 := by omega
  have hl' : ¬ (x.1.length : Int) ≤ x.2.1 := by omega
  have halt : x.2.1.toNat < x.1.length := by omega
  have hxa : x.1[x.2.1.toNat]? = some (x.1[x.2.1.toNat]) := List.getElem?_eq_getElem halt
  have hxa' : x.1[x.2.1.toNat] = (o : Int) := by rw [← ho2, getD_lt _ _ _ halt]
  -- the first loads
  obtain ⟨g, cap, ev, hgb, _, _, _⟩ := hPi.set (u := .int .i64 e.1) (p' := e.1) iC_len hxa (by omega : 0 < 1) rfl
  subst ev
  simp (disch := omega) only [r_ln, r_pick, r_pickT, r_pickF, r_condT, r_condF, r_gdTT, r_gdFF, r_gdTF, r_gdFT, r_gqTT, r_gqFF, r_gqTF, r_gqFT, r_not, r_lss, r_leq, r_gtr, r_geq, r_eql, r_neq, r_add, r_sub, r_min2, r_max2, r_min3, r_max3, r_fa, r_iaS, r_iaA, r_ex2a, r_ex2b, r_ex3a, r_ex3b, r_ex3c, r_nc, r_keepE, Nat.zero_add, Nat.add_zero, Nat.mul_one, Int.toNat_natCast, toNat_sub1, toNat_add1, decide_true, decide_false, Bool.not_true, Bool.not_false, if_true, if_false, Bool.false_eq_true, reduceCtorEq, decide_eq_true hlt, hq', ha', hl']
  refine r_drew fun w3 k3 _ => ?_
  have k23 := Kp.trans kr k3
  have hP3 := hPi.kp k3
  have cT : w3.cell? ⟨b1, 1, none⟩ = some tv := by rw [cell_row (block_below h1 k23)]; rfl
  have hP3r : Rd 1 iC w3 (.slice (some ⟨g, 0, none⟩) x.1.length cap) x.1 := hP3.rd iC_len
  obtain ⟨_, _, _, eq1, _, hcr⟩ := hP3r.at hxa
  cases eq1
  have cO : w3.cell? ⟨g, x.2.1.toNat, none⟩ = some (.int .i64 o) := by
    have := hcr 0 _ rfl
    simpa [iC, hxa'] using this
  obtain ⟨bt, off, capT, etv, _, hld⟩ := RdE.ent (hr.kp k23) hget
  subst etv
  have e2 : (2 * x.2.2 + (o : Int)).toNat = 2 * x.2.2.toNat + o := by omega
  simp (disch := omega) only [r_ln, r_pick, r_pickT, r_pickF, r_condT, r_condF, r_gdTT, r_gdFF, r_gdTF, r_gdFT, r_gqTT, r_gqFF, r_gqTF, r_gqFT, r_not, r_lss, r_leq, r_gtr, r_geq, r_eql, r_neq, r_add, r_sub, r_min2, r_max2, r_min3, r_max3, r_fa, r_iaS, r_iaA, r_ex2a, r_ex2b, r_ex3a, r_ex3b, r_ex3c, r_nc, r_keepE, Nat.zero_add, Nat.add_zero, Nat.mul_one, Int.toNat_natCast, toNat_sub1, toNat_add1, decide_true, decide_false, Bool.not_true, Bool.not_false, if_true, if_false, Bool.false_eq_true, reduceCtorEq, r_ld cT, r_mul, r_ld cO, e2, hld]
  refine r_box fun b4 w4 e4 s4 h4 k4 => ⟨k4, ?_⟩
  refine r_stAll (n := 3) (ty := 102) (by kernel_rfl) rfl (by intro u hu; simp [Value.cells] at hu; rcases hu with rfl | rfl | rfl <;> rfl) h4 rfl fun w5 d5 t5 h5 => ?_
  have k35 : Kp w3 w5 := Kp.of_chg k4 d5 fun i e => by omega
  refine r_drew fun w6 k6 _ => ?_
  have k36 := Kp.trans k35 k6
  have k26 := Kp.trans k23 k36
  have h6 := block_below h5 k6
  have hP6 := hP3.kp k36
  have hgl := (hP3.lt (k := g) rfl).2
  have hgb : ¬ g = b4 := by omega
  obtain ⟨g', cap', ev', hgb', ⟨u0, cu⟩, hfr, hset⟩ := hP6.set (u := .int .i64 e.1) (p' := e.1) iC_len hxa (by omega : 0 < 1) rfl
  cases ev'
  simp only [Nat.mul_one, Nat.add_zero] at cu hfr hset
  have c0 : w6.cell? ⟨b4, 0, none⟩ = some (.int .i64 e.1) := by rw [cell_row h6]; rfl
  have c2 : w6.cell? ⟨b4, 2, none⟩ = some (.int .i64 e.2.2) := by rw [cell_row h6]; rfl
  refine ⟨fun k => k = g, ?_⟩
  have nX : ¬ b4 = g := fun e => hgb e.symm
  simp (disch := omega) only [r_ln, r_pick, r_pickT, r_pickF, r_condT, r_condF, r_gdTT, r_gdFF, r_gdTF, r_gdFT, r_gqTT, r_gqFF, r_gqTF, r_gqFT, r_not, r_lss, r_leq, r_gtr, r_geq, r_eql, r_neq, r_add, r_sub, r_min2, r_max2, r_min3, r_max3, r_fa, r_iaS, r_iaA, r_ex2a, r_ex2b, r_ex3a, r_ex3b, r_ex3c, r_nc, r_keepE, Nat.zero_add, Nat.add_zero, Nat.mul_one, Int.toNat_natCast, toNat_sub1, toNat_add1, decide_true, decide_false, Bool.not_true, Bool.not_false, if_true, if_false, Bool.false_eq_true, reduceCtorEq, r_tx, r_txl (X := fun k => k = g) c0 nX, r_txl (X := fun k => k = g) c2 nX]
  rw [st3 cu hfr, r_keepWE]
  have hc : Chg (fun k => k = g) w6 (w6.setCell ⟨g, x.2.1.toNat, none⟩ (.int .i64 e.1)) := Chg.setCell _ _ rfl
  refine ⟨⟨hc.os, hc.tape, hc.output, hc.size, fun i hi hn => hc.block i hi hn⟩, ?_⟩
  have k27 : Kp w2 (w6.setCell ⟨g, x.2.1.toNat, none⟩ (.int .i64 e.1)) := Kp.of_chg k26 hc fun i e => by omega
  have h7 := hc.at h6 (fun e => hgb e.symm)
  generalize hw7 : w6.setCell ⟨g, x.2.1.toNat, none⟩ (.int .i64 e.1) = w7 at *
  have c1 : w7.cell? ⟨b4, 1, none⟩ = some (.bool e.2.1) := by rw [cell_row h7]; rfl
  have hstp : stp T x = (x.1.set x.2.1.toNat e.1, moved e x.2.1, e.2.2) := by rw [stp, if_pos ⟨g1, g2, g3⟩, hEe]
  rw [hstp] at hrun
  try simp (disch := omega) only [r_ln, r_pick, r_pickT, r_pickF, r_condT, r_condF, r_gdTT, r_gdFF, r_gdTF, r_gdFT, r_gqTT, r_gqFF, r_gqTF, r_gqFT, r_not, r_lss, r_leq, r_gtr, r_geq, r_eql, r_neq, r_add, r_sub, r_min2, r_max2, r_min3, r_max3, r_fa, r_iaS, r_iaA, r_ex2a, r_ex2b, r_ex3a, r_ex3b, r_ex3c, r_nc, r_keepE, Nat.zero_add, Nat.add_zero, Nat.mul_one, Int.toNat_natCast, toNat_sub1, toNat_add1, decide_true, decide_false, Bool.not_true, Bool.not_false, if_true, if_false, Bool.false_eq_true, reduceCtorEq, r_tx]
  refine r_join1 (fun v' w' => v' = .int .i64 (moved e x.2.1) ∧ w' = w7) (fun v' w' ⟨ev, ew⟩ => ?_) fun k' hk' => ?_
  · subst ev
    subst ew
    try simp (disch := omega) only [r_ln, r_pick, r_pickT, r_pickF, r_condT, r_condF, r_gdTT, r_gdFF, r_gdTF, r_gdFT, r_gqTT, r_gqFF, r_gqTF, r_gqFT, r_not, r_lss, r_leq, r_gtr, r_geq, r_eql, r_neq, r_add, r_sub, r_min2, r_max2, r_min3, r_max3, r_fa, r_iaS, r_iaA, r_ex2a, r_ex2b, r_ex3a, r_ex3b, r_ex3c, r_nc, r_keepE, Nat.zero_add, Nat.add_zero, Nat.mul_one, Int.toNat_natCast, toNat_sub1, toNat_add1, decide_true, decide_false, Bool.not_true, Bool.not_false, if_true, if_false, Bool.false_eq_true, reduceCtorEq]
    refine ⟨⟨i + 1, by omega, by go_num, by rw [hrun], by rw [hrun], by rw [hrun]; exact hset, k27⟩, by simp only [intOf]; omega⟩
  by_cases g4 : e.2.2 < 0
  · simp (disch := omega) only [r_ln, r_pick, r_pickT, r_pickF, r_condT, r_condF, r_gdTT, r_gdFF, r_gdTF, r_gdFT, r_gqTT, r_gqFF, r_gqTF, r_gqFT, r_not, r_lss, r_leq, r_gtr, r_geq, r_eql, r_neq, r_add, r_sub, r_min2, r_max2, r_min3, r_max3, r_fa, r_iaS, r_iaA, r_ex2a, r_ex2b, r_ex3a, r_ex3b, r_ex3c, r_nc, r_keepE, Nat.zero_add, Nat.add_zero, Nat.mul_one, Int.toNat_natCast, toNat_sub1, toNat_add1, decide_true, decide_false, Bool.not_true, Bool.not_false, if_true, if_false, Bool.false_eq_true, reduceCtorEq, decide_eq_true g4]
    exact hk' _ _ ⟨by rw [moved, if_pos g4], rfl⟩
  cases g5 : e.2.1 with
  | true =>
    rw [g5] at c1
    simp (disch := omega) only [r_ln, r_pick, r_pickT, r_pickF, r_condT, r_condF, r_gdTT, r_gdFF, r_gdTF, r_gdFT, r_gqTT, r_gqFF, r_gqTF, r_gqFT, r_not, r_lss, r_leq, r_gtr, r_geq, r_eql, r_neq, r_add, r_sub, r_min2, r_max2, r_min3, r_max3, r_fa, r_iaS, r_iaA, r_ex2a, r_ex2b, r_ex3a, r_ex3b, r_ex3c, r_nc, r_keepE, Nat.zero_add, Nat.add_zero, Nat.mul_one, Int.toNat_natCast, toNat_sub1, toNat_add1, decide_true, decide_false, Bool.not_true, Bool.not_false, if_true, if_false, Bool.false_eq_true, reduceCtorEq, g4, r_ld c1]
    exact hk' _ _ ⟨by rw [moved, if_neg g4, if_pos g5], rfl⟩
  | false =>
    rw [g5] at c1
    simp (disch := omega) only [r_ln, r_pick, r_pickT, r_pickF, r_condT, r_condF, r_gdTT, r_gdFF, r_gdTF, r_gdFT, r_gqTT, r_gqFF, r_gqTF, r_gqFT, r_not, r_lss, r_leq, r_gtr, r_geq, r_eql, r_neq, r_add, r_sub, r_min2, r_max2, r_min3, r_max3, r_fa, r_iaS, r_iaA, r_ex2a, r_ex2b, r_ex3a, r_ex3b, r_ex3c, r_nc, r_keepE, Nat.zero_add, Nat.add_zero, Nat.mul_one, Int.toNat_natCast, toNat_sub1, toNat_add1, decide_true, decide_false, Bool.not_true, Bool.not_false, if_true, if_false, Bool.false_eq_true, reduceCtorEq, g4, r_ld c1]
    exact hk' _ _ ⟨by rw [moved, if_neg g4, if_neg (by rw [g5]; decide)], rfl⟩

theorem badbit_call (x : Int) (w : World) (K : Value → World → Prop) (h : K (.bool (!bitB x)) w) : callW Try.prog (.func (.func 94) #[] #[]) [.int .i64 x] w K := by
  have hc : Calls Try.prog 94 #[.int .i64 x] w fun r w' => r = .returned (.bool (!bitB x)) ∧ w' = w := by
    refine lift94 ?_
    unfold S94
    by_cases h0 : x = 0
    · simp (disch := omega) only [r_ln, r_pick, r_pickT, r_pickF, r_condT, r_condF, r_gdTT, r_gdFF, r_gdTF, r_gdFT, r_gqTT, r_gqFF, r_gqTF, r_gqFT, r_not, r_lss, r_leq, r_gtr, r_geq, r_eql, r_neq, r_add, r_sub, r_min2, r_max2, r_min3, r_max3, r_fa, r_iaS, r_iaA, r_ex2a, r_ex2b, r_ex3a, r_ex3b, r_ex3c, r_nc, r_keepE, Nat.zero_add, Nat.add_zero, Nat.mul_one, Int.toNat_natCast, toNat_sub1, toNat_add1, decide_true, decide_false, Bool.not_true, Bool.not_false, if_true, if_false, Bool.false_eq_true, reduceCtorEq, decide_eq_true h0]
      exact ⟨ret_bool (by simp [bitB, h0]), by first | rfl | trivial⟩
    by_cases h1 : x = 1
    · simp (disch := omega) only [r_ln, r_pick, r_pickT, r_pickF, r_condT, r_condF, r_gdTT, r_gdFF, r_gdTF, r_gdFT, r_gqTT, r_gqFF, r_gqTF, r_gqFT, r_not, r_lss, r_leq, r_gtr, r_geq, r_eql, r_neq, r_add, r_sub, r_min2, r_max2, r_min3, r_max3, r_fa, r_iaS, r_iaA, r_ex2a, r_ex2b, r_ex3a, r_ex3b, r_ex3c, r_nc, r_keepE, Nat.zero_add, Nat.add_zero, Nat.mul_one, Int.toNat_natCast, toNat_sub1, toNat_add1, decide_true, decide_false, Bool.not_true, Bool.not_false, if_true, if_false, Bool.false_eq_true, reduceCtorEq, h0, decide_eq_true h1]
      exact ⟨ret_bool (by simp [bitB, h1]), by first | rfl | trivial⟩
    simp (disch := omega) only [r_ln, r_pick, r_pickT, r_pickF, r_condT, r_condF, r_gdTT, r_gdFF, r_gdTF, r_gdFT, r_gqTT, r_gqFF, r_gqTF, r_gqFT, r_not, r_lss, r_leq, r_gtr, r_geq, r_eql, r_neq, r_add, r_sub, r_min2, r_max2, r_min3, r_max3, r_fa, r_iaS, r_iaA, r_ex2a, r_ex2b, r_ex3a, r_ex3b, r_ex3c, r_nc, r_keepE, Nat.zero_add, Nat.add_zero, Nat.mul_one, Int.toNat_natCast, toNat_sub1, toNat_add1, decide_true, decide_false, Bool.not_true, Bool.not_false, if_true, if_false, Bool.false_eq_true, reduceCtorEq, h0, h1]
    exact ⟨ret_bool (by rw [bitB, decide_eq_false (by omega)]; rfl), by first | rfl | trivial⟩
  refine r_use fok94 hc rfl ?_
  rintro _ w2 ⟨rfl, rfl⟩
  exact ⟨_, rfl, h⟩

theorem any_bit (l : List Int) : (l.any fun x => !bitB x) = !(l.all bitB) := by
  induction l with
  | nil => rfl
  | cons x T ih => simp [ih]

set_option maxRecDepth 100000 in
theorem run_calls {S n : Int} {tv vt : Value} {T : List Ent} {tape : List Int} (w : World) (hr : RdE w tv T) (hT : T.length ≤ 1000) (ht : RdInts w vt tape) : Calls Try.prog 41 #[macV S tv, vt, .int .i64 n] w fun e w' => Kp w w' ∧ RunPost S T tape n w.heap.size w' e := by
  obtain ⟨ta, tcap, rfl, _⟩ := hr.len
  obtain ⟨aa, ca, rfl, ha1, _⟩ := ht.len
  refine lift41 ?_
  unfold S41
  refine r_box fun b1 w1 e1 s1 h1 k1 => ?_
  have h1' : w1.heap[b1]? = some (.cells #[.int .i64 S, .slice ta T.length tcap] 51 (0, 0)) := h1
  rw [r_ldRow (n := 2) h1' rfl]
  refine r_use fok89 (machine_calls (T := T) w1 (hr.kp k1) hT) rfl ?_
  rintro _ w2 ⟨rfl, k2⟩
  refine ⟨_, rfl, ?_⟩
  have k02 := Kp.trans k1 k2
  have h12 := block_below h1' k2
  have bad : ∀ w', Kp w w' → runOk S T tape n = false → Kp w w' ∧ RunPost S T tape n w.heap.size w' (.returned (.tuple #[nilS, .int .i64 0, .int .i64 0, .int .i64 2])) := fun w' k h => ⟨k, .inl ⟨h, rfl⟩⟩
  have no : ∀ {p : Prop}, (runOk S T tape n = true → p → False) → p → runOk S T tape n = false := fun h hp => by
    cases hh : runOk S T tape n with
    | false => rfl
    | true => exact absurd hp (h hh)
  cases hm : macB S T with
  | false =>
    simp (disch := omega) only [r_ln, r_pick, r_pickT, r_pickF, r_condT, r_condF, r_gdTT, r_gdFF, r_gdTF, r_gdFT, r_gqTT, r_gqFF, r_gqTF, r_gqFT, r_not, r_lss, r_leq, r_gtr, r_geq, r_eql, r_neq, r_add, r_sub, r_min2, r_max2, r_min3, r_max3, r_fa, r_iaS, r_iaA, r_ex2a, r_ex2b, r_ex3a, r_ex3b, r_ex3c, r_nc, r_keepE, Nat.zero_add, Nat.add_zero, Nat.mul_one, Int.toNat_natCast, toNat_sub1, toNat_add1, decide_true, decide_false, Bool.not_true, Bool.not_false, if_true, if_false, Bool.false_eq_true, reduceCtorEq]
    exact bad _ k02 (no (fun h e => by have := (runOk_iff.1 h).1; rw [hm] at this; cases this) hm)
  | true =>
  simp (disch := omega) only [r_ln, r_pick, r_pickT, r_pickF, r_condT, r_condF, r_gdTT, r_gdFF, r_gdTF, r_gdFT, r_gqTT, r_gqFF, r_gqTF, r_gqFT, r_not, r_lss, r_leq, r_gtr, r_geq, r_eql, r_neq, r_add, r_sub, r_min2, r_max2, r_min3, r_max3, r_fa, r_iaS, r_iaA, r_ex2a, r_ex2b, r_ex3a, r_ex3b, r_ex3c, r_nc, r_keepE, Nat.zero_add, Nat.add_zero, Nat.mul_one, Int.toNat_natCast, toNat_sub1, toNat_add1, decide_true, decide_false, Bool.not_true, Bool.not_false, if_true, if_false, Bool.false_eq_true, reduceCtorEq]
  refine r_use fok66 (side_calls tape.length w2) rfl ?_
  rintro _ _ ⟨rfl, rfl⟩
  refine ⟨_, rfl, ?_⟩
  cases hsd : sideB tape.length with
  | false =>
    simp (disch := omega) only [r_ln, r_pick, r_pickT, r_pickF, r_condT, r_condF, r_gdTT, r_gdFF, r_gdTF, r_gdFT, r_gqTT, r_gqFF, r_gqTF, r_gqFT, r_not, r_lss, r_leq, r_gtr, r_geq, r_eql, r_neq, r_add, r_sub, r_min2, r_max2, r_min3, r_max3, r_fa, r_iaS, r_iaA, r_ex2a, r_ex2b, r_ex3a, r_ex3b, r_ex3c, r_nc, r_keepE, Nat.zero_add, Nat.add_zero, Nat.mul_one, Int.toNat_natCast, toNat_sub1, toNat_add1, decide_true, decide_false, Bool.not_true, Bool.not_false, if_true, if_false, Bool.false_eq_true, reduceCtorEq]
    exact bad _ k02 (no (fun h e => by have := (runOk_iff.1 h).2.1; rw [hsd] at this; cases this) hsd)
  | true =>
  have hsd' : 1 ≤ tape.length ∧ tape.length ≤ 4 := by
    simp only [sideB, decide_eq_true_eq] at hsd
    omega
  simp (disch := omega) only [r_ln, r_pick, r_pickT, r_pickF, r_condT, r_condF, r_gdTT, r_gdFF, r_gdTF, r_gdFT, r_gqTT, r_gqFF, r_gqTF, r_gqFT, r_not, r_lss, r_leq, r_gtr, r_geq, r_eql, r_neq, r_add, r_sub, r_min2, r_max2, r_min3, r_max3, r_fa, r_iaS, r_iaA, r_ex2a, r_ex2b, r_ex3a, r_ex3b, r_ex3c, r_nc, r_keepE, Nat.zero_add, Nat.add_zero, Nat.mul_one, Int.toNat_natCast, toNat_sub1, toNat_add1, decide_true, decide_false, Bool.not_true, Bool.not_false, if_true, if_false, Bool.false_eq_true, reduceCtorEq]
  refine r_use fok54 (containsF_calls (fun x => !bitB x) w2 (ht.below k02) fun x _ w' K hk hK => badbit_call x w' K (hK w' (Kp.refl _))) rfl ?_
  rintro _ w3 ⟨rfl, k3⟩
  refine ⟨_, rfl, ?_⟩
  have k03 := Kp.trans k02 k3
  have h13 := block_below h12 k3
  rw [any_bit]
  cases hbt : tape.all bitB with
  | false =>
    simp (disch := omega) only [r_ln, r_pick, r_pickT, r_pickF, r_condT, r_condF, r_gdTT, r_gdFF, r_gdTF, r_gdFT, r_gqTT, r_gqFF, r_gqTF, r_gqFT, r_not, r_lss, r_leq, r_gtr, r_geq, r_eql, r_neq, r_add, r_sub, r_min2, r_max2, r_min3, r_max3, r_fa, r_iaS, r_iaA, r_ex2a, r_ex2b, r_ex3a, r_ex3b, r_ex3c, r_nc, r_keepE, Nat.zero_add, Nat.add_zero, Nat.mul_one, Int.toNat_natCast, toNat_sub1, toNat_add1, decide_true, decide_false, Bool.not_true, Bool.not_false, if_true, if_false, Bool.false_eq_true, reduceCtorEq]
    exact bad _ k03 (no (fun h e => by have := (runOk_iff.1 h).2.2.1; rw [hbt] at this; cases this) hbt)
  | true =>
  by_cases g1 : n < 0
  · simp (disch := omega) only [r_ln, r_pick, r_pickT, r_pickF, r_condT, r_condF, r_gdTT, r_gdFF, r_gdTF, r_gdFT, r_gqTT, r_gqFF, r_gqTF, r_gqFT, r_not, r_lss, r_leq, r_gtr, r_geq, r_eql, r_neq, r_add, r_sub, r_min2, r_max2, r_min3, r_max3, r_fa, r_iaS, r_iaA, r_ex2a, r_ex2b, r_ex3a, r_ex3b, r_ex3c, r_nc, r_keepE, Nat.zero_add, Nat.add_zero, Nat.mul_one, Int.toNat_natCast, toNat_sub1, toNat_add1, decide_true, decide_false, Bool.not_true, Bool.not_false, if_true, if_false, Bool.false_eq_true, reduceCtorEq, decide_eq_true g1]
    exact bad _ k03 (no (fun h e => by have := (runOk_iff.1 h).2.2.2; omega) g1)
  by_cases g2 : 4 < n
  · simp (disch := omega) only [r_ln, r_pick, r_pickT, r_pickF, r_condT, r_condF, r_gdTT, r_gdFF, r_gdTF, r_gdFT, r_gqTT, r_gqFF, r_gqTF, r_gqFT, r_not, r_lss, r_leq, r_gtr, r_geq, r_eql, r_neq, r_add, r_sub, r_min2, r_max2, r_min3, r_max3, r_fa, r_iaS, r_iaA, r_ex2a, r_ex2b, r_ex3a, r_ex3b, r_ex3c, r_nc, r_keepE, Nat.zero_add, Nat.add_zero, Nat.mul_one, Int.toNat_natCast, toNat_sub1, toNat_add1, decide_true, decide_false, Bool.not_true, Bool.not_false, if_true, if_false, Bool.false_eq_true, reduceCtorEq, g1, decide_eq_true g2]
    exact bad _ k03 (no (fun h e => by have := (runOk_iff.1 h).2.2.2; omega) g2)
  simp (disch := omega) only [r_ln, r_pick, r_pickT, r_pickF, r_condT, r_condF, r_gdTT, r_gdFF, r_gdTF, r_gdFT, r_gqTT, r_gqFF, r_gqTF, r_gqFT, r_not, r_lss, r_leq, r_gtr, r_geq, r_eql, r_neq, r_add, r_sub, r_min2, r_max2, r_min3, r_max3, r_fa, r_iaS, r_iaA, r_ex2a, r_ex2b, r_ex3a, r_ex3b, r_ex3c, r_nc, r_keepE, Nat.zero_add, Nat.add_zero, Nat.mul_one, Int.toNat_natCast, toNat_sub1, toNat_add1, decide_true, decide_false, Bool.not_true, Bool.not_false, if_true, if_false, Bool.false_eq_true, reduceCtorEq, g1, g2]
  have hbits := bits_iff.1 hbt
  obtain ⟨s, rfl, hTO⟩ := tOk_of hm
  refine r_use fok79 (clone_calls w3 (ht.below k03) (by omega)) rfl ?_
  rintro _ w4 ⟨v', rfl, ho, k4⟩
  refine ⟨_, rfl, ?_⟩
  refine r41_0 h13 (hr.kp k03) hTO hbits (by omega) (by omega) ho k4 fun w' ho' kk => ⟨Kp.trans k03 kk, .inr ⟨runOk_iff.2 ⟨hm, hsd, hbt, by omega, by omega⟩, v', rfl, ho'.down k03.size⟩⟩

end Go.Proofs.Ytgalbokmgffhkaa

/- Contract: Run of the specification. -/
namespace Go.Proofs.Ytgalbokmgffhkaa
open Go.Lf Go.RowKit Go.Wg

set_option maxRecDepth 100000 in
theorem r42_1 {w2 w : World} {b1 s : Nat} {tv v : Value} {T : List Ent} {tape : List Int} {n : Int} {R : Ending → World → Prop}
    (h1 : w2.heap[b1]? = some (.cells #[.int .i64 s, tv] 51 (0, 0))) (hr : RdE w2 tv T) (hT : TOk s T) (hb : ∀ c ∈ tape, 0 ≤ c ∧ c ≤ 1) (hn0 : 0 ≤ n ∧ n ≤ 4) (hl : tape.length ≤ 100) (hP : IntsAt w2.heap.size w v tape) (k : Kp w2 w)
    (hn : ∀ w', IntsAt w2.heap.size w' v (runM T (tape, 0, 0) n.toNat).1 → Kp w2 w' → R (.returned (.tuple #[v, .int .i64 (runM T (tape, 0, 0) n.toNat).2.1, .int .i64 (runM T (tape, 0, 0) n.toNat).2.2, .int .i64 0])) w') :
    S42L1 (.int .i64 n) (pb b1) v R w := by
  unfold S42L1
  have hok := MOk.run hT (mOk_start hT.s1 hb)
  refine ⟨fun t12 t13 t14 wr => ∃ i : Nat, (i : Int) ≤ n ∧ t14 = .int .i64 i ∧ t12 = .int .i64 (runM T (tape, 0, 0) i).2.1 ∧ t13 = .int .i64 (runM T (tape, 0, 0) i).2.2 ∧ IntsAt w2.heap.size wr v (runM T (tape, 0, 0) i).1 ∧ Kp w2 wr, fun _ _ t14 _ => n.toNat - (intOf t14).toNat, ⟨0, by omega, rfl, rfl, rfl, hP, k⟩, ?_⟩
  rintro _ _ _ _ wr ⟨i, hi, rfl, rfl, rfl, hPi, kr⟩
  have hx := hok i
  have hs2 := hT.s2
  have hq := hx.q
  have ha := hx.a
  have hlen := hx.len
  have hrun : runM T (tape, 0, 0) (i + 1) = stp T (runM T (tape, 0, 0) i) := rfl
  generalize hX : runM T (tape, 0, 0) i = x at *
  by_cases hlt : (i : Int) < n
  case neg =>
    have ei : n.toNat = i := by omega
    rw [ei, hX] at hn
    simp (disch := omega) only [r_ln, r_pick, r_pickT, r_pickF, r_condT, r_condF, r_gdTT, r_gdFF, r_gdTF, r_gdFT, r_gqTT, r_gqFF, r_gqTF, r_gqFT, r_not, r_lss, r_leq, r_gtr, r_geq, r_eql, r_neq, r_add, r_sub, r_min2, r_max2, r_min3, r_max3, r_fa, r_iaS, r_iaA, r_ex2a, r_ex2b, r_ex3a, r_ex3b, r_ex3c, r_nc, r_keepE, Nat.zero_add, Nat.add_zero, Nat.mul_one, Int.toNat_natCast, toNat_sub1, toNat_add1, decide_true, decide_false, Bool.not_true, Bool.not_false, if_true, if_false, Bool.false_eq_true, reduceCtorEq, hlt]
    exact hn wr hPi kr
  by_cases hg : goes x
  case neg =>
    have est : runM T (tape, 0, 0) n.toNat = x := by rw [runM_stop (i := i) (by rw [hX]; exact hg) _ (by omega), hX]
    rw [est] at hn
    obtain ⟨a38, c38, e38, _⟩ := hPi.len
    subst e38
    by_cases g1 : 0 ≤ x.2.2
    case neg =>
      simp (disch := omega) only [r_ln, r_pick, r_pickT, r_pickF, r_condT, r_condF, r_gdTT, r_gdFF, r_gdTF, r_gdFT, r_gqTT, r_gqFF, r_gqTF, r_gqFT, r_not, r_lss, r_leq, r_gtr, r_geq, r_eql, r_neq, r_add, r_sub, r_min2, r_max2, r_min3, r_max3, r_fa, r_iaS, r_iaA, r_ex2a, r_ex2b, r_ex3a, r_ex3b, r_ex3c, r_nc, r_keepE, Nat.zero_add, Nat.add_zero, Nat.mul_one, Int.toNat_natCast, toNat_sub1, toNat_add1, decide_true, decide_false, Bool.not_true, Bool.not_false, if_true, if_false, Bool.false_eq_true, reduceCtorEq, decide_eq_true hlt, g1]
      exact hn wr hPi kr
    by_cases g2 : 0 ≤ x.2.1
    case neg =>
      simp (disch := omega) only [r_ln, r_pick, r_pickT, r_pickF, r_condT, r_condF, r_gdTT, r_gdFF, r_gdTF, r_gdFT, r_gqTT, r_gqFF, r_gqTF, r_gqFT, r_not, r_lss, r_leq, r_gtr, r_geq, r_eql, r_neq, r_add, r_sub, r_min2, r_max2, r_min3, r_max3, r_fa, r_iaS, r_iaA, r_ex2a, r_ex2b, r_ex3a, r_ex3b, r_ex3c, r_nc, r_keepE, Nat.zero_add, Nat.add_zero, Nat.mul_one, Int.toNat_natCast, toNat_sub1, toNat_add1, decide_true, decide_false, Bool.not_true, Bool.not_false, if_true, if_false, Bool.false_eq_true, reduceCtorEq, decide_eq_true hlt, decide_eq_true g1, g2]
      exact hn wr hPi kr
    have g3 : ¬ x.2.1 < (x.1.length : Int) := fun h => hg ⟨g1, g2, h⟩
    simp (disch := omega) only [r_ln, r_pick, r_pickT, r_pickF, r_condT, r_condF, r_gdTT, r_gdFF, r_gdTF, r_gdFT, r_gqTT, r_gqFF, r_gqTF, r_gqFT, r_not, r_lss, r_leq, r_gtr, r_geq, r_eql, r_neq, r_add, r_sub, r_min2, r_max2, r_min3, r_max3, r_fa, r_iaS, r_iaA, r_ex2a, r_ex2b, r_ex3a, r_ex3b, r_ex3c, r_nc, r_keepE, Nat.zero_add, Nat.add_zero, Nat.mul_one, Int.toNat_natCast, toNat_sub1, toNat_add1, decide_true, decide_false, Bool.not_true, Bool.not_false, if_true, if_false, Bool.false_eq_true, reduceCtorEq, decide_eq_true hlt, decide_eq_true g1, decide_eq_true g2, g3]
    exact hn wr hPi kr
  obtain ⟨o, ho1, ho2, holt, hget, hmem⟩ := entAt_get hT hx hg
  have hE := hT.ent _ hmem
  generalize hEe : entAt T x = e at *
  obtain ⟨g1, g2, g3⟩ := hg
  have halt : x.2.1.toNat < x.1.length := by omega
  have hxa : x.1[x.2.1.toNat]? = some (x.1[x.2.1.toNat]) := List.getElem?_eq_getElem halt
  have hxa' : x.1[x.2.1.toNat] = (o : Int) := by rw [← ho2, getD_lt _ _ _ halt]
  obtain ⟨g, cap, ev, hgb, _, _, _⟩ := hPi.set (u := .int .i64 e.1) (p' := e.1) iC_len hxa (by omega : 0 < 1) rfl
  subst ev
  simp (disch := omega) only [r_ln, r_pick, r_pickT, r_pickF, r_condT, r_condF, r_gdTT, r_gdFF, r_gdTF, r_gdFT, r_gqTT, r_gqFF, r_gqTF, r_gqFT, r_not, r_lss, r_leq, r_gtr, r_geq, r_eql, r_neq, r_add, r_sub, r_min2, r_max2, r_min3, r_max3, r_fa, r_iaS, r_iaA, r_ex2a, r_ex2b, r_ex3a, r_ex3b, r_ex3c, r_nc, r_keepE, Nat.zero_add, Nat.add_zero, Nat.mul_one, Int.toNat_natCast, toNat_sub1, toNat_add1, decide_true, decide_false, Bool.not_true, Bool.not_false, if_true, if_false, Bool.false_eq_true, reduceCtorEq, decide_eq_true hlt, decide_eq_true g1, decide_eq_true g2, decide_eq_true g3]
  refine r_drew fun w3 k3 _ => ?_
  have k23 := Kp.trans kr k3
  have hP3 := hPi.kp k3
  have cT : w3.cell? ⟨b1, 1, none⟩ = some tv := by rw [cell_row (block_below h1 k23)]; rfl
  have hP3r : Rd 1 iC w3 (.slice (some ⟨g, 0, none⟩) x.1.length cap) x.1 := hP3.rd iC_len
  obtain ⟨_, _, _, eq1, _, hcr⟩ := hP3r.at hxa
  cases eq1
  have cO : w3.cell? ⟨g, x.2.1.toNat, none⟩ = some (.int .i64 o) := by
    have := hcr 0 _ rfl
    simpa [iC, hxa'] using this
  obtain ⟨bt, off, capT, etv, _, hld⟩ := RdE.ent (hr.kp k23) hget
  subst etv
  have e2 : (2 * x.2.2 + (o : Int)).toNat = 2 * x.2.2.toNat + o := by omega
  simp (disch := omega) only [r_ln, r_pick, r_pickT, r_pickF, r_condT, r_condF, r_gdTT, r_gdFF, r_gdTF, r_gdFT, r_gqTT, r_gqFF, r_gqTF, r_gqFT, r_not, r_lss, r_leq, r_gtr, r_geq, r_eql, r_neq, r_add, r_sub, r_min2, r_max2, r_min3, r_max3, r_fa, r_iaS, r_iaA, r_ex2a, r_ex2b, r_ex3a, r_ex3b, r_ex3c, r_nc, r_keepE, Nat.zero_add, Nat.add_zero, Nat.mul_one, Int.toNat_natCast, toNat_sub1, toNat_add1, decide_true, decide_false, Bool.not_true, Bool.not_false, if_true, if_false, Bool.false_eq_true, reduceCtorEq, r_ld cT, r_mul, r_ld cO, e2, hld]
  refine r_box fun b4 w4 e4 s4 h4 k4 => ⟨k4, ?_⟩
  refine r_stAll (n := 3) (ty := 102) (by kernel_rfl) rfl (by intro u hu; simp [Value.cells] at hu; rcases hu with rfl | rfl | rfl <;> rfl) h4 rfl fun w6 d5 t5 h6 => ?_
  have k36 : Kp w3 w6 := Kp.of_chg k4 d5 fun i e => by omega
  have k26 := Kp.trans k23 k36
  have hP6 := hP3.kp k36
  have hgl := (hP3.lt (k := g) rfl).2
  have hgb : ¬ g = b4 := by omega
  obtain ⟨g', cap', ev', hgb', ⟨u0, cu⟩, hfr, hset⟩ := hP6.set (u := .int .i64 e.1) (p' := e.1) iC_len hxa (by omega : 0 < 1) rfl
  cases ev'
  simp only [Nat.mul_one, Nat.add_zero] at cu hfr hset
  have c0 : w6.cell? ⟨b4, 0, none⟩ = some (.int .i64 e.1) := by rw [cell_row h6]; rfl
  simp (disch := omega) only [r_ln, r_pick, r_pickT, r_pickF, r_condT, r_condF, r_gdTT, r_gdFF, r_gdTF, r_gdFT, r_gqTT, r_gqFF, r_gqTF, r_gqFT, r_not, r_lss, r_leq, r_gtr, r_geq, r_eql, r_neq, r_add, r_sub, r_min2, r_max2, r_min3, r_max3, r_fa, r_iaS, r_iaA, r_ex2a, r_ex2b, r_ex3a, r_ex3b, r_ex3c, r_nc, r_keepE, Nat.zero_add, Nat.add_zero, Nat.mul_one, Int.toNat_natCast, toNat_sub1, toNat_add1, decide_true, decide_false, Bool.not_true, Bool.not_false, if_true, if_false, Bool.false_eq_true, reduceCtorEq, r_ld c0]
  rw [st3 cu hfr]
  have hc : Chg (fun k => k = g) w6 (w6.setCell ⟨g, x.2.1.toNat, none⟩ (.int .i64 e.1)) := Chg.setCell _ _ rfl
  have k27 : Kp w2 (w6.setCell ⟨g, x.2.1.toNat, none⟩ (.int .i64 e.1)) := Kp.of_chg k26 hc fun i e => by omega
  have h7 := hc.at h6 (fun e => hgb e.symm)
  generalize hw7 : w6.setCell ⟨g, x.2.1.toNat, none⟩ (.int .i64 e.1) = w7 at *
  have c1 : w7.cell? ⟨b4, 1, none⟩ = some (.bool e.2.1) := by rw [cell_row h7]; rfl
  have c2 : w7.cell? ⟨b4, 2, none⟩ = some (.int .i64 e.2.2) := by rw [cell_row h7]; rfl
  have hstp : stp T x = (x.1.set x.2.1.toNat e.1, moved e x.2.1, e.2.2) := by rw [stp, if_pos ⟨g1, g2, g3⟩, hEe]
  rw [hstp] at hrun
  have fin : ∀ (v' : Value), v' = .int .i64 (moved e x.2.1) → ∀ K : Value → World → Prop, K (.int .i64 (moved e x.2.1)) w7 → K v' w7 := fun v' e K h => e ▸ h
  have hI : ∀ (t12 t13 t14 : Value), t12 = .int .i64 (moved e x.2.1) → t13 = .int .i64 e.2.2 → t14 = .int .i64 ((i : Int) + 1) → (∃ j : Nat, (j : Int) ≤ n ∧ t14 = .int .i64 j ∧ t12 = .int .i64 (runM T (tape, 0, 0) j).2.1 ∧ t13 = .int .i64 (runM T (tape, 0, 0) j).2.2 ∧ IntsAt w2.heap.size w7 (.slice (some ⟨g, 0, none⟩) x.1.length cap) (runM T (tape, 0, 0) j).1 ∧ Kp w2 w7) ∧ n.toNat - (intOf t14).toNat < n.toNat - (intOf (.int .i64 (i : Int))).toNat := by
    rintro _ _ _ rfl rfl rfl
    refine ⟨⟨i + 1, by omega, by go_num, by rw [hrun], by rw [hrun], by rw [hrun]; exact hset, k27⟩, by simp only [intOf]; omega⟩
  have hJ : ∀ (F : (Value → World → Prop) → Prop) (k : Value → World → Prop), (∀ a w, (a = .int .i64 (moved e x.2.1) ∧ w = w7) → k a w) → (∀ k' : Value → World → Prop, (∀ a w, (a = .int .i64 (moved e x.2.1) ∧ w = w7) → k' a w) → F k') → Join F k := fun F k a b => r_join1 _ a b
  by_cases g4 : 0 ≤ e.2.2
  case neg =>
    simp (disch := omega) only [r_ln, r_pick, r_pickT, r_pickF, r_condT, r_condF, r_gdTT, r_gdFF, r_gdTF, r_gdFT, r_gqTT, r_gqFF, r_gqTF, r_gqFT, r_not, r_lss, r_leq, r_gtr, r_geq, r_eql, r_neq, r_add, r_sub, r_min2, r_max2, r_min3, r_max3, r_fa, r_iaS, r_iaA, r_ex2a, r_ex2b, r_ex3a, r_ex3b, r_ex3c, r_nc, r_keepE, Nat.zero_add, Nat.add_zero, Nat.mul_one, Int.toNat_natCast, toNat_sub1, toNat_add1, decide_true, decide_false, Bool.not_true, Bool.not_false, if_true, if_false, Bool.false_eq_true, reduceCtorEq, r_ld c2, g4]
    refine hJ _ _ (fun v' w' ⟨ev, ew⟩ => ?_) fun k' hk' => ?_
    · subst ew
      try simp (disch := omega) only [r_ln, r_pick, r_pickT, r_pickF, r_condT, r_condF, r_gdTT, r_gdFF, r_gdTF, r_gdFT, r_gqTT, r_gqFF, r_gqTF, r_gqFT, r_not, r_lss, r_leq, r_gtr, r_geq, r_eql, r_neq, r_add, r_sub, r_min2, r_max2, r_min3, r_max3, r_fa, r_iaS, r_iaA, r_ex2a, r_ex2b, r_ex3a, r_ex3b, r_ex3c, r_nc, r_keepE, Nat.zero_add, Nat.add_zero, Nat.mul_one, Int.toNat_natCast, toNat_sub1, toNat_add1, decide_true, decide_false, Bool.not_true, Bool.not_false, if_true, if_false, Bool.false_eq_true, reduceCtorEq]
      exact hI _ _ _ ev rfl rfl
    try simp (disch := omega) only [r_ln, r_pick, r_pickT, r_pickF, r_condT, r_condF, r_gdTT, r_gdFF, r_gdTF, r_gdFT, r_gqTT, r_gqFF, r_gqTF, r_gqFT, r_not, r_lss, r_leq, r_gtr, r_geq, r_eql, r_neq, r_add, r_sub, r_min2, r_max2, r_min3, r_max3, r_fa, r_iaS, r_iaA, r_ex2a, r_ex2b, r_ex3a, r_ex3b, r_ex3c, r_nc, r_keepE, Nat.zero_add, Nat.add_zero, Nat.mul_one, Int.toNat_natCast, toNat_sub1, toNat_add1, decide_true, decide_false, Bool.not_true, Bool.not_false, if_true, if_false, Bool.false_eq_true, reduceCtorEq]
    exact hk' _ _ ⟨by rw [moved, if_pos (by omega)], rfl⟩
  have g4' : ¬ e.2.2 < 0 := by omega
  cases g5 : e.2.1 with
  | true =>
    rw [g5] at c1
    simp (disch := omega) only [r_ln, r_pick, r_pickT, r_pickF, r_condT, r_condF, r_gdTT, r_gdFF, r_gdTF, r_gdFT, r_gqTT, r_gqFF, r_gqTF, r_gqFT, r_not, r_lss, r_leq, r_gtr, r_geq, r_eql, r_neq, r_add, r_sub, r_min2, r_max2, r_min3, r_max3, r_fa, r_iaS, r_iaA, r_ex2a, r_ex2b, r_ex3a, r_ex3b, r_ex3c, r_nc, r_keepE, Nat.zero_add, Nat.add_zero, Nat.mul_one, Int.toNat_natCast, toNat_sub1, toNat_add1, decide_true, decide_false, Bool.not_true, Bool.not_false, if_true, if_false, Bool.false_eq_true, reduceCtorEq, r_ld c2, decide_eq_true g4, r_ld c1]
    refine hJ _ _ (fun v' w' ⟨ev, ew⟩ => ?_) fun k' hk' => ?_
    · subst ew
      try simp (disch := omega) only [r_ln, r_pick, r_pickT, r_pickF, r_condT, r_condF, r_gdTT, r_gdFF, r_gdTF, r_gdFT, r_gqTT, r_gqFF, r_gqTF, r_gqFT, r_not, r_lss, r_leq, r_gtr, r_geq, r_eql, r_neq, r_add, r_sub, r_min2, r_max2, r_min3, r_max3, r_fa, r_iaS, r_iaA, r_ex2a, r_ex2b, r_ex3a, r_ex3b, r_ex3c, r_nc, r_keepE, Nat.zero_add, Nat.add_zero, Nat.mul_one, Int.toNat_natCast, toNat_sub1, toNat_add1, decide_true, decide_false, Bool.not_true, Bool.not_false, if_true, if_false, Bool.false_eq_true, reduceCtorEq]
      exact hI _ _ _ ev rfl rfl
    try simp (disch := omega) only [r_ln, r_pick, r_pickT, r_pickF, r_condT, r_condF, r_gdTT, r_gdFF, r_gdTF, r_gdFT, r_gqTT, r_gqFF, r_gqTF, r_gqFT, r_not, r_lss, r_leq, r_gtr, r_geq, r_eql, r_neq, r_add, r_sub, r_min2, r_max2, r_min3, r_max3, r_fa, r_iaS, r_iaA, r_ex2a, r_ex2b, r_ex3a, r_ex3b, r_ex3c, r_nc, r_keepE, Nat.zero_add, Nat.add_zero, Nat.mul_one, Int.toNat_natCast, toNat_sub1, toNat_add1, decide_true, decide_false, Bool.not_true, Bool.not_false, if_true, if_false, Bool.false_eq_true, reduceCtorEq]
    exact hk' _ _ ⟨by rw [moved, if_neg g4', if_pos g5], rfl⟩
  | false =>
    rw [g5] at c1
    simp (disch := omega) only [r_ln, r_pick, r_pickT, r_pickF, r_condT, r_condF, r_gdTT, r_gdFF, r_gdTF, r_gdFT, r_gqTT, r_gqFF, r_gqTF, r_gqFT, r_not, r_lss, r_leq, r_gtr, r_geq, r_eql, r_neq, r_add, r_sub, r_min2, r_max2, r_min3, r_max3, r_fa, r_iaS, r_iaA, r_ex2a, r_ex2b, r_ex3a, r_ex3b, r_ex3c, r_nc, r_keepE, Nat.zero_add, Nat.add_zero, Nat.mul_one, Int.toNat_natCast, toNat_sub1, toNat_add1, decide_true, decide_false, Bool.not_true, Bool.not_false, if_true, if_false, Bool.false_eq_true, reduceCtorEq, r_ld c2, decide_eq_true g4, r_ld c1]
    refine hJ _ _ (fun v' w' ⟨ev, ew⟩ => ?_) fun k' hk' => ?_
    · subst ew
      try simp (disch := omega) only [r_ln, r_pick, r_pickT, r_pickF, r_condT, r_condF, r_gdTT, r_gdFF, r_gdTF, r_gdFT, r_gqTT, r_gqFF, r_gqTF, r_gqFT, r_not, r_lss, r_leq, r_gtr, r_geq, r_eql, r_neq, r_add, r_sub, r_min2, r_max2, r_min3, r_max3, r_fa, r_iaS, r_iaA, r_ex2a, r_ex2b, r_ex3a, r_ex3b, r_ex3c, r_nc, r_keepE, Nat.zero_add, Nat.add_zero, Nat.mul_one, Int.toNat_natCast, toNat_sub1, toNat_add1, decide_true, decide_false, Bool.not_true, Bool.not_false, if_true, if_false, Bool.false_eq_true, reduceCtorEq]
      exact hI _ _ _ ev rfl rfl
    try simp (disch := omega) only [r_ln, r_pick, r_pickT, r_pickF, r_condT, r_condF, r_gdTT, r_gdFF, r_gdTF, r_gdFT, r_gqTT, r_gqFF, r_gqTF, r_gqFT, r_not, r_lss, r_leq, r_gtr, r_geq, r_eql, r_neq, r_add, r_sub, r_min2, r_max2, r_min3, r_max3, r_fa, r_iaS, r_iaA, r_ex2a, r_ex2b, r_ex3a, r_ex3b, r_ex3c, r_nc, r_keepE, Nat.zero_add, Nat.add_zero, Nat.mul_one, Int.toNat_natCast, toNat_sub1, toNat_add1, decide_true, decide_false, Bool.not_true, Bool.not_false, if_true, if_false, Bool.false_eq_true, reduceCtorEq]
    exact hk' _ _ ⟨by rw [moved, if_neg g4', if_neg (by rw [g5]; decide)], rfl⟩

set_option maxRecDepth 100000 in
theorem r42_0 {w2 : World} {b1 s : Nat} {tv vt : Value} {T : List Ent} {tape : List Int} {n : Int} {R : Ending → World → Prop}
    (h1 : w2.heap[b1]? = some (.cells #[.int .i64 s, tv] 51 (0, 0))) (hr : RdE w2 tv T) (hT : TOk s T) (ht : RdInts w2 vt tape) (hn0 : 0 ≤ n ∧ n ≤ 4) (hl : tape.length ≤ 100)
    (hbad : ∀ w', tape.all bitB = false → Kp w2 w' → R (.returned (.tuple #[nilS, .int .i64 0, .int .i64 0, .int .i64 2])) w')
    (hn : ∀ v w', tape.all bitB = true → IntsAt w2.heap.size w' v (runM T (tape, 0, 0) n.toNat).1 → Kp w2 w' → R (.returned (.tuple #[v, .int .i64 (runM T (tape, 0, 0) n.toNat).2.1, .int .i64 (runM T (tape, 0, 0) n.toNat).2.2, .int .i64 0])) w') :
    S42L0 vt (.int .i64 n) (pb b1) R w2 := by
  obtain ⟨aa, ca, rfl, ha1, _⟩ := ht.len
  unfold S42L0
  refine ⟨fun t10 t11 wr => ∃ i : Nat, i ≤ tape.length ∧ t11 = .int .i64 i ∧ (tape.take i).all bitB = true ∧ IntsAt w2.heap.size wr t10 (tape.take i) ∧ Kp w2 wr, fun _ t11 _ => tape.length - (intOf t11).toNat, ⟨0, by omega, rfl, rfl, RecAt.nil, Kp.refl _⟩, ?_⟩
  rintro _ t10 _ wr ⟨i, hi, rfl, hbt, hP, kr⟩
  by_cases hlt : i < tape.length
  case neg =>
    have hlt' : ¬ (i : Int) < (tape.length : Int) := by omega
    rw [List.take_of_length_le (by omega)] at hP hbt
    simp (disch := omega) only [r_ln, r_pick, r_pickT, r_pickF, r_condT, r_condF, r_gdTT, r_gdFF, r_gdTF, r_gdFT, r_gqTT, r_gqFF, r_gqTF, r_gqFT, r_not, r_lss, r_leq, r_gtr, r_geq, r_eql, r_neq, r_add, r_sub, r_min2, r_max2, r_min3, r_max3, r_fa, r_iaS, r_iaA, r_ex2a, r_ex2b, r_ex3a, r_ex3b, r_ex3c, r_nc, r_keepE, Nat.zero_add, Nat.add_zero, Nat.mul_one, Int.toNat_natCast, toNat_sub1, toNat_add1, decide_true, decide_false, Bool.not_true, Bool.not_false, if_true, if_false, Bool.false_eq_true, reduceCtorEq, hlt']
    exact r42_1 h1 hr hT (bits_iff.1 hbt) hn0 hl hP kr fun w' ho kk => hn _ _ hbt ho kk
  have hlt' : (i : Int) < (tape.length : Int) := by omega
  obtain ⟨b, off, cap, ev, hc⟩ := (ht.below kr).at hlt
  cases ev
  rw [getD_lt _ _ _ hlt] at hc
  have bad : bitB tape[i] = false → tape.all bitB = false := fun h => by
    cases hh : tape.all bitB with
    | false => rfl
    | true =>
      have := List.all_eq_true.1 hh _ (List.getElem_mem hlt)
      rw [h] at this
      cases this
  have hi' : (i : Int).toNat = i := by omega
  by_cases g1 : tape[i] < 0
  · simp (disch := omega) only [r_ln, r_pick, r_pickT, r_pickF, r_condT, r_condF, r_gdTT, r_gdFF, r_gdTF, r_gdFT, r_gqTT, r_gqFF, r_gqTF, r_gqFT, r_not, r_lss, r_leq, r_gtr, r_geq, r_eql, r_neq, r_add, r_sub, r_min2, r_max2, r_min3, r_max3, r_fa, r_iaS, r_iaA, r_ex2a, r_ex2b, r_ex3a, r_ex3b, r_ex3c, r_nc, r_keepE, Nat.zero_add, Nat.add_zero, Nat.mul_one, Int.toNat_natCast, toNat_sub1, toNat_add1, decide_true, decide_false, Bool.not_true, Bool.not_false, if_true, if_false, Bool.false_eq_true, reduceCtorEq, decide_eq_true hlt', hi', r_ld hc, decide_eq_true g1]
    exact hbad wr (bad (by rw [bitB, decide_eq_false (by omega)])) kr
  by_cases g2 : 1 < tape[i]
  · simp (disch := omega) only [r_ln, r_pick, r_pickT, r_pickF, r_condT, r_condF, r_gdTT, r_gdFF, r_gdTF, r_gdFT, r_gqTT, r_gqFF, r_gqTF, r_gqFT, r_not, r_lss, r_leq, r_gtr, r_geq, r_eql, r_neq, r_add, r_sub, r_min2, r_max2, r_min3, r_max3, r_fa, r_iaS, r_iaA, r_ex2a, r_ex2b, r_ex3a, r_ex3b, r_ex3c, r_nc, r_keepE, Nat.zero_add, Nat.add_zero, Nat.mul_one, Int.toNat_natCast, toNat_sub1, toNat_add1, decide_true, decide_false, Bool.not_true, Bool.not_false, if_true, if_false, Bool.false_eq_true, reduceCtorEq, decide_eq_true hlt', hi', r_ld hc, g1, decide_eq_true g2]
    exact hbad wr (bad (by rw [bitB, decide_eq_false (by omega)])) kr
  simp (disch := omega) only [r_ln, r_pick, r_pickT, r_pickF, r_condT, r_condF, r_gdTT, r_gdFF, r_gdTF, r_gdFT, r_gqTT, r_gqFF, r_gqTF, r_gqFT, r_not, r_lss, r_leq, r_gtr, r_geq, r_eql, r_neq, r_add, r_sub, r_min2, r_max2, r_min3, r_max3, r_fa, r_iaS, r_iaA, r_ex2a, r_ex2b, r_ex3a, r_ex3b, r_ex3c, r_nc, r_keepE, Nat.zero_add, Nat.add_zero, Nat.mul_one, Int.toNat_natCast, toNat_sub1, toNat_add1, decide_true, decide_false, Bool.not_true, Bool.not_false, if_true, if_false, Bool.false_eq_true, reduceCtorEq, decide_eq_true hlt', hi', r_ld hc, g1, g2]
  refine r_pushRec (x := tape[i]) slt30 iC_len rfl (bs30 _ _ _) (by intro u hu; simp [iC] at hu; rw [hu]; rfl) (by omega) hP (by rw [List.length_take]; omega) kr.size fun v' w' ho hcg _ => ?_
  try simp (disch := omega) only [r_ln, r_pick, r_pickT, r_pickF, r_condT, r_condF, r_gdTT, r_gdFF, r_gdTF, r_gdFT, r_gqTT, r_gqFF, r_gqTF, r_gqFT, r_not, r_lss, r_leq, r_gtr, r_geq, r_eql, r_neq, r_add, r_sub, r_min2, r_max2, r_min3, r_max3, r_fa, r_iaS, r_iaA, r_ex2a, r_ex2b, r_ex3a, r_ex3b, r_ex3c, r_nc, r_keepE, Nat.zero_add, Nat.add_zero, Nat.mul_one, Int.toNat_natCast, toNat_sub1, toNat_add1, decide_true, decide_false, Bool.not_true, Bool.not_false, if_true, if_false, Bool.false_eq_true, reduceCtorEq]
  refine ⟨⟨i + 1, by omega, by go_num, ?_, ?_, Kp.of_chg kr hcg fun k e => (hP.lt e).1⟩, by simp only [intOf]; omega⟩
  · rw [take_succ' _ _ hlt, List.all_append, hbt]
    simp [bitB]
    omega
  · rw [take_succ' _ _ hlt]
    exact ho

set_option maxRecDepth 100000 in
theorem refrun_calls {S n : Int} {tv vt : Value} {T : List Ent} {tape : List Int} (w : World) (hr : RdE w tv T) (hT : T.length ≤ 1000) (ht : RdInts w vt tape) : Calls Try.prog 42 #[macV S tv, vt, .int .i64 n] w fun e w' => Kp w w' ∧ RunPost S T tape n w.heap.size w' e := by
  obtain ⟨ta, tcap, rfl, _⟩ := hr.len
  have ht' := ht
  obtain ⟨aa, ca, rfl, ha1, _⟩ := ht.len
  refine lift42 ?_
  unfold S42
  refine r_box fun b1 w1 e1 s1 h1 k1 => ?_
  have h1' : w1.heap[b1]? = some (.cells #[.int .i64 S, .slice ta T.length tcap] 51 (0, 0)) := h1
  rw [r_ldRow (n := 2) h1' rfl]
  refine r_use fok93 (valid2_calls (T := T) w1 (hr.kp k1) hT) rfl ?_
  rintro _ w2 ⟨rfl, k2⟩
  refine ⟨_, rfl, ?_⟩
  have k02 := Kp.trans k1 k2
  have h12 := block_below h1' k2
  have bad : ∀ w', Kp w w' → runOk S T tape n = false → Kp w w' ∧ RunPost S T tape n w.heap.size w' (.returned (.tuple #[nilS, .int .i64 0, .int .i64 0, .int .i64 2])) := fun w' k h => ⟨k, .inl ⟨h, rfl⟩⟩
  have no : ∀ {p : Prop}, (runOk S T tape n = true → p → False) → p → runOk S T tape n = false := fun h hp => by
    cases hh : runOk S T tape n with
    | false => rfl
    | true => exact absurd hp (h hh)
  cases hm : macB S T with
  | false =>
    simp (disch := omega) only [r_ln, r_pick, r_pickT, r_pickF, r_condT, r_condF, r_gdTT, r_gdFF, r_gdTF, r_gdFT, r_gqTT, r_gqFF, r_gqTF, r_gqFT, r_not, r_lss, r_leq, r_gtr, r_geq, r_eql, r_neq, r_add, r_sub, r_min2, r_max2, r_min3, r_max3, r_fa, r_iaS, r_iaA, r_ex2a, r_ex2b, r_ex3a, r_ex3b, r_ex3c, r_nc, r_keepE, Nat.zero_add, Nat.add_zero, Nat.mul_one, Int.toNat_natCast, toNat_sub1, toNat_add1, decide_true, decide_false, Bool.not_true, Bool.not_false, if_true, if_false, Bool.false_eq_true, reduceCtorEq]
    exact bad _ k02 (no (fun h e => by have := (runOk_iff.1 h).1; rw [hm] at this; cases this) hm)
  | true =>
  simp (disch := omega) only [r_ln, r_pick, r_pickT, r_pickF, r_condT, r_condF, r_gdTT, r_gdFF, r_gdTF, r_gdFT, r_gqTT, r_gqFF, r_gqTF, r_gqFT, r_not, r_lss, r_leq, r_gtr, r_geq, r_eql, r_neq, r_add, r_sub, r_min2, r_max2, r_min3, r_max3, r_fa, r_iaS, r_iaA, r_ex2a, r_ex2b, r_ex3a, r_ex3b, r_ex3c, r_nc, r_keepE, Nat.zero_add, Nat.add_zero, Nat.mul_one, Int.toNat_natCast, toNat_sub1, toNat_add1, decide_true, decide_false, Bool.not_true, Bool.not_false, if_true, if_false, Bool.false_eq_true, reduceCtorEq]
  refine r_use fok68 (size_calls tape.length w2) rfl ?_
  rintro _ _ ⟨rfl, rfl⟩
  refine ⟨_, rfl, ?_⟩
  cases hsd : sideB tape.length with
  | false =>
    simp (disch := omega) only [r_ln, r_pick, r_pickT, r_pickF, r_condT, r_condF, r_gdTT, r_gdFF, r_gdTF, r_gdFT, r_gqTT, r_gqFF, r_gqTF, r_gqFT, r_not, r_lss, r_leq, r_gtr, r_geq, r_eql, r_neq, r_add, r_sub, r_min2, r_max2, r_min3, r_max3, r_fa, r_iaS, r_iaA, r_ex2a, r_ex2b, r_ex3a, r_ex3b, r_ex3c, r_nc, r_keepE, Nat.zero_add, Nat.add_zero, Nat.mul_one, Int.toNat_natCast, toNat_sub1, toNat_add1, decide_true, decide_false, Bool.not_true, Bool.not_false, if_true, if_false, Bool.false_eq_true, reduceCtorEq]
    exact bad _ k02 (no (fun h e => by have := (runOk_iff.1 h).2.1; rw [hsd] at this; cases this) hsd)
  | true =>
  have hsd' : 1 ≤ tape.length ∧ tape.length ≤ 4 := by
    simp only [sideB, decide_eq_true_eq] at hsd
    omega
  by_cases g1 : n < 0
  · simp (disch := omega) only [r_ln, r_pick, r_pickT, r_pickF, r_condT, r_condF, r_gdTT, r_gdFF, r_gdTF, r_gdFT, r_gqTT, r_gqFF, r_gqTF, r_gqFT, r_not, r_lss, r_leq, r_gtr, r_geq, r_eql, r_neq, r_add, r_sub, r_min2, r_max2, r_min3, r_max3, r_fa, r_iaS, r_iaA, r_ex2a, r_ex2b, r_ex3a, r_ex3b, r_ex3c, r_nc, r_keepE, Nat.zero_add, Nat.add_zero, Nat.mul_one, Int.toNat_natCast, toNat_sub1, toNat_add1, decide_true, decide_false, Bool.not_true, Bool.not_false, if_true, if_false, Bool.false_eq_true, reduceCtorEq, decide_eq_true g1]
    exact bad _ k02 (no (fun h e => by have := (runOk_iff.1 h).2.2.2; omega) g1)
  by_cases g2 : 4 < n
  · simp (disch := omega) only [r_ln, r_pick, r_pickT, r_pickF, r_condT, r_condF, r_gdTT, r_gdFF, r_gdTF, r_gdFT, r_gqTT, r_gqFF, r_gqTF, r_gqFT, r_not, r_lss, r_leq, r_gtr, r_geq, r_eql, r_neq, r_add, r_sub, r_min2, r_max2, r_min3, r_max3, r_fa, r_iaS, r_iaA, r_ex2a, r_ex2b, r_ex3a, r_ex3b, r_ex3c, r_nc, r_keepE, Nat.zero_add, Nat.add_zero, Nat.mul_one, Int.toNat_natCast, toNat_sub1, toNat_add1, decide_true, decide_false, Bool.not_true, Bool.not_false, if_true, if_false, Bool.false_eq_true, reduceCtorEq, g1, decide_eq_true g2]
    exact bad _ k02 (no (fun h e => by have := (runOk_iff.1 h).2.2.2; omega) g2)
  simp (disch := omega) only [r_ln, r_pick, r_pickT, r_pickF, r_condT, r_condF, r_gdTT, r_gdFF, r_gdTF, r_gdFT, r_gqTT, r_gqFF, r_gqTF, r_gqFT, r_not, r_lss, r_leq, r_gtr, r_geq, r_eql, r_neq, r_add, r_sub, r_min2, r_max2, r_min3, r_max3, r_fa, r_iaS, r_iaA, r_ex2a, r_ex2b, r_ex3a, r_ex3b, r_ex3c, r_nc, r_keepE, Nat.zero_add, Nat.add_zero, Nat.mul_one, Int.toNat_natCast, toNat_sub1, toNat_add1, decide_true, decide_false, Bool.not_true, Bool.not_false, if_true, if_false, Bool.false_eq_true, reduceCtorEq, g1, g2]
  obtain ⟨s, rfl, hTO⟩ := tOk_of hm
  refine r42_0 h12 (hr.kp k02) hTO (ht'.below k02) (by omega) (by omega) (fun w' hb kk => ?_) fun v' w' hb ho' kk => ?_
  · exact bad _ (Kp.trans k02 kk) (no (fun h e => by have := (runOk_iff.1 h).2.2.1; rw [hb] at this; cases this) hb)
  · exact ⟨Kp.trans k02 kk, .inr ⟨runOk_iff.2 ⟨hm, hsd, hb, by omega, by omega⟩, v', rfl, ho'.down k02.size⟩⟩

end Go.Proofs.Ytgalbokmgffhkaa
