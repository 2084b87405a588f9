/- Texts of my own, merged by program: N7 Lift7 Sn. -/
import Derived.Test.YtgalbokmgffhkaaM19
import Derived.Test.YtgalbokmgffhkaaM16
import Derived.Test.YtgalbokmgffhkaaM02
import Derived.Scope
import Derived.Test.YtgalbokmgffhkaaM03
set_option linter.all false
/- Contract: WangCloses. -/
namespace Go.Proofs.Ytgalbokmgffhkaa
open Go.Lf Go.RowKit Go.Wg

theorem closeV_form (l : List Tile) (a b : Int) : ∃ n e : Int, closeV l a b = .tuple #[.int .i64 n, .int .i64 e] := by
  unfold closeV limV
  split
  · split
    · exact ⟨_, _, rfl⟩
    · exact ⟨_, _, rfl⟩
  · exact ⟨_, _, rfl⟩

set_option maxRecDepth 100000 in
theorem closes_calls {v : Value} {l : List Tile} (a b : Int) (w : World) (hr : RdT w v l) : Calls Try.prog 8 #[v, .int .i64 a, .int .i64 b] w fun e w' => e = .returned (.bool true) ∧ Kp w w' := by
  have hr0 := hr
  obtain ⟨va, vcap, rfl, hvc⟩ := hr.len
  refine lift8 ?_
  unfold S8
  have fin : ∀ (w' : World), Kp w w' → Calls Try.prog 18 #[] w' fun e w'' => e = .returned (.bool true) ∧ Kp w w'' := fun w' k => (law_alive w').mono fun e w'' h => ⟨h.1, Kp.trans k h.2⟩
  by_cases hl : (40 : Int) < (l.length : Int)
  · simp (disch := omega) only [r_ln, r_pick, r_pickT, r_pickF, r_condT, r_condF, r_gdTT, r_gdFF, r_gdTF, r_gdFT, r_gqTT, r_gqFF, r_gqTF, r_gqFT, r_not, r_lss, r_leq, r_gtr, r_geq, r_eql, r_neq, r_add, r_sub, r_min2, r_max2, r_min3, r_max3, r_fa, r_iaS, r_iaA, r_ex2a, r_ex2b, r_ex3a, r_ex3b, r_ex3c, r_nc, r_keepE, Nat.zero_add, Nat.add_zero, Nat.mul_one, Int.toNat_natCast, toNat_sub1, toNat_add1, decide_true, decide_false, Bool.not_true, Bool.not_false, if_true, if_false, Bool.false_eq_true, reduceCtorEq, decide_eq_true hl, r_gdU]
    refine r_use fok18 (fin w (Kp.refl _)) rfl ?_
    rintro _ w1 ⟨rfl, k1⟩
    exact ⟨_, rfl, by first | rfl | trivial, k1⟩
  simp (disch := omega) only [r_ln, r_pick, r_pickT, r_pickF, r_condT, r_condF, r_gdTT, r_gdFF, r_gdTF, r_gdFT, r_gqTT, r_gqFF, r_gqTF, r_gqFT, r_not, r_lss, r_leq, r_gtr, r_geq, r_eql, r_neq, r_add, r_sub, r_min2, r_max2, r_min3, r_max3, r_fa, r_iaS, r_iaA, r_ex2a, r_ex2b, r_ex3a, r_ex3b, r_ex3c, r_nc, r_keepE, Nat.zero_add, Nat.add_zero, Nat.mul_one, Int.toNat_natCast, toNat_sub1, toNat_add1, decide_true, decide_false, Bool.not_true, Bool.not_false, if_true, if_false, Bool.false_eq_true, reduceCtorEq, hl, r_gdU]
  refine r_use fok23 (order_calls a b w hr0) rfl ?_
  rintro _ w1 ⟨rfl, k1⟩
  refine ⟨_, rfl, ?_⟩
  obtain ⟨n, e, hcv⟩ := closeV_form l a b
  have hself : ∀ x : Int, decide (x = x) = true := fun x => decide_eq_true rfl
  have go : ∀ (w2 : World), Kp w w2 →
      callW Try.prog (.func (.func 33) #[] #[]) [.slice va l.length vcap, .int .i64 a, .int .i64 b] w2 fun t32 w =>
      exQ t32 0 fun t33 =>
      exQ t32 1 fun t34 =>
      callW Try.prog (.func (.func 34) #[] #[]) [.slice va l.length vcap, .int .i64 a, .int .i64 b] w fun t39 w =>
      exQ t39 0 fun t40 =>
      exQ t39 1 fun t41 =>
      binQ Try.prog w .eql 3 false t33 t40 fun t44 =>
      gd t44 true (fun k => k t34 w) w fun t46 w =>
      gd t44 true (fun k => k t41 w) w fun t47 w =>
      gd t44 true (fun k => binQ Try.prog w .eql 26 false t46 t47 fun v => k v w) w fun t48 w =>
      pickQ t44 t48 (.bool false) fun t49 =>
      gd t49 true (fun k => callW Try.prog (.func (.func 18) #[] #[]) [] w k) w fun t51 w =>
      pickQ t49 t51 (.bool false) fun t52 =>
      (Ending.returned t52 = .returned (.bool true) ∧ Kp _ w) := fun w2 k2 => by
    refine r_use fok33 (closed_calls a b w2 (hr0.kp k2)) rfl ?_
    rintro _ w3 ⟨rfl, k3⟩
    refine ⟨_, rfl, ?_⟩
    have k03 := Kp.trans k2 k3
    rw [hcv]
    simp (disch := omega) only [r_ln, r_pick, r_pickT, r_pickF, r_condT, r_condF, r_gdTT, r_gdFF, r_gdTF, r_gdFT, r_gqTT, r_gqFF, r_gqTF, r_gqFT, r_not, r_lss, r_leq, r_gtr, r_geq, r_eql, r_neq, r_add, r_sub, r_min2, r_max2, r_min3, r_max3, r_fa, r_iaS, r_iaA, r_ex2a, r_ex2b, r_ex3a, r_ex3b, r_ex3c, r_nc, r_keepE, Nat.zero_add, Nat.add_zero, Nat.mul_one, Int.toNat_natCast, toNat_sub1, toNat_add1, decide_true, decide_false, Bool.not_true, Bool.not_false, if_true, if_false, Bool.false_eq_true, reduceCtorEq]
    refine r_use fok34 (refclosed_calls a b w3 (hr0.kp k03)) rfl ?_
    rintro _ w4 ⟨rfl, k4⟩
    refine ⟨_, rfl, ?_⟩
    have k04 := Kp.trans k03 k4
    rw [hcv]
    simp (disch := omega) only [r_ln, r_pick, r_pickT, r_pickF, r_condT, r_condF, r_gdTT, r_gdFF, r_gdTF, r_gdFT, r_gqTT, r_gqFF, r_gqTF, r_gqFT, r_not, r_lss, r_leq, r_gtr, r_geq, r_eql, r_neq, r_add, r_sub, r_min2, r_max2, r_min3, r_max3, r_fa, r_iaS, r_iaA, r_ex2a, r_ex2b, r_ex3a, r_ex3b, r_ex3c, r_nc, r_keepE, Nat.zero_add, Nat.add_zero, Nat.mul_one, Int.toNat_natCast, toNat_sub1, toNat_add1, decide_true, decide_false, Bool.not_true, Bool.not_false, if_true, if_false, Bool.false_eq_true, reduceCtorEq, hself]
    refine r_use fok18 (fin w4 k04) rfl ?_
    rintro _ w5 ⟨rfl, k5⟩
    refine ⟨_, rfl, ?_⟩
    simp (disch := omega) only [r_ln, r_pick, r_pickT, r_pickF, r_condT, r_condF, r_gdTT, r_gdFF, r_gdTF, r_gdFT, r_gqTT, r_gqFF, r_gqTF, r_gqFT, r_not, r_lss, r_leq, r_gtr, r_geq, r_eql, r_neq, r_add, r_sub, r_min2, r_max2, r_min3, r_max3, r_fa, r_iaS, r_iaA, r_ex2a, r_ex2b, r_ex3a, r_ex3b, r_ex3c, r_nc, r_keepE, Nat.zero_add, Nat.add_zero, Nat.mul_one, Int.toNat_natCast, toNat_sub1, toNat_add1, decide_true, decide_false, Bool.not_true, Bool.not_false, if_true, if_false, Bool.false_eq_true, reduceCtorEq]
    exact ⟨by first | rfl | trivial, k5⟩
  rcases ordErr_cases l a b with he | he
  · obtain ⟨hs, W, H, eW, eH, hW, hH⟩ := ord_ok he
    subst eW
    subst eH
    rw [he]
    simp (disch := omega) only [r_ln, r_pick, r_pickT, r_pickF, r_condT, r_condF, r_gdTT, r_gdFF, r_gdTF, r_gdFT, r_gqTT, r_gqFF, r_gqTF, r_gqFT, r_not, r_lss, r_leq, r_gtr, r_geq, r_eql, r_neq, r_add, r_sub, r_min2, r_max2, r_min3, r_max3, r_fa, r_iaS, r_iaA, r_ex2a, r_ex2b, r_ex3a, r_ex3b, r_ex3c, r_nc, r_keepE, Nat.zero_add, Nat.add_zero, Nat.mul_one, Int.toNat_natCast, toNat_sub1, toNat_add1, decide_true, decide_false, Bool.not_true, Bool.not_false, if_true, if_false, Bool.false_eq_true, reduceCtorEq, hself, r_gdU]
    refine r_use fok24 (states_calls w1 (hr0.kp k1) hs hW.2) rfl ?_
    rintro _ w2 ⟨rfl, k2⟩
    refine ⟨_, rfl, ?_⟩
    have k02 := Kp.trans k1 k2
    by_cases hg : (512 : Int) < ((allS l W : Nat) : Int)
    · simp (disch := omega) only [r_ln, r_pick, r_pickT, r_pickF, r_condT, r_condF, r_gdTT, r_gdFF, r_gdTF, r_gdFT, r_gqTT, r_gqFF, r_gqTF, r_gqFT, r_not, r_lss, r_leq, r_gtr, r_geq, r_eql, r_neq, r_add, r_sub, r_min2, r_max2, r_min3, r_max3, r_fa, r_iaS, r_iaA, r_ex2a, r_ex2b, r_ex3a, r_ex3b, r_ex3c, r_nc, r_keepE, Nat.zero_add, Nat.add_zero, Nat.mul_one, Int.toNat_natCast, toNat_sub1, toNat_add1, decide_true, decide_false, Bool.not_true, Bool.not_false, if_true, if_false, Bool.false_eq_true, reduceCtorEq, decide_eq_true hg, r_gdU]
      refine r_use fok18 (fin w2 k02) rfl ?_
      rintro _ w3 ⟨rfl, k3⟩
      exact ⟨_, rfl, by first | rfl | trivial, k3⟩
    · simp (disch := omega) only [r_ln, r_pick, r_pickT, r_pickF, r_condT, r_condF, r_gdTT, r_gdFF, r_gdTF, r_gdFT, r_gqTT, r_gqFF, r_gqTF, r_gqFT, r_not, r_lss, r_leq, r_gtr, r_geq, r_eql, r_neq, r_add, r_sub, r_min2, r_max2, r_min3, r_max3, r_fa, r_iaS, r_iaA, r_ex2a, r_ex2b, r_ex3a, r_ex3b, r_ex3c, r_nc, r_keepE, Nat.zero_add, Nat.add_zero, Nat.mul_one, Int.toNat_natCast, toNat_sub1, toNat_add1, decide_true, decide_false, Bool.not_true, Bool.not_false, if_true, if_false, Bool.false_eq_true, reduceCtorEq, hg, r_gdU]
      exact go w2 k02
  · rw [he]
    have h20 : decide ((2 : Int) = 0) = false := by decide
    simp (disch := omega) only [r_ln, r_pick, r_pickT, r_pickF, r_condT, r_condF, r_gdTT, r_gdFF, r_gdTF, r_gdFT, r_gqTT, r_gqFF, r_gqTF, r_gqFT, r_not, r_lss, r_leq, r_gtr, r_geq, r_eql, r_neq, r_add, r_sub, r_min2, r_max2, r_min3, r_max3, r_fa, r_iaS, r_iaA, r_ex2a, r_ex2b, r_ex3a, r_ex3b, r_ex3c, r_nc, r_keepE, Nat.zero_add, Nat.add_zero, Nat.mul_one, Int.toNat_natCast, toNat_sub1, toNat_add1, decide_true, decide_false, Bool.not_true, Bool.not_false, if_true, if_false, Bool.false_eq_true, reduceCtorEq, h20, r_gdU]
    exact go w1 k1

end Go.Proofs.Ytgalbokmgffhkaa

/- Lifting: a function whose body is a scope that no jump goes back in. By the prover. -/
namespace Go.Lf
open Go.RowKit

def cwS (P : Program) (A : Ann) : Code → Nat → (Exit → Fr → World → Prop) → Fr → World → Prop
  | .seq x y, b, Q, fr, w => cw P A x b (thn (fun fr w => cwS P A y b Q fr w) Q) fr w
  | .scope c, b, Q, fr, w => cw P A c b Q fr w
  | c, b, Q, fr, w => cw P A c b Q fr w
def dstsS : Code → List Nat
  | .seq x y => dstsC x ++ dstsS y
  | .scope c => dstsC c
  | c => dstsC c
def codeOkS (n : Nat) (A : Ann) : Code → Nat → Bool
  | .seq x y, b => codeOk n A x b && codeOkS n A y b
  | .scope c, b => codeOk n A c b
  | c, b => codeOk n A c b

theorem cwS_wp {P : Program} {A : Ann} {n : Nat} (hmix : P.follows .mixedOrders = true) {Q : Exit → Fr → World → Prop} (hQ : ∀ l fr w, ¬ Q (.goto l) fr w) :
    ∀ (c : Code) (b : Nat) (fr : Fr) (w : World) (a : Act), codeOkS n A c b = true → Mt n fr a → cwS P A c b Q fr w → c.wp P (fun e a' w' => Post n (dstsS c) fr (Q e) a' w') a w := by
  intro c
  induction c with
  | seq x y ihx ihy =>
    intro b fr w a hok hm h
    simp only [codeOkS, Bool.and_eq_true] at hok
    refine wp_seq (wp_mono (cw_wp hmix x b _ fr w a hok.1 hm h) fun e a' w' hp => ?_)
    cases e with
    | normal =>
      obtain ⟨fr', hm', hs', hk⟩ := hp
      refine wp_mono (ihy b fr' w' a' hok.2 hm' hk) fun e a'' w'' ⟨fr'', hm'', hs'', hk''⟩ => ⟨fr'', hm'', fun i hi => ?_, hk''⟩
      simp only [dstsS, List.mem_append, not_or] at hi
      rw [hs'' i hi.2, hs' i hi.1]
    | _ => exact hp.mono (fun i hi => by simp [dstsS, hi]) fun _ _ h => h
  | scope c ih =>
    intro b fr w a hok hm h
    refine wp_scope_straight (wp_mono (cw_wp hmix c b _ fr w a hok hm h) fun e a' w' hp => ?_)
    cases e with
    | goto l => exact (let ⟨fr', _, _, hk⟩ := hp; hQ l fr' w' hk)
    | _ => exact hp
  | _ => exact fun b fr w a hok hm h => cw_wp hmix _ b _ fr w a hok hm h

/-- **A CALL, BY THE LIFTED TEXT OF ITS BODY**: the body ends in a scope. -/
theorem calls_of_cwS {P : Program} {f : FuncId} {fn : Func} {c : Code} {args : Array Value} {w : World} {R : Ending → World → Prop} (A : Ann) (hmix : P.follows .mixedOrders = true)
    (hf : P.funcs[f]? = some fn) (hb : fn.body = some c) (hok : (codeOkS fn.ntmps A c 0 && Nat.ble args.size fn.ntmps) = true)
    (h : cwS P A c 0 (bodyQ P fn R) (frOf args) w) : Calls P f args w R := by
  simp only [Bool.and_eq_true, Nat.ble_eq] at hok
  have hm : Mt fn.ntmps (frOf args) { tmps := args ++ Array.replicate (fn.ntmps - args.size) undef, defers := [] } := by
    refine ⟨rfl, by simp; omega, fun i => ?_⟩
    simp only [frOf]
    rcases Nat.lt_or_ge i args.size with hi | hi
    · simp [Array.getElem?_append, hi]
    · simp only [Array.getD_eq_getD_getElem?, Array.getElem?_append_right hi, Array.getElem?_replicate, Array.getElem?_eq_none hi]
      split <;> rfl
  refine calls_of_wp hf hb (wp_mono (cwS_wp hmix (fun l fr w h => h) c 0 _ _ _ hok.1 hm h) fun e a' w' hp => ?_)
  obtain ⟨fr, hm', _, hk⟩ := hp
  cases e with
  | normal => exact ⟨hm'.defers, bodyQ_post hm' hk⟩
  | ret => exact ⟨hm'.defers, bodyQ_post hm' hk⟩
  | _ => exact hk.elim

end Go.Lf

/- Lifted texts, printed by program (gen.py): what each function's code asks. The ties are by the kernel. -/
namespace Go.Proofs.Ytgalbokmgffhkaa
open Go.Lf Go.RowKit

def S37L1 (t0 t6_2 t7 : Value) (next : Value → Value → Value → World → Prop) (k_2 : Value → Value → World → Prop) (w : World) : Prop :=
  Loop2 (.int .i64 1) t6_2 w fun _ t5_3 t6_3 w next_2 =>
    binQ Try.prog w .leq 3 true t5_3 (.int .i64 4) fun t16 =>
    condW t16 (
      binQ Try.prog w .quo 3 false t7 t5_3 fun t21 =>
      binQ Try.prog w .mul 3 false t21 t5_3 fun t24 =>
      binQ Try.prog w .eql 3 false t24 t7 fun t26 =>
      gd t26 true (fun k => k t21 w) w fun t28 w =>
      gd t26 true (fun k => callW Try.prog (.func (.func 66) #[] #[]) [t28] w k) w fun t29 w =>
      pickQ t26 t29 (.bool false) fun t30 =>
      gd t30 true (fun k => k t0 w) w fun t32 w =>
      gd t30 true (fun k => k t5_3 w) w fun t33 w =>
      gd t30 true (fun k => k t21 w) w fun t34 w =>
      gd t30 true (fun k => callW Try.prog (.func (.func 86) #[] #[]) [t32, t33, t34] w k) w fun t35 w =>
      gd t30 true (fun k => binQ Try.prog w .gtr 3 true t35 (.int .i64 0) fun v => k v w) w fun t36 w =>
      pickQ t30 t36 (.bool false) fun t37 =>
      condW t37 (
        k_2 t5_3 t21 w
      ) (
        binQ Try.prog w .add 3 true t5_3 (.int .i64 1) fun t18 =>
        next_2 t18 t21 w
      )
    ) (
      binQ Try.prog w .add 3 true t7 (.int .i64 1) fun t14 =>
      next t5_3 t6_3 t14 w
    )

def S37L0 (t0 : Value) (k_2 : Value → Value → World → Prop) (w : World) : Prop :=
  Loop3 (.int .i64 0) (.int .i64 0) (.int .i64 1) w fun _ t5_2 t6_2 t7 w next =>
    binQ Try.prog w .leq 3 true t7 (.int .i64 16) fun t12 =>
    condW t12 (
      S37L1 t0 t6_2 t7 next k_2 w
    ) (
      k_2 t5_2 t6_2 w
    )

def S37 (t0 : Value) (w : World) (R : Ending → World → Prop) : Prop :=
  callW Try.prog (.func (.func 65) #[] #[]) [t0] w fun t9 w =>
  unQ .not t9 fun t10 =>
  condW t10 (
    R (.returned (.tuple #[(.int .i64 0), (.int .i64 0), (.int .i64 2)])) w
  ) (
    Join (fun (k_2 : Value → Value → World → Prop) =>
      S37L0 t0 k_2 w
    ) fun t5 t6 w =>
    binQ Try.prog w .gtr 3 true t5 (.int .i64 4) fun t39_2 =>
    condW t39_2 (
      R (.returned (.tuple #[(.int .i64 0), (.int .i64 0), (.int .i64 10)])) w
    ) (
      R (.returned (.tuple #[t5, t6, (.int .i64 0)])) w
    )
  )

def A37 : Ann where
  live := fun
    | 0 => [5, 6, 7]
    | 2 => [5, 6]
    | _ => []
  wr := fun
    | 0 => fun i => (Nat.ble 5 i && Nat.ble i 7) || (Nat.ble 11 i && Nat.ble i 37)
    | 2 => fun i => (Nat.ble 5 i && Nat.ble i 6) || (Nat.ble 15 i && Nat.ble i 37)
    | _ => fun _ => false
  sched := fun _ => .done

set_option maxRecDepth 100000 in
theorem ok37 : (codeOkS Try.f37.ntmps A37 (Try.f37.body.getD .skip) 0 && Nat.ble 1 Try.f37.ntmps) = true := by kernel_rfl
set_option maxRecDepth 100000 in
theorem lift37 {t0 : Value} {w : World} {R : Ending → World → Prop} (h : S37 t0 w R) : Calls Try.prog 37 #[t0] w R :=
  calls_of_cwS (fn := Try.f37) (c := Try.f37.body.getD .skip) A37 mixes Try.func37 (by kernel_rfl) ok37
    ((by kernel_rfl : (S37 t0 w R) = cwS Try.prog A37 (Try.f37.body.getD .skip) 0 (bodyQ Try.prog Try.f37 R) (frOf #[t0]) w).mp h)

theorem fok37 : fnOk Try.prog 37 = true := by kernel_rfl
end Go.Proofs.Ytgalbokmgffhkaa
