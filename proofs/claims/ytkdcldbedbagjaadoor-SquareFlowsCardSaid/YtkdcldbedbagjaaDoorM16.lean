/- Texts of my own, merged by program: Se Xa Xb. -/
import Derived.Test.YtkdcldbedbagjaaDoorM02
import Derived.Test.YtkdcldbedbagjaaDoorM15
set_option linter.all false
/- Lifted texts, printed by program (gen.py): what each function's code asks. The ties are by the kernel. -/
namespace Go.Proofs.YtkdcldbedbagjaaDoor
open Go.Lf Go.RowKit

def S35L0 (t0 t1 : Value) (R : Ending → World → Prop) (w : World) : Prop :=
  Loop5 t0 t1 (.slice none 0 0) (.int .i64 0) (.int .i64 0) w fun _ t0_2 t1_2 t6 t7 t8 w next =>
    binQ Tryd.prog w .gtr 3 true t0_2 (.int .i64 0) fun t15 =>
    gd t15 true (fun k => k t1_2 w) w fun t17 w =>
    gd t15 true (fun k => binQ Tryd.prog w .gtr 3 true t17 (.int .i64 0) fun v => k v w) w fun t18 w =>
    pickQ t15 t18 (.bool false) fun t19 =>
    condW t19 (
      ln1 t6 fun t21 =>
      binQ Tryd.prog w .eql 3 true t21 (.int .i64 16) fun t22 =>
      condW t22 (
        R (.returned (.tuple #[(.slice none 0 0), (.int .i64 8)])) w
      ) (
        mnQ false [t0_2, t1_2] fun t25 =>
        bdQ Tryd.prog 44 [(0, t7), (1, t8), (2, t25)] fun t30 =>
        bsW Tryd.prog 22 1 [(0, t30)] w fun t31 w =>
        semW Tryd.prog (apS [22, 22] 22 [t6, t31]) w fun t32 w =>
        binQ Tryd.prog w .gtr 3 false t0_2 t1_2 fun t35 =>
        condW t35 (
          binQ Tryd.prog w .add 3 false t7 t25 fun t38 =>
          binQ Tryd.prog w .sub 3 false t0_2 t25 fun t41 =>
          next t41 t1_2 t32 t38 t8 w
        ) (
          binQ Tryd.prog w .add 3 false t8 t25 fun t44 =>
          binQ Tryd.prog w .sub 3 false t1_2 t25 fun t47 =>
          next t0_2 t47 t32 t7 t44 w
        )
      )
    ) (
      R (.returned (.tuple #[t6, (.int .i64 0)])) w
    )

def S35 (t0 t1 : Value) (w : World) (R : Ending → World → Prop) : Prop :=
  callW Tryd.prog (.func (.func 44) #[] #[]) [t0, t1] w fun t12 w =>
  unQ .not t12 fun t13 =>
  condW t13 (
    R (.returned (.tuple #[(.slice none 0 0), (.int .i64 2)])) w
  ) (
    S35L0 t0 t1 R w
  )

def A35 : Ann where
  live := fun
    | 0 => [0, 1, 6, 7, 8]
    | _ => []
  wr := fun
    | 0 => fun i => (Nat.ble 0 i && Nat.ble i 1) || (Nat.ble 4 i && Nat.ble i 9) || (Nat.ble 14 i && Nat.ble i 47)
    | _ => fun _ => false
  sched := fun _ => .done

set_option maxRecDepth 100000 in
theorem ok35 : (codeOk Tryd.f35.ntmps A35 (Tryd.f35.body.getD .skip) 0 && Nat.ble 2 Tryd.f35.ntmps) = true := by kernel_rfl
set_option maxRecDepth 100000 in
theorem lift35 {t0 t1 : Value} {w : World} {R : Ending → World → Prop} (h : S35 t0 t1 w R) : Calls Tryd.prog 35 #[t0, t1] w R :=
  calls_of_cw (fn := Tryd.f35) (c := Tryd.f35.body.getD .skip) A35 mixes Tryd.func35 (by kernel_rfl) ok35
    ((by kernel_rfl : (S35 t0 t1 w R) = cw Tryd.prog A35 (Tryd.f35.body.getD .skip) 0 (bodyQ Tryd.prog Tryd.f35 R) (frOf #[t0, t1]) w).mp h)

def S44 (t0 t1 : Value) (w : World) (R : Ending → World → Prop) : Prop :=
  binQ Tryd.prog w .geq 3 true t0 (.int .i64 1) fun t6 =>
  gd t6 true (fun k => k t0 w) w fun t8 w =>
  gd t6 true (fun k => binQ Tryd.prog w .leq 3 true t8 (.int .i64 1000) fun v => k v w) w fun t9 w =>
  pickQ t6 t9 (.bool false) fun t10 =>
  gd t10 true (fun k => k t1 w) w fun t12 w =>
  gd t10 true (fun k => binQ Tryd.prog w .geq 3 true t12 (.int .i64 1) fun v => k v w) w fun t13 w =>
  pickQ t10 t13 (.bool false) fun t14 =>
  gd t14 true (fun k => k t1 w) w fun t16 w =>
  gd t14 true (fun k => binQ Tryd.prog w .leq 3 true t16 (.int .i64 1000) fun v => k v w) w fun t17 w =>
  pickQ t14 t17 (.bool false) fun t18 =>
  R (.returned t18) w

def A44 : Ann where
  live := fun _ => []
  wr := fun _ _ => false
  sched := fun _ => .done

set_option maxRecDepth 100000 in
theorem ok44 : (codeOk Tryd.f44.ntmps A44 (Tryd.f44.body.getD .skip) 0 && Nat.ble 2 Tryd.f44.ntmps) = true := by kernel_rfl
set_option maxRecDepth 100000 in
theorem lift44 {t0 t1 : Value} {w : World} {R : Ending → World → Prop} (h : S44 t0 t1 w R) : Calls Tryd.prog 44 #[t0, t1] w R :=
  calls_of_cw (fn := Tryd.f44) (c := Tryd.f44.body.getD .skip) A44 mixes Tryd.func44 (by kernel_rfl) ok44
    ((by kernel_rfl : (S44 t0 t1 w R) = cw Tryd.prog A44 (Tryd.f44.body.getD .skip) 0 (bodyQ Tryd.prog Tryd.f44 R) (frOf #[t0, t1]) w).mp h)

def S8 (t0 t1 : Value) (w : World) (R : Ending → World → Prop) : Prop :=
  callW Tryd.prog (.func (.func 34) #[] #[]) [t0, t1] w fun t12 w =>
  exQ t12 0 fun t13 =>
  exQ t12 1 fun t14 =>
  callW Tryd.prog (.func (.func 35) #[] #[]) [t0, t1] w fun t18 w =>
  exQ t18 0 fun t19 =>
  exQ t18 1 fun t20 =>
  callW Tryd.prog (.func (.func 20) #[] #[]) [t13, t19] w fun t23 w =>
  gd t23 true (fun k => k t14 w) w fun t25 w =>
  gd t23 true (fun k => k t20 w) w fun t26 w =>
  gd t23 true (fun k => binQ Tryd.prog w .eql 24 false t25 t26 fun v => k v w) w fun t27 w =>
  pickQ t23 t27 (.bool false) fun t28 =>
  gd t28 true (fun k => callW Tryd.prog (.func (.func 14) #[] #[]) [] w k) w fun t30 w =>
  pickQ t28 t30 (.bool false) fun t31 =>
  R (.returned t31) w

def A8 : Ann where
  live := fun _ => []
  wr := fun _ _ => false
  sched := fun _ => .done

set_option maxRecDepth 100000 in
theorem ok8 : (codeOk Tryd.f8.ntmps A8 (Tryd.f8.body.getD .skip) 0 && Nat.ble 2 Tryd.f8.ntmps) = true := by kernel_rfl
set_option maxRecDepth 100000 in
theorem lift8 {t0 t1 : Value} {w : World} {R : Ending → World → Prop} (h : S8 t0 t1 w R) : Calls Tryd.prog 8 #[t0, t1] w R :=
  calls_of_cw (fn := Tryd.f8) (c := Tryd.f8.body.getD .skip) A8 mixes Tryd.func8 (by kernel_rfl) ok8
    ((by kernel_rfl : (S8 t0 t1 w R) = cw Tryd.prog A8 (Tryd.f8.body.getD .skip) 0 (bodyQ Tryd.prog Tryd.f8 R) (frOf #[t0, t1]) w).mp h)

def S9L1 (t0 t1 t16 : Value) (R : Ending → World → Prop) (w : World) : Prop :=
  Loop2 t0 t1 w fun _ t10 t11 w next_2 =>
    binQ Tryd.prog w .neq 3 true t11 (.int .i64 0) fun t73 =>
    condW t73 (
      Drew w fun w =>
      binQ Tryd.prog w .rem 3 false t10 t11 fun t77 =>
      next_2 t11 t77 w
    ) (
      ln1 t16 fun t80 =>
      binQ Tryd.prog w .sub 3 true t80 (.int .i64 1) fun t81 =>
      iaS 3 t16 t81 fun t82 =>
      fa1 t82 2 fun t83 =>
      ld1 w t83 fun t84 =>
      binQ Tryd.prog w .eql 3 false t84 t10 fun t86 =>
      gd t86 true (fun k => callW Tryd.prog (.func (.func 14) #[] #[]) [] w k) w fun t88 w =>
      pickQ t86 t88 (.bool false) fun t89 =>
      R (.returned t89) w
    )

def S9L0 (t0 t1 t16 : Value) (R : Ending → World → Prop) (w : World) : Prop :=
  Loop1 (.int .i64 1) w fun _ t9 w next =>
    ln1 t16 fun t54 =>
    binQ Tryd.prog w .lss 3 false t9 t54 fun t55 =>
    condW t55 (
      Drew w fun w =>
      iaS 3 t16 t9 fun t60 =>
      fa1 t60 2 fun t61 =>
      ld1 w t61 fun t62 =>
      binQ Tryd.prog w .sub 3 true t9 (.int .i64 1) fun t65 =>
      iaS 3 t16 t65 fun t66 =>
      fa1 t66 2 fun t67 =>
      ld1 w t67 fun t68 =>
      binQ Tryd.prog w .gtr 3 false t62 t68 fun t69 =>
      condW t69 (
        R (.returned (.bool false)) w
      ) (
        binQ Tryd.prog w .add 3 true t9 (.int .i64 1) fun t57 =>
        next t57 w
      )
    ) (
      S9L1 t0 t1 t16 R w
    )

def S9 (t0 t1 : Value) (w : World) (R : Ending → World → Prop) : Prop :=
  callW Tryd.prog (.func (.func 34) #[] #[]) [t0, t1] w fun t15 w =>
  exQ t15 0 fun t16 =>
  exQ t15 1 fun t17 =>
  binQ Tryd.prog w .neq 24 true t17 (.int .i64 0) fun t19 =>
  condW t19 (
    binQ Tryd.prog w .eql 24 true t17 (.int .i64 2) fun t21 =>
    gd t21 false (fun k => k t17 w) w fun t23 w =>
    gd t21 false (fun k => binQ Tryd.prog w .eql 24 true t23 (.int .i64 8) fun v => k v w) w fun t24 w =>
    pickQ t21 (.bool true) t24 fun t25 =>
    gd t25 true (fun k => k t16 w) w fun t27 w =>
    gd t25 true (fun k => ln1 t27 fun v => k v w) w fun t28 w =>
    gd t25 true (fun k => binQ Tryd.prog w .eql 3 true t28 (.int .i64 0) fun v => k v w) w fun t29 w =>
    pickQ t25 t29 (.bool false) fun t30 =>
    gd t30 true (fun k => callW Tryd.prog (.func (.func 14) #[] #[]) [] w k) w fun t32 w =>
    pickQ t30 t32 (.bool false) fun t33 =>
    R (.returned t33) w
  ) (
    callW Tryd.prog (.func (.func 15) #[] #[]) [t0, t1, t16] w fun t38 w =>
    exQ t38 0 fun t39 =>
    exQ t38 1 fun t40 =>
    binQ Tryd.prog w .neq 24 true t40 (.int .i64 0) fun t42 =>
    gd t42 false (fun k => k t39 w) w fun t44 w =>
    gd t42 false (fun k => unQ .not t44 fun v => k v w) w fun t45 w =>
    pickQ t42 (.bool true) t45 fun t46 =>
    gd t46 false (fun k => k t16 w) w fun t48 w =>
    gd t46 false (fun k => ln1 t48 fun v => k v w) w fun t49 w =>
    gd t46 false (fun k => binQ Tryd.prog w .eql 3 true t49 (.int .i64 0) fun v => k v w) w fun t50 w =>
    pickQ t46 (.bool true) t50 fun t51 =>
    condW t51 (
      R (.returned (.bool false)) w
    ) (
      S9L0 t0 t1 t16 R w
    )
  )

def A9 : Ann where
  live := fun
    | 0 => [9]
    | 2 => [10, 11]
    | _ => []
  wr := fun
    | 0 => fun i => Nat.beq i 4 || Nat.beq i 9 || (Nat.ble 52 i && Nat.ble i 69)
    | 2 => fun i => (Nat.ble 10 i && Nat.ble i 11) || (Nat.ble 72 i && Nat.ble i 77)
    | _ => fun _ => false
  sched := fun
    | 10 => (.take 0 (.take 1 (.take 2 (.take 3 (.take 4 (.take 5 (.take 6 (.take 7 (.take 8 (.take 9 (.take 10 (.take 11 .done))))))))))))
    | 14 => (.take 0 (.take 1 (.take 2 (.take 3 (.take 4 (.take 5 .done))))))
    | _ => .done

set_option maxRecDepth 100000 in
theorem ok9 : (codeOk Tryd.f9.ntmps A9 (Tryd.f9.body.getD .skip) 0 && Nat.ble 2 Tryd.f9.ntmps) = true := by kernel_rfl
set_option maxRecDepth 100000 in
theorem lift9 {t0 t1 : Value} {w : World} {R : Ending → World → Prop} (h : S9 t0 t1 w R) : Calls Tryd.prog 9 #[t0, t1] w R :=
  calls_of_cw (fn := Tryd.f9) (c := Tryd.f9.body.getD .skip) A9 mixes Tryd.func9 (by kernel_rfl) ok9
    ((by kernel_rfl : (S9 t0 t1 w R) = cw Tryd.prog A9 (Tryd.f9.body.getD .skip) 0 (bodyQ Tryd.prog Tryd.f9 R) (frOf #[t0, t1]) w).mp h)

theorem fok35 : fnOk Tryd.prog 35 = true := by kernel_rfl
theorem fok44 : fnOk Tryd.prog 44 = true := by kernel_rfl
theorem fok8 : fnOk Tryd.prog 8 = true := by kernel_rfl
theorem fok9 : fnOk Tryd.prog 9 = true := by kernel_rfl
end Go.Proofs.YtkdcldbedbagjaaDoor

/- Contracts: Cut of the program and of the reference; sheet. -/
namespace Go.Proofs.YtkdcldbedbagjaaDoor
open Go.Lf Go.RowKit Go.Dt

/-- The greatest squares that are cut from what is left, at most k. -/
def cutF : Nat → Int → Int → Int → Int → Option (List T3)
  | 0, _, _, w, h => if 0 < w ∧ 0 < h then none else some []
  | k + 1, x, y, w, h => if 0 < w ∧ 0 < h then
      (if h < w then cutF k (x + min w h) y (w - min w h) h else cutF k x (y + min w h) w (h - min w h)).map fun l => (x, y, min w h) :: l
    else some []
def cutS (W H : Int) : List T3 := if rectB W && rectB H then (cutF 16 0 0 W H).getD [] else []
def cutE (W H : Int) : Int := if rectB W && rectB H then (if (cutF 16 0 0 W H).isSome then 0 else 8) else 2

set_option maxRecDepth 100000 in
theorem r_pushS {base : Nat} {w : World} {v : Value} {P : List T3} {p : T3} {K : Value → World → Prop} (h : SqAt base w v P) (hn : P.length + 1 ≤ 1000000) (hb : base ≤ w.heap.size)
    (hk : ∀ v' w', SqAt base w' v' (P ++ [p]) → Chg (fun k => v.ownBlock = some k) w w' → K v' w') :
    bsW Tryd.prog 22 1 [(0, t3V p)] w fun s w => semW Tryd.prog (apS [22, 22] 22 [v, s]) w K :=
  r_pushRec (x := p) (xv := t3V p) (ty := 22) (K := K) slt22 t3C_len rfl (bs22 p _) (t3C_one _) (by omega) h hn hb fun v' w' o1 c1 _ => hk v' w' o1 c1

theorem cutF_pos {k : Nat} {x y w h : Int} (g : 0 < w ∧ 0 < h) : cutF (k + 1) x y w h = (if h < w then cutF k (x + min w h) y (w - min w h) h else cutF k x (y + min w h) w (h - min w h)).map fun l => (x, y, min w h) :: l := if_pos g
theorem map_map_app {α : Type} (o : Option (List α)) (P : List α) (a : α) : (o.map fun l => a :: l).map (P ++ ·) = o.map ((P ++ [a]) ++ ·) := by
  cases o <;> simp
theorem map_app_nil {α : Type} (o : Option (List α)) : o.map (([] : List α) ++ ·) = o := by cases o <;> simp

set_option maxRecDepth 100000 in
theorem Cut_calls (W H : Int) (w : World) : Calls Tryd.prog 34 #[.int .i64 W, .int .i64 H] w fun e w' => Kp w w' ∧ ∃ v, e = .returned (.tuple #[v, .int .i64 (cutE W H)]) ∧ SqAt w.heap.size w' v (cutS W H) := by
  refine lift34 ?_
  unfold S34
  refine r_use fok42 (rect_calls W w) rfl ?_
  rintro _ _ ⟨rfl, rfl⟩
  refine ⟨_, rfl, ?_⟩
  cases hW : rectB W with
  | false =>
    have hE : cutE W H = 2 := by unfold cutE; rw [hW]; rfl
    have hS : cutS W H = [] := by unfold cutS; rw [hW]; rfl
    rw [hE, hS]
    simp (disch := omega) only [r_ln, r_pick, r_pickT, r_pickF, r_condT, r_condF, r_gdTT, r_gdFF, r_gdTF, r_gdFT, r_gqTT, r_gqFF, r_gqTF, r_gqFT, r_not, r_lss, r_leq, r_gtr, r_geq, r_eql, r_neq, r_add, r_sub, r_min2, r_max2, r_min3, r_max3, r_fa, r_iaS, r_iaA, r_ex2a, r_ex2b, r_ex3a, r_ex3b, r_ex3c, r_nc, r_keepE, Nat.zero_add, Nat.add_zero, Nat.mul_one, Int.toNat_natCast, toNat_sub1, toNat_add1, decide_true, decide_false, Bool.not_true, Bool.not_false, if_true, if_false, Bool.false_eq_true, reduceCtorEq, r_gdU]
    exact ⟨Kp.refl _, _, rfl, RecAt.nil⟩
  | true =>
  simp (disch := omega) only [r_ln, r_pick, r_pickT, r_pickF, r_condT, r_condF, r_gdTT, r_gdFF, r_gdTF, r_gdFT, r_gqTT, r_gqFF, r_gqTF, r_gqFT, r_not, r_lss, r_leq, r_gtr, r_geq, r_eql, r_neq, r_add, r_sub, r_min2, r_max2, r_min3, r_max3, r_fa, r_iaS, r_iaA, r_ex2a, r_ex2b, r_ex3a, r_ex3b, r_ex3c, r_nc, r_keepE, Nat.zero_add, Nat.add_zero, Nat.mul_one, Int.toNat_natCast, toNat_sub1, toNat_add1, decide_true, decide_false, Bool.not_true, Bool.not_false, if_true, if_false, Bool.false_eq_true, reduceCtorEq, r_gdU]
  refine r_use fok42 (rect_calls H w) rfl ?_
  rintro _ _ ⟨rfl, rfl⟩
  refine ⟨_, rfl, ?_⟩
  cases hH : rectB H with
  | false =>
    have hE : cutE W H = 2 := by unfold cutE; rw [hW, hH]; rfl
    have hS : cutS W H = [] := by unfold cutS; rw [hW, hH]; rfl
    rw [hE, hS]
    simp (disch := omega) only [r_ln, r_pick, r_pickT, r_pickF, r_condT, r_condF, r_gdTT, r_gdFF, r_gdTF, r_gdFT, r_gqTT, r_gqFF, r_gqTF, r_gqFT, r_not, r_lss, r_leq, r_gtr, r_geq, r_eql, r_neq, r_add, r_sub, r_min2, r_max2, r_min3, r_max3, r_fa, r_iaS, r_iaA, r_ex2a, r_ex2b, r_ex3a, r_ex3b, r_ex3c, r_nc, r_keepE, Nat.zero_add, Nat.add_zero, Nat.mul_one, Int.toNat_natCast, toNat_sub1, toNat_add1, decide_true, decide_false, Bool.not_true, Bool.not_false, if_true, if_false, Bool.false_eq_true, reduceCtorEq, r_gdU]
    exact ⟨Kp.refl _, _, rfl, RecAt.nil⟩
  | true =>
  simp (disch := omega) only [r_ln, r_pick, r_pickT, r_pickF, r_condT, r_condF, r_gdTT, r_gdFF, r_gdTF, r_gdFT, r_gqTT, r_gqFF, r_gqTF, r_gqFT, r_not, r_lss, r_leq, r_gtr, r_geq, r_eql, r_neq, r_add, r_sub, r_min2, r_max2, r_min3, r_max3, r_fa, r_iaS, r_iaA, r_ex2a, r_ex2b, r_ex3a, r_ex3b, r_ex3c, r_nc, r_keepE, Nat.zero_add, Nat.add_zero, Nat.mul_one, Int.toNat_natCast, toNat_sub1, toNat_add1, decide_true, decide_false, Bool.not_true, Bool.not_false, if_true, if_false, Bool.false_eq_true, reduceCtorEq, r_gdU]
  have hE : cutE W H = if (cutF 16 0 0 W H).isSome then 0 else 8 := by unfold cutE; rw [hW, hH]; rfl
  have hS : cutS W H = (cutF 16 0 0 W H).getD [] := by unfold cutS; rw [hW, hH]; rfl
  have bW := of_decide_eq_true hW
  have bH := of_decide_eq_true hH
  rw [hE, hS]
  unfold S34L0
  refine ⟨fun t6 t7 t8 wr => ∃ (P : List T3) (k : Nat) (x y : Int), t7 = .int .i64 x ∧ t8 = .int .i64 y ∧ P.length + k = 16 ∧ 0 ≤ x ∧ x ≤ W ∧ 0 ≤ y ∧ y ≤ H ∧
      cutF 16 0 0 W H = (cutF k x y (W - x) (H - y)).map (P ++ ·) ∧ SqAt w.heap.size wr t6 P ∧ Kp w wr,
    fun _ t7 t8 _ => (W - intOf t7).toNat + (H - intOf t8).toNat, ⟨[], 16, 0, 0, rfl, rfl, rfl, by omega, by omega, by omega, by omega, by rw [map_app_nil]; simp, RecAt.nil, Kp.refl _⟩, ?_⟩
  rintro _ t6 _ _ wr ⟨P, k, x, y, rfl, rfl, hk, x0, x1, y0, y1, hF, hP, kr⟩
  obtain ⟨pa, pc, ep, _⟩ := hP.len
  have ln6 : ∀ K : Value → Prop, ln1 t6 K = K (.int .i64 P.length) := fun K => by rw [ep]; rfl
  have hsz := kr.size
  have mn : ∀ (a b : Int) (K : Value → Prop), mnQ false [.int .i64 a, .int .i64 b] K = K (.int .i64 (min a b)) := fun a b K => r_min2 _ _ _
  have stop : ¬ (0 < W - x ∧ 0 < H - y) → cutF 16 0 0 W H = some P := fun h => by
    rw [hF]
    cases k <;> (unfold cutF; rw [if_neg h]; simp)
  by_cases hx : x < W
  case neg =>
    rw [stop (by omega)]
    simp (disch := omega) only [r_ln, r_pick, r_pickT, r_pickF, r_condT, r_condF, r_gdTT, r_gdFF, r_gdTF, r_gdFT, r_gqTT, r_gqFF, r_gqTF, r_gqFT, r_not, r_lss, r_leq, r_gtr, r_geq, r_eql, r_neq, r_add, r_sub, r_min2, r_max2, r_min3, r_max3, r_fa, r_iaS, r_iaA, r_ex2a, r_ex2b, r_ex3a, r_ex3b, r_ex3c, r_nc, r_keepE, Nat.zero_add, Nat.add_zero, Nat.mul_one, Int.toNat_natCast, toNat_sub1, toNat_add1, decide_true, decide_false, Bool.not_true, Bool.not_false, if_true, if_false, Bool.false_eq_true, reduceCtorEq, r_gdU, hx]
    exact ⟨kr, _, rfl, hP⟩
  by_cases hy : y < H
  case neg =>
    rw [stop (by omega)]
    simp (disch := omega) only [r_ln, r_pick, r_pickT, r_pickF, r_condT, r_condF, r_gdTT, r_gdFF, r_gdTF, r_gdFT, r_gqTT, r_gqFF, r_gqTF, r_gqFT, r_not, r_lss, r_leq, r_gtr, r_geq, r_eql, r_neq, r_add, r_sub, r_min2, r_max2, r_min3, r_max3, r_fa, r_iaS, r_iaA, r_ex2a, r_ex2b, r_ex3a, r_ex3b, r_ex3c, r_nc, r_keepE, Nat.zero_add, Nat.add_zero, Nat.mul_one, Int.toNat_natCast, toNat_sub1, toNat_add1, decide_true, decide_false, Bool.not_true, Bool.not_false, if_true, if_false, Bool.false_eq_true, reduceCtorEq, r_gdU, hx, hy]
    exact ⟨kr, _, rfl, hP⟩
  match k, hk, hF with
  | 0, hk, hF =>
    have h16 : (P.length : Int) = 16 := by omega
    rw [show cutF 16 0 0 W H = none by rw [hF]; unfold cutF; rw [if_pos (by omega)]; rfl]
    simp (disch := omega) only [r_ln, r_pick, r_pickT, r_pickF, r_condT, r_condF, r_gdTT, r_gdFF, r_gdTF, r_gdFT, r_gqTT, r_gqFF, r_gqTF, r_gqFT, r_not, r_lss, r_leq, r_gtr, r_geq, r_eql, r_neq, r_add, r_sub, r_min2, r_max2, r_min3, r_max3, r_fa, r_iaS, r_iaA, r_ex2a, r_ex2b, r_ex3a, r_ex3b, r_ex3c, r_nc, r_keepE, Nat.zero_add, Nat.add_zero, Nat.mul_one, Int.toNat_natCast, toNat_sub1, toNat_add1, decide_true, decide_false, Bool.not_true, Bool.not_false, if_true, if_false, Bool.false_eq_true, reduceCtorEq, r_gdU, hx, hy, ln6, h16]
    exact ⟨kr, _, rfl, RecAt.nil⟩
  | k + 1, hk, hF =>
  have h16 : ¬ (P.length : Int) = 16 := by omega
  rw [cutF_pos (k := k) (by omega)] at hF
  simp (disch := omega) only [r_ln, r_pick, r_pickT, r_pickF, r_condT, r_condF, r_gdTT, r_gdFF, r_gdTF, r_gdFT, r_gqTT, r_gqFF, r_gqTF, r_gqFT, r_not, r_lss, r_leq, r_gtr, r_geq, r_eql, r_neq, r_add, r_sub, r_min2, r_max2, r_min3, r_max3, r_fa, r_iaS, r_iaA, r_ex2a, r_ex2b, r_ex3a, r_ex3b, r_ex3c, r_nc, r_keepE, Nat.zero_add, Nat.add_zero, Nat.mul_one, Int.toNat_natCast, toNat_sub1, toNat_add1, decide_true, decide_false, Bool.not_true, Bool.not_false, if_true, if_false, Bool.false_eq_true, reduceCtorEq, r_gdU, hx, hy, ln6, h16, mn]
  rw [bd44]
  refine r_pushS hP (by omega) (by omega) fun v' w' o1 c1 => ?_
  have k1 : Kp w w' := Kp.of_chg kr c1 fun q hq => (hP.lt hq).1
  by_cases hgt : H - y < W - x
  · have hm : min (W - x) (H - y) = H - y := by omega
    rw [if_pos hgt, map_map_app] at hF
    simp (disch := omega) only [r_ln, r_pick, r_pickT, r_pickF, r_condT, r_condF, r_gdTT, r_gdFF, r_gdTF, r_gdFT, r_gqTT, r_gqFF, r_gqTF, r_gqFT, r_not, r_lss, r_leq, r_gtr, r_geq, r_eql, r_neq, r_add, r_sub, r_min2, r_max2, r_min3, r_max3, r_fa, r_iaS, r_iaA, r_ex2a, r_ex2b, r_ex3a, r_ex3b, r_ex3c, r_nc, r_keepE, Nat.zero_add, Nat.add_zero, Nat.mul_one, Int.toNat_natCast, toNat_sub1, toNat_add1, decide_true, decide_false, Bool.not_true, Bool.not_false, if_true, if_false, Bool.false_eq_true, reduceCtorEq, hgt, hm]
    refine ⟨⟨P ++ [_], k, x + (H - y), y, rfl, rfl, by simp; omega, by omega, by omega, by omega, by omega, ?_, by rw [hm] at o1; exact o1, k1⟩, by simp only [intOf]; omega⟩
    rw [hF, hm]
    congr 2
    omega
  · have hm : min (W - x) (H - y) = W - x := by omega
    rw [if_neg hgt, map_map_app] at hF
    simp (disch := omega) only [r_ln, r_pick, r_pickT, r_pickF, r_condT, r_condF, r_gdTT, r_gdFF, r_gdTF, r_gdFT, r_gqTT, r_gqFF, r_gqTF, r_gqFT, r_not, r_lss, r_leq, r_gtr, r_geq, r_eql, r_neq, r_add, r_sub, r_min2, r_max2, r_min3, r_max3, r_fa, r_iaS, r_iaA, r_ex2a, r_ex2b, r_ex3a, r_ex3b, r_ex3c, r_nc, r_keepE, Nat.zero_add, Nat.add_zero, Nat.mul_one, Int.toNat_natCast, toNat_sub1, toNat_add1, decide_true, decide_false, Bool.not_true, Bool.not_false, if_true, if_false, Bool.false_eq_true, reduceCtorEq, hgt, hm]
    refine ⟨⟨P ++ [_], k, x, y + (W - x), rfl, rfl, by simp; omega, by omega, by omega, by omega, by omega, ?_, by rw [hm] at o1; exact o1, k1⟩, by simp only [intOf]; omega⟩
    rw [hF, hm]
    congr 2
    omega

set_option maxRecDepth 100000 in
theorem sheet_calls (W H : Int) (w : World) : Calls Tryd.prog 44 #[.int .i64 W, .int .i64 H] w fun e w' => e = .returned (.bool (rectB W && rectB H)) ∧ w = w' := by
  refine lift44 ?_
  unfold S44
  unfold rectB
  by_cases a1 : 1 ≤ W <;> by_cases a2 : W ≤ 1000 <;> by_cases a3 : 1 ≤ H <;> by_cases a4 : H ≤ 1000 <;> simp [r_ln, r_pick, r_pickT, r_pickF, r_condT, r_condF, r_gdTT, r_gdFF, r_gdTF, r_gdFT, r_gqTT, r_gqFF, r_gqTF, r_gqFT, r_not, r_lss, r_leq, r_gtr, r_geq, r_eql, r_neq, r_add, r_sub, r_min2, r_max2, r_min3, r_max3, r_fa, r_iaS, r_iaA, r_ex2a, r_ex2b, r_ex3a, r_ex3b, r_ex3c, r_nc, r_keepE, Nat.zero_add, Nat.add_zero, Nat.mul_one, Int.toNat_natCast, toNat_sub1, toNat_add1, decide_true, decide_false, Bool.not_true, Bool.not_false, if_true, if_false, Bool.false_eq_true, reduceCtorEq, r_gdU, a1, a2, a3, a4]

set_option maxRecDepth 100000 in
theorem rCut_calls (W H : Int) (w : World) : Calls Tryd.prog 35 #[.int .i64 W, .int .i64 H] w fun e w' => Kp w w' ∧ ∃ v, e = .returned (.tuple #[v, .int .i64 (cutE W H)]) ∧ SqAt w.heap.size w' v (cutS W H) := by
  refine lift35 ?_
  unfold S35
  refine r_use fok44 (sheet_calls W H w) rfl ?_
  rintro _ _ ⟨rfl, rfl⟩
  refine ⟨_, rfl, ?_⟩
  cases hB : rectB W && rectB H with
  | false =>
    have hE : cutE W H = 2 := by unfold cutE; rw [hB]; rfl
    have hS : cutS W H = [] := by unfold cutS; rw [hB]; rfl
    rw [hE, hS]
    simp (disch := omega) only [r_ln, r_pick, r_pickT, r_pickF, r_condT, r_condF, r_gdTT, r_gdFF, r_gdTF, r_gdFT, r_gqTT, r_gqFF, r_gqTF, r_gqFT, r_not, r_lss, r_leq, r_gtr, r_geq, r_eql, r_neq, r_add, r_sub, r_min2, r_max2, r_min3, r_max3, r_fa, r_iaS, r_iaA, r_ex2a, r_ex2b, r_ex3a, r_ex3b, r_ex3c, r_nc, r_keepE, Nat.zero_add, Nat.add_zero, Nat.mul_one, Int.toNat_natCast, toNat_sub1, toNat_add1, decide_true, decide_false, Bool.not_true, Bool.not_false, if_true, if_false, Bool.false_eq_true, reduceCtorEq, r_gdU]
    exact ⟨Kp.refl _, _, rfl, RecAt.nil⟩
  | true =>
  simp (disch := omega) only [r_ln, r_pick, r_pickT, r_pickF, r_condT, r_condF, r_gdTT, r_gdFF, r_gdTF, r_gdFT, r_gqTT, r_gqFF, r_gqTF, r_gqFT, r_not, r_lss, r_leq, r_gtr, r_geq, r_eql, r_neq, r_add, r_sub, r_min2, r_max2, r_min3, r_max3, r_fa, r_iaS, r_iaA, r_ex2a, r_ex2b, r_ex3a, r_ex3b, r_ex3c, r_nc, r_keepE, Nat.zero_add, Nat.add_zero, Nat.mul_one, Int.toNat_natCast, toNat_sub1, toNat_add1, decide_true, decide_false, Bool.not_true, Bool.not_false, if_true, if_false, Bool.false_eq_true, reduceCtorEq, r_gdU]
  have hE : cutE W H = if (cutF 16 0 0 W H).isSome then 0 else 8 := by unfold cutE; rw [hB]; rfl
  have hS : cutS W H = (cutF 16 0 0 W H).getD [] := by unfold cutS; rw [hB]; rfl
  rw [Bool.and_eq_true] at hB
  have bW := of_decide_eq_true hB.1
  have bH := of_decide_eq_true hB.2
  rw [hE, hS]
  unfold S35L0
  refine ⟨fun t0 t1 t6 t7 t8 wr => ∃ (P : List T3) (k : Nat) (x y a b : Int), t0 = .int .i64 a ∧ t1 = .int .i64 b ∧ t7 = .int .i64 x ∧ t8 = .int .i64 y ∧ P.length + k = 16 ∧ 0 ≤ x ∧ x + a = W ∧ 0 ≤ a ∧ 0 ≤ y ∧ y + b = H ∧ 0 ≤ b ∧
      cutF 16 0 0 W H = (cutF k x y a b).map (P ++ ·) ∧ SqAt w.heap.size wr t6 P ∧ Kp w wr,
    fun t0 t1 _ _ _ _ => (intOf t0).toNat + (intOf t1).toNat, ⟨[], 16, 0, 0, W, H, rfl, rfl, rfl, rfl, rfl, by omega, by omega, by omega, by omega, by omega, by omega, by rw [map_app_nil], RecAt.nil, Kp.refl _⟩, ?_⟩
  rintro _ _ _ t6 _ _ wr ⟨P, k, x, y, a, b, rfl, rfl, rfl, rfl, hk, x0, x1, a0, y0, y1, b0, hF, hP, kr⟩
  obtain ⟨pa, pc, ep, _⟩ := hP.len
  have ln6 : ∀ K : Value → Prop, ln1 t6 K = K (.int .i64 P.length) := fun K => by rw [ep]; rfl
  have hsz := kr.size
  have mn : ∀ (a b : Int) (K : Value → Prop), mnQ false [.int .i64 a, .int .i64 b] K = K (.int .i64 (min a b)) := fun a b K => r_min2 _ _ _
  have stop : ¬ (0 < a ∧ 0 < b) → cutF 16 0 0 W H = some P := fun h => by
    rw [hF]
    cases k <;> (unfold cutF; rw [if_neg h]; simp)
  by_cases hx : 0 < a
  case neg =>
    rw [stop (by omega)]
    simp (disch := omega) only [r_ln, r_pick, r_pickT, r_pickF, r_condT, r_condF, r_gdTT, r_gdFF, r_gdTF, r_gdFT, r_gqTT, r_gqFF, r_gqTF, r_gqFT, r_not, r_lss, r_leq, r_gtr, r_geq, r_eql, r_neq, r_add, r_sub, r_min2, r_max2, r_min3, r_max3, r_fa, r_iaS, r_iaA, r_ex2a, r_ex2b, r_ex3a, r_ex3b, r_ex3c, r_nc, r_keepE, Nat.zero_add, Nat.add_zero, Nat.mul_one, Int.toNat_natCast, toNat_sub1, toNat_add1, decide_true, decide_false, Bool.not_true, Bool.not_false, if_true, if_false, Bool.false_eq_true, reduceCtorEq, r_gdU, hx]
    exact ⟨kr, _, rfl, hP⟩
  by_cases hy : 0 < b
  case neg =>
    rw [stop (by omega)]
    simp (disch := omega) only [r_ln, r_pick, r_pickT, r_pickF, r_condT, r_condF, r_gdTT, r_gdFF, r_gdTF, r_gdFT, r_gqTT, r_gqFF, r_gqTF, r_gqFT, r_not, r_lss, r_leq, r_gtr, r_geq, r_eql, r_neq, r_add, r_sub, r_min2, r_max2, r_min3, r_max3, r_fa, r_iaS, r_iaA, r_ex2a, r_ex2b, r_ex3a, r_ex3b, r_ex3c, r_nc, r_keepE, Nat.zero_add, Nat.add_zero, Nat.mul_one, Int.toNat_natCast, toNat_sub1, toNat_add1, decide_true, decide_false, Bool.not_true, Bool.not_false, if_true, if_false, Bool.false_eq_true, reduceCtorEq, r_gdU, hx, hy]
    exact ⟨kr, _, rfl, hP⟩
  match k, hk, hF with
  | 0, hk, hF =>
    have h16 : (P.length : Int) = 16 := by omega
    rw [show cutF 16 0 0 W H = none by rw [hF]; unfold cutF; rw [if_pos (by omega)]; rfl]
    simp (disch := omega) only [r_ln, r_pick, r_pickT, r_pickF, r_condT, r_condF, r_gdTT, r_gdFF, r_gdTF, r_gdFT, r_gqTT, r_gqFF, r_gqTF, r_gqFT, r_not, r_lss, r_leq, r_gtr, r_geq, r_eql, r_neq, r_add, r_sub, r_min2, r_max2, r_min3, r_max3, r_fa, r_iaS, r_iaA, r_ex2a, r_ex2b, r_ex3a, r_ex3b, r_ex3c, r_nc, r_keepE, Nat.zero_add, Nat.add_zero, Nat.mul_one, Int.toNat_natCast, toNat_sub1, toNat_add1, decide_true, decide_false, Bool.not_true, Bool.not_false, if_true, if_false, Bool.false_eq_true, reduceCtorEq, r_gdU, hx, hy, ln6, h16]
    exact ⟨kr, _, rfl, RecAt.nil⟩
  | k + 1, hk, hF =>
  have h16 : ¬ (P.length : Int) = 16 := by omega
  rw [cutF_pos (k := k) (by omega)] at hF
  simp (disch := omega) only [r_ln, r_pick, r_pickT, r_pickF, r_condT, r_condF, r_gdTT, r_gdFF, r_gdTF, r_gdFT, r_gqTT, r_gqFF, r_gqTF, r_gqFT, r_not, r_lss, r_leq, r_gtr, r_geq, r_eql, r_neq, r_add, r_sub, r_min2, r_max2, r_min3, r_max3, r_fa, r_iaS, r_iaA, r_ex2a, r_ex2b, r_ex3a, r_ex3b, r_ex3c, r_nc, r_keepE, Nat.zero_add, Nat.add_zero, Nat.mul_one, Int.toNat_natCast, toNat_sub1, toNat_add1, decide_true, decide_false, Bool.not_true, Bool.not_false, if_true, if_false, Bool.false_eq_true, reduceCtorEq, r_gdU, hx, hy, ln6, h16, mn]
  rw [bd44]
  refine r_pushS hP (by omega) (by omega) fun v' w' o1 c1 => ?_
  have k1 : Kp w w' := Kp.of_chg kr c1 fun q hq => (hP.lt hq).1
  by_cases hgt : b < a
  · have hm : min a b = b := by omega
    rw [if_pos hgt, map_map_app, hm] at hF
    rw [hm] at o1
    simp (disch := omega) only [r_ln, r_pick, r_pickT, r_pickF, r_condT, r_condF, r_gdTT, r_gdFF, r_gdTF, r_gdFT, r_gqTT, r_gqFF, r_gqTF, r_gqFT, r_not, r_lss, r_leq, r_gtr, r_geq, r_eql, r_neq, r_add, r_sub, r_min2, r_max2, r_min3, r_max3, r_fa, r_iaS, r_iaA, r_ex2a, r_ex2b, r_ex3a, r_ex3b, r_ex3c, r_nc, r_keepE, Nat.zero_add, Nat.add_zero, Nat.mul_one, Int.toNat_natCast, toNat_sub1, toNat_add1, decide_true, decide_false, Bool.not_true, Bool.not_false, if_true, if_false, Bool.false_eq_true, reduceCtorEq, hgt, hm]
    exact ⟨⟨P ++ [_], k, x + b, y, a - b, b, rfl, rfl, rfl, rfl, by simp; omega, by omega, by omega, by omega, by omega, by omega, by omega, hF, o1, k1⟩, by simp only [intOf]; omega⟩
  · have hm : min a b = a := by omega
    rw [if_neg hgt, map_map_app, hm] at hF
    rw [hm] at o1
    simp (disch := omega) only [r_ln, r_pick, r_pickT, r_pickF, r_condT, r_condF, r_gdTT, r_gdFF, r_gdTF, r_gdFT, r_gqTT, r_gqFF, r_gqTF, r_gqFT, r_not, r_lss, r_leq, r_gtr, r_geq, r_eql, r_neq, r_add, r_sub, r_min2, r_max2, r_min3, r_max3, r_fa, r_iaS, r_iaA, r_ex2a, r_ex2b, r_ex3a, r_ex3b, r_ex3c, r_nc, r_keepE, Nat.zero_add, Nat.add_zero, Nat.mul_one, Int.toNat_natCast, toNat_sub1, toNat_add1, decide_true, decide_false, Bool.not_true, Bool.not_false, if_true, if_false, Bool.false_eq_true, reduceCtorEq, hgt, hm]
    exact ⟨⟨P ++ [_], k, x, y + a, a, b - a, rfl, rfl, rfl, rfl, by simp; omega, by omega, by omega, by omega, by omega, by omega, by omega, hF, o1, k1⟩, by simp only [intOf]; omega⟩

theorem cut_len {k : Nat} : ∀ {x y w h : Int} {l : List T3}, cutF k x y w h = some l → l.length ≤ k := by
  induction k with
  | zero =>
    intro x y w h l e
    unfold cutF at e
    split at e
    · cases e
    · cases e; simp
  | succ k ih =>
    intro x y w h l e
    unfold cutF at e
    split at e
    · split at e <;>
      · rw [Option.map_eq_some_iff] at e
        obtain ⟨l', h1, rfl⟩ := e
        have := ih h1
        simp only [List.length_cons]
        omega
    · cases e; simp
theorem cutS_len (W H : Int) : (cutS W H).length ≤ 16 := by
  unfold cutS
  split
  · cases h : cutF 16 0 0 W H with
    | none => simp
    | some l => exact cut_len h
  · simp

set_option maxRecDepth 100000 in
theorem law_cuts (W H : Int) (w : World) (hw : Wh w) : Calls Tryd.prog 8 #[.int .i64 W, .int .i64 H] w fun e w' => e = .returned (.bool true) ∧ Kp w w' := by
  refine lift8 ?_
  unfold S8
  refine r_use fok34 (Cut_calls W H w) rfl ?_
  rintro _ w1 ⟨k1, v1, rfl, o1⟩
  refine ⟨_, rfl, ?_⟩
  rw [r_ex2a, r_ex2b]
  refine r_use fok35 (rCut_calls W H w1) rfl ?_
  rintro _ w2 ⟨k2, v2, rfl, o2⟩
  refine ⟨_, rfl, ?_⟩
  rw [r_ex2a, r_ex2b]
  have hl := cutS_len W H
  refine r_use fok20 (squares_calls w2 ((o1.kp k2).rd t3C_len) (o2.rd t3C_len) (by omega)) rfl ?_
  rintro _ w3 ⟨rfl, k3⟩
  refine ⟨_, rfl, ?_⟩
  have k03 := Kp.trans k1 (Kp.trans k2 k3)
  rw [decide_eq_true rfl]
  simp only [r_ln, r_pick, r_pickT, r_pickF, r_condT, r_condF, r_gdTT, r_gdFF, r_gdTF, r_gdFT, r_gqTT, r_gqFF, r_gqTF, r_gqFT, r_not, r_lss, r_leq, r_gtr, r_geq, r_eql, r_neq, r_add, r_sub, r_min2, r_max2, r_min3, r_max3, r_fa, r_iaS, r_iaA, r_ex2a, r_ex2b, r_ex3a, r_ex3b, r_ex3c, r_nc, r_keepE, Nat.zero_add, Nat.add_zero, Nat.mul_one, Int.toNat_natCast, toNat_sub1, toNat_add1, decide_true, decide_false, Bool.not_true, Bool.not_false, if_true, if_false, Bool.false_eq_true, reduceCtorEq]
  refine r_use fok14 (alive_calls w3 (hw.kp k03)) rfl ?_
  rintro _ w4 ⟨rfl, k4⟩
  refine ⟨_, rfl, ?_⟩
  exact ⟨rfl, Kp.trans k03 k4⟩

end Go.Proofs.YtkdcldbedbagjaaDoor

/- Cut is a dissection, its sides never grow, the last one is the greatest common divisor. -/
namespace Go.Proofs.YtkdcldbedbagjaaDoor
open Go.Lf Go.RowKit Go.Dt

theorem cutF_cases {k : Nat} {x y w h : Int} {l : List T3} (e : cutF k x y w h = some l) :
    (¬ (0 < w ∧ 0 < h) ∧ l = []) ∨ ((0 < w ∧ 0 < h) ∧ ∃ k' l', k = k' + 1 ∧ l = (x, y, min w h) :: l' ∧ ((h < w ∧ cutF k' (x + h) y (w - h) h = some l') ∨ (w ≤ h ∧ cutF k' x (y + w) w (h - w) = some l'))) := by
  cases k with
  | zero =>
    unfold cutF at e
    split at e
    · cases e
    · rename_i g; cases e; exact .inl ⟨g, rfl⟩
  | succ k =>
    by_cases g : 0 < w ∧ 0 < h
    · rw [cutF_pos g, Option.map_eq_some_iff] at e
      obtain ⟨l', e1, rfl⟩ := e
      refine .inr ⟨g, k, l', rfl, rfl, ?_⟩
      by_cases c : h < w
      · have hm : min w h = h := by omega
        rw [if_pos c, hm] at e1
        exact .inl ⟨c, e1⟩
      · have hm : min w h = w := by omega
        rw [if_neg c, hm] at e1
        exact .inr ⟨by omega, e1⟩
    · unfold cutF at e
      rw [if_neg g] at e
      cases e
      exact .inl ⟨g, rfl⟩

theorem cut_area : ∀ (n : Nat) {k : Nat} {x y w h : Int} {l : List T3}, l.length = n → 0 ≤ w → 0 ≤ h → cutF k x y w h = some l → area l = w * h
  | n, k, x, y, w, h, l, hn, w0, h0, e => by
    rcases cutF_cases e with ⟨g, rfl⟩ | ⟨g, k', l', rfl, rfl, ⟨c, e1⟩ | ⟨c, e1⟩⟩
    · have : w = 0 ∨ h = 0 := by omega
      rcases this with rfl | rfl <;> simp [area]
    · match n, hn with
      | n + 1, hn =>
        have ih := cut_area n (by simpa using hn) (by omega) (by omega) e1
        have hm : min w h = h := by omega
        simp only [area, ih, hm]
        rw [Int.sub_mul]; omega
    · match n, hn with
      | n + 1, hn =>
        have ih := cut_area n (by simpa using hn) (by omega) (by omega) e1
        have hm : min w h = w := by omega
        simp only [area, ih, hm]
        rw [Int.mul_sub]; omega

theorem cut_in : ∀ (n : Nat) {k : Nat} {x y w h : Int} {l : List T3}, l.length = n → 0 ≤ w → 0 ≤ h → cutF k x y w h = some l → ∀ s ∈ l, 1 ≤ s.2.2 ∧ x ≤ s.1 ∧ s.1 + s.2.2 ≤ x + w ∧ y ≤ s.2.1 ∧ s.2.1 + s.2.2 ≤ y + h
  | n, k, x, y, w, h, l, hn, w0, h0, e => by
    intro s hs
    rcases cutF_cases e with ⟨g, rfl⟩ | ⟨g, k', l', rfl, rfl, ⟨c, e1⟩ | ⟨c, e1⟩⟩
    · cases hs
    · match n, hn with
      | n + 1, hn =>
        rcases List.mem_cons.1 hs with rfl | hs
        · simp only; omega
        · have := cut_in n (by simpa using hn) (by omega) (by omega) e1 s hs
          omega
    · match n, hn with
      | n + 1, hn =>
        rcases List.mem_cons.1 hs with rfl | hs
        · simp only; omega
        · have := cut_in n (by simpa using hn) (by omega) (by omega) e1 s hs
          omega

theorem cut_apart : ∀ (n : Nat) {k : Nat} {x y w h : Int} {l : List T3}, l.length = n → 0 ≤ w → 0 ≤ h → cutF k x y w h = some l → l.Pairwise fun o s => overB s o = false
  | n, k, x, y, w, h, l, hn, w0, h0, e => by
    rcases cutF_cases e with ⟨g, rfl⟩ | ⟨g, k', l', rfl, rfl, ⟨c, e1⟩ | ⟨c, e1⟩⟩
    · exact List.Pairwise.nil
    · match n, hn with
      | n + 1, hn =>
        refine List.Pairwise.cons (fun s hs => ?_) (cut_apart n (by simpa using hn) (by omega) (by omega) e1)
        have := cut_in n (by simpa using hn) (by omega) (by omega) e1 s hs
        exact decide_eq_false fun q => by simp only at q; omega
    · match n, hn with
      | n + 1, hn =>
        refine List.Pairwise.cons (fun s hs => ?_) (cut_apart n (by simpa using hn) (by omega) (by omega) e1)
        have := cut_in n (by simpa using hn) (by omega) (by omega) e1 s hs
        exact decide_eq_false fun q => by simp only at q; omega

theorem cut_falls : ∀ (n : Nat) {k : Nat} {x y w h : Int} {l : List T3}, l.length = n → 0 ≤ w → 0 ≤ h → cutF k x y w h = some l → l.Pairwise fun o s => s.2.2 ≤ o.2.2
  | n, k, x, y, w, h, l, hn, w0, h0, e => by
    rcases cutF_cases e with ⟨g, rfl⟩ | ⟨g, k', l', rfl, rfl, ⟨c, e1⟩ | ⟨c, e1⟩⟩
    · exact List.Pairwise.nil
    · match n, hn with
      | n + 1, hn =>
        refine List.Pairwise.cons (fun s hs => ?_) (cut_falls n (by simpa using hn) (by omega) (by omega) e1)
        have := cut_in n (by simpa using hn) (by omega) (by omega) e1 s hs
        simp only; omega
    · match n, hn with
      | n + 1, hn =>
        refine List.Pairwise.cons (fun s hs => ?_) (cut_falls n (by simpa using hn) (by omega) (by omega) e1)
        have := cut_in n (by simpa using hn) (by omega) (by omega) e1 s hs
        simp only; omega

theorem cut_last : ∀ (n : Nat) {k : Nat} {x y w h : Int} {l : List T3}, l.length = n → 0 < w → 0 < h → cutF k x y w h = some l → ∃ s, l.getLast? = some s ∧ s.2.2 = (Int.gcd w h : Int)
  | n, k, x, y, w, h, l, hn, w0, h0, e => by
    rcases cutF_cases e with ⟨g, rfl⟩ | ⟨g, k', l', rfl, rfl, ⟨c, e1⟩ | ⟨c, e1⟩⟩
    · omega
    · match n, hn with
      | n + 1, hn =>
        obtain ⟨s, hs, e2⟩ := cut_last n (by simpa using hn) (by omega) (by omega) e1
        refine ⟨s, by rw [List.getLast?_cons, hs]; rfl, ?_⟩
        rw [e2, Int.gcd_sub_right_left_of_dvd w (Int.dvd_refl h)]
    · match n, hn with
      | n + 1, hn =>
        by_cases q : w = h
        · subst q
          rcases cutF_cases e1 with ⟨_, rfl⟩ | ⟨g2, _⟩
          · refine ⟨(x, y, min w w), rfl, ?_⟩
            simp only [Int.gcd_self]; omega
          · omega
        · obtain ⟨s, hs, e2⟩ := cut_last n (by simpa using hn) (by omega) (by omega) e1
          refine ⟨s, by rw [List.getLast?_cons, hs]; rfl, ?_⟩
          rw [e2, Int.gcd_comm w (h - w), Int.gcd_sub_right_left_of_dvd h (Int.dvd_refl w), Int.gcd_comm]

theorem pair_at {R : T3 → T3 → Prop} {l : List T3} (h : l.Pairwise R) {i j : Nat} (hij : i < j) (hj : j < l.length) : R (l.getD i (0, 0, 0)) (l.getD j (0, 0, 0)) := by
  rw [getD_lt _ _ _ (by omega), getD_lt _ _ _ hj]
  exact List.pairwise_iff_getElem.1 h i j (by omega) hj hij

theorem cut_is {W H : Int} {l : List T3} (hW : 0 ≤ W) (hH : 0 ≤ H) (e : cutF 16 0 0 W H = some l) : isB W H l = true := by
  unfold isB
  rw [Bool.and_eq_true]
  refine ⟨?_, decide_eq_true (cut_area _ rfl hW hH e)⟩
  rw [List.all_eq_true]
  intro i hi
  have hi := List.mem_range.1 hi
  unfold stepB
  rw [Bool.and_eq_true]
  constructor
  · have := cut_in _ rfl hW hH e (l.getD i (0, 0, 0)) (by rw [getD_lt _ _ _ hi]; exact List.getElem_mem hi)
    exact decide_eq_true (by omega)
  · rw [List.all_eq_true]
    intro o ho
    obtain ⟨j, hj, rfl⟩ := List.mem_iff_getElem.1 ho
    have hj2 : j < i := by rw [List.length_take] at hj; omega
    rw [List.getElem_take]
    have := pair_at (cut_apart _ rfl hW hH e) hj2 hi
    rw [getD_lt l j _ (by omega)] at this
    rw [this]; rfl

theorem Is_true {W H : Int} {L : List T3} (hW : rectB W = true) (hH : rectB H = true) (hl : L.length ≤ 16) (h : isB W H L = true) : isV W H L = true ∧ isE W H L = 0 := by
  have : isE W H L = 0 := by unfold isE; rw [hW, hH]; simp; omega
  unfold isV
  rw [this, h]
  exact ⟨rfl, rfl⟩

set_option maxRecDepth 100000 in
theorem law_euclid (W H : Int) (w : World) (hw : Wh w) : Calls Tryd.prog 9 #[.int .i64 W, .int .i64 H] w fun e w' => e = .returned (.bool true) ∧ Kp w w' := by
  refine lift9 ?_
  unfold S9
  refine r_use fok34 (Cut_calls W H w) rfl ?_
  rintro _ w1 ⟨k1, v, rfl, o1⟩
  refine ⟨_, rfl, ?_⟩
  rw [r_ex2a, r_ex2b]
  have hl := cutS_len W H
  obtain ⟨va, vc, ev, _⟩ := o1.len
  have lnv : ∀ K : Value → Prop, ln1 v K = K (.int .i64 (cutS W H).length) := fun K => by rw [ev]; rfl
  by_cases hB : (rectB W && rectB H) = true ∧ (cutF 16 0 0 W H).isSome
  case neg =>
    have hE : cutE W H = 2 ∨ cutE W H = 8 := by
      unfold cutE
      by_cases a : (rectB W && rectB H) = true
      · rw [if_pos a, if_neg fun b => hB ⟨a, b⟩]; exact .inr rfl
      · rw [if_neg a]; exact .inl rfl
    have hS : cutS W H = [] := by
      unfold cutS
      by_cases a : (rectB W && rectB H) = true
      · rw [if_pos a]
        cases c : cutF 16 0 0 W H with
        | none => rfl
        | some l => exact absurd ⟨a, by rw [c]; rfl⟩ hB
      · rw [if_neg a]
    have lnv' : ∀ K : Value → Prop, ln1 v K = K (.int .i64 0) := fun K => by rw [lnv, hS]; rfl
    have n2 : decide ((2 : Int) = 0) = false := rfl
    have n8 : decide ((8 : Int) = 0) = false := rfl
    have n82 : decide ((8 : Int) = 2) = false := rfl
    have n22 : decide ((2 : Int) = 2) = true := rfl
    have n88 : decide ((8 : Int) = 8) = true := rfl
    have n00 : decide ((0 : Int) = 0) = true := rfl
    rcases hE with hE | hE
    · rw [hE]
      simp only [r_ln, r_pick, r_pickT, r_pickF, r_condT, r_condF, r_gdTT, r_gdFF, r_gdTF, r_gdFT, r_gqTT, r_gqFF, r_gqTF, r_gqFT, r_not, r_lss, r_leq, r_gtr, r_geq, r_eql, r_neq, r_add, r_sub, r_min2, r_max2, r_min3, r_max3, r_fa, r_iaS, r_iaA, r_ex2a, r_ex2b, r_ex3a, r_ex3b, r_ex3c, r_nc, r_keepE, Nat.zero_add, Nat.add_zero, Nat.mul_one, Int.toNat_natCast, toNat_sub1, toNat_add1, decide_true, decide_false, Bool.not_true, Bool.not_false, if_true, if_false, Bool.false_eq_true, reduceCtorEq, r_gdU, lnv', n2, n22, n00]
      refine r_use fok14 (alive_calls w1 (hw.kp k1)) rfl ?_
      rintro _ w4 ⟨rfl, k4⟩
      exact ⟨_, rfl, rfl, Kp.trans k1 k4⟩
    · rw [hE]
      simp only [r_ln, r_pick, r_pickT, r_pickF, r_condT, r_condF, r_gdTT, r_gdFF, r_gdTF, r_gdFT, r_gqTT, r_gqFF, r_gqTF, r_gqFT, r_not, r_lss, r_leq, r_gtr, r_geq, r_eql, r_neq, r_add, r_sub, r_min2, r_max2, r_min3, r_max3, r_fa, r_iaS, r_iaA, r_ex2a, r_ex2b, r_ex3a, r_ex3b, r_ex3c, r_nc, r_keepE, Nat.zero_add, Nat.add_zero, Nat.mul_one, Int.toNat_natCast, toNat_sub1, toNat_add1, decide_true, decide_false, Bool.not_true, Bool.not_false, if_true, if_false, Bool.false_eq_true, reduceCtorEq, r_gdU, lnv', n8, n82, n88, n00]
      refine r_use fok14 (alive_calls w1 (hw.kp k1)) rfl ?_
      rintro _ w4 ⟨rfl, k4⟩
      exact ⟨_, rfl, rfl, Kp.trans k1 k4⟩
  obtain ⟨hB, hso⟩ := hB
  obtain ⟨l, hF⟩ := Option.isSome_iff_exists.1 hso
  have hE : cutE W H = 0 := by unfold cutE; rw [if_pos hB, if_pos hso]
  have hS : cutS W H = l := by unfold cutS; rw [if_pos hB, hF]; rfl
  rw [Bool.and_eq_true] at hB
  have bW := of_decide_eq_true hB.1
  have bH := of_decide_eq_true hB.2
  rw [hS] at lnv hl o1
  obtain ⟨i1, i2⟩ := Is_true hB.1 hB.2 hl (cut_is (by omega) (by omega) hF)
  obtain ⟨s, hs, hsg⟩ := cut_last _ rfl (by omega) (by omega) hF
  have hne : l ≠ [] := by rintro rfl; cases hs
  have hpos : 0 < l.length := List.length_pos_iff.2 hne
  have n00 : decide ((0 : Int) = 0) = true := rfl
  have nl : decide ((l.length : Int) = 0) = false := decide_eq_false (by omega)
  rw [hE]
  simp only [r_ln, r_pick, r_pickT, r_pickF, r_condT, r_condF, r_gdTT, r_gdFF, r_gdTF, r_gdFT, r_gqTT, r_gqFF, r_gqTF, r_gqFT, r_not, r_lss, r_leq, r_gtr, r_geq, r_eql, r_neq, r_add, r_sub, r_min2, r_max2, r_min3, r_max3, r_fa, r_iaS, r_iaA, r_ex2a, r_ex2b, r_ex3a, r_ex3b, r_ex3c, r_nc, r_keepE, Nat.zero_add, Nat.add_zero, Nat.mul_one, Int.toNat_natCast, toNat_sub1, toNat_add1, decide_true, decide_false, Bool.not_true, Bool.not_false, if_true, if_false, Bool.false_eq_true, reduceCtorEq, r_gdU, n00]
  refine r_use fok15 (Is_calls w1 (o1.rd t3C_len)) rfl ?_
  rintro _ w2 ⟨rfl, k2⟩
  refine ⟨_, rfl, ?_⟩
  rw [r_ex2a, r_ex2b, i1, i2]
  simp only [r_ln, r_pick, r_pickT, r_pickF, r_condT, r_condF, r_gdTT, r_gdFF, r_gdTF, r_gdFT, r_gqTT, r_gqFF, r_gqTF, r_gqFT, r_not, r_lss, r_leq, r_gtr, r_geq, r_eql, r_neq, r_add, r_sub, r_min2, r_max2, r_min3, r_max3, r_fa, r_iaS, r_iaA, r_ex2a, r_ex2b, r_ex3a, r_ex3b, r_ex3c, r_nc, r_keepE, Nat.zero_add, Nat.add_zero, Nat.mul_one, Int.toNat_natCast, toNat_sub1, toNat_add1, decide_true, decide_false, Bool.not_true, Bool.not_false, if_true, if_false, Bool.false_eq_true, reduceCtorEq, r_gdU, n00, lnv, nl]
  have k02 := Kp.trans k1 k2
  have o2 := (o1.kp k2).rd t3C_len
  -- the sides never grow
  have side : ∀ (wr : World), RdS wr v l → ∀ (i : Nat), i < l.length → ∀ K : Value → Prop, (iaS 3 v (.int .i64 i) fun p => fa1 p 2 fun p => ld1 wr p K) = K (.int .i64 (l.getD i (0, 0, 0)).2.2) := fun wr hr i hi K => by
    obtain ⟨b, off, cap, e, _, hc⟩ := hr.at (List.getElem?_eq_getElem hi)
    have hii : (i : Int).toNat = i := by omega
    rw [e, r_iaS _ _ _ _ _ _ _ (by omega) (by omega), hii, r_fa, r_ld (hc 2 _ rfl), getD_lt _ _ _ hi]
  unfold S9L0
  refine ⟨fun t9 wr => ∃ i : Nat, 1 ≤ i ∧ i ≤ l.length ∧ t9 = .int .i64 i ∧ Kp w wr ∧ RdS wr v l, fun t9 _ => l.length - (intOf t9).toNat, ⟨1, by omega, by omega, rfl, k02, o2⟩, ?_⟩
  rintro _ _ wr ⟨i, hi1, hi, rfl, kr, rr⟩
  rw [lnv]
  by_cases hlt : i < l.length
  · have hlt' : (i : Int) < (l.length : Int) := by omega
    simp only [r_lss, decide_eq_true hlt', r_condT]
    refine r_drew fun w3 k3 _ => ?_
    have r3 := rr.kp k3
    rw [side w3 r3 i hlt, r_sub _ _ (by omega) (by omega), show (i : Int) - 1 = ((i - 1 : Nat) : Int) by omega, side w3 r3 (i - 1) (by omega)]
    have hf := pair_at (cut_falls _ rfl (by omega) (by omega) hF) (show i - 1 < i by omega) hlt
    have hng : ¬ (l.getD (i - 1) (0, 0, 0)).2.2 < (l.getD i (0, 0, 0)).2.2 := by omega
    simp (disch := omega) only [r_ln, r_pick, r_pickT, r_pickF, r_condT, r_condF, r_gdTT, r_gdFF, r_gdTF, r_gdFT, r_gqTT, r_gqFF, r_gqTF, r_gqFT, r_not, r_lss, r_leq, r_gtr, r_geq, r_eql, r_neq, r_add, r_sub, r_min2, r_max2, r_min3, r_max3, r_fa, r_iaS, r_iaA, r_ex2a, r_ex2b, r_ex3a, r_ex3b, r_ex3c, r_nc, r_keepE, Nat.zero_add, Nat.add_zero, Nat.mul_one, Int.toNat_natCast, toNat_sub1, toNat_add1, decide_true, decide_false, Bool.not_true, Bool.not_false, if_true, if_false, Bool.false_eq_true, reduceCtorEq, hng]
    exact ⟨⟨i + 1, by omega, by omega, by go_num, Kp.trans kr k3, r3⟩, by simp only [intOf]; omega⟩
  · have hlt' : ¬ (i : Int) < (l.length : Int) := by omega
    simp only [r_lss, decide_eq_false hlt', r_condF]
    unfold S9L1
    refine ⟨fun t10 t11 wq => ∃ a b : Nat, t10 = .int .i64 a ∧ t11 = .int .i64 b ∧ Nat.gcd a b = Int.gcd W H ∧ a ≤ 1000 ∧ b ≤ 1000 ∧ Kp w wq ∧ RdS wq v l, fun _ t11 _ => (intOf t11).toNat, ⟨W.toNat, H.toNat, by rw [show ((W.toNat : Nat) : Int) = W by omega], by rw [show ((H.toNat : Nat) : Int) = H by omega], ?_, by omega, by omega, kr, rr⟩, ?_⟩
    · unfold Int.gcd
      congr 1 <;> omega
    rintro _ _ _ wq ⟨a, b, rfl, rfl, hg, ha, hb, kq, rq⟩
    by_cases hb0 : b = 0
    · have hb0' : (b : Int) = 0 := by omega
      rw [hb0, Nat.gcd_zero_right] at hg
      have hlast : (l.getD (l.length - 1) (0, 0, 0)).2.2 = (a : Int) := by
        rw [List.getLast?_eq_getElem?] at hs
        rw [List.getD_eq_getElem?_getD, hs, hg]
        exact hsg
      simp only [r_neq, decide_eq_true hb0', Bool.not_true, r_condF, lnv]
      rw [r_sub _ _ (by omega) (by omega), show (l.length : Int) - 1 = ((l.length - 1 : Nat) : Int) by omega, side wq rq _ (by omega), hlast]
      simp only [r_ln, r_pick, r_pickT, r_pickF, r_condT, r_condF, r_gdTT, r_gdFF, r_gdTF, r_gdFT, r_gqTT, r_gqFF, r_gqTF, r_gqFT, r_not, r_lss, r_leq, r_gtr, r_geq, r_eql, r_neq, r_add, r_sub, r_min2, r_max2, r_min3, r_max3, r_fa, r_iaS, r_iaA, r_ex2a, r_ex2b, r_ex3a, r_ex3b, r_ex3c, r_nc, r_keepE, Nat.zero_add, Nat.add_zero, Nat.mul_one, Int.toNat_natCast, toNat_sub1, toNat_add1, decide_true, decide_false, Bool.not_true, Bool.not_false, if_true, if_false, Bool.false_eq_true, reduceCtorEq, decide_true]
      refine r_use fok14 (alive_calls wq (hw.kp kq)) rfl ?_
      rintro _ w4 ⟨rfl, k4⟩
      exact ⟨_, rfl, rfl, Kp.trans kq k4⟩
    · have hb0' : ¬ (b : Int) = 0 := by omega
      simp only [r_neq, decide_eq_false hb0', Bool.not_false, r_condT]
      refine r_drew fun w3 k3 _ => ?_
      rw [r_remN _ _ (by omega)]
      have hlt := Nat.mod_lt a (show 0 < b by omega)
      refine ⟨⟨b, a % b, rfl, rfl, by rw [Nat.gcd_comm, ← hg, Nat.gcd_comm a b, Nat.gcd_rec b a], hb, by omega, Kp.trans kq k3, rq.kp k3⟩, by simp only [intOf]; omega⟩

end Go.Proofs.YtkdcldbedbagjaaDoor
