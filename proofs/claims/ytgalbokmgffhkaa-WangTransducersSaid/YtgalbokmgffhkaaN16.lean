/- Texts of my own, merged by program: Sh G2 Ls. -/
import Derived.Test.YtgalbokmgffhkaaN03
import Derived.Test.YtgalbokmgffhkaaN15
import Derived.Test.YtgalbokmgffhkaaN09
import Derived.Test.YtgalbokmgffhkaaN14
import Derived.Test.YtgalbokmgffhkaaN12
set_option linter.all false
/- Lifted texts, printed by program (gen.py): what each function's code asks. The ties are by the kernel. -/
namespace Go.Proofs.Ytgalbokmgffhkaa
open Go.Lf Go.RowKit

def S49L1 (t1 t48 t49 : Value) (R : Ending → World → Prop) (w : World) : Prop :=
  Loop2 (.slice none 0 0) (.int .i64 0) w fun _ t9 t50 w next_2 =>
    binQ Try.prog w .lss 3 false t50 t49 fun t51 =>
    condW t51 (
      iaS 1 t48 t50 fun t52 =>
      ld1 w t52 fun t53 =>
      ln1 t1 fun t57 =>
      callW Try.prog (.func (.func 83) #[] #[]) [t53, t57] w fun t58 w =>
      bsW Try.prog 23 1 [(0, t58)] w fun t59 w =>
      semW Try.prog (apS [23, 23] 23 [t9, t59]) w fun t60 w =>
      binQ Try.prog w .add 3 true t50 (.int .i64 1) fun t61 =>
      next_2 t60 t61 w
    ) (
      R (.returned (.tuple #[t9, (.int .i64 0)])) w
    )

def S49L0 (t1 t28 t29 : Value) (R : Ending → World → Prop) (w : World) : Prop :=
  Loop2 (.slice none 0 0) (.int .i64 0) w fun _ t6 t30 w next =>
    binQ Try.prog w .lss 3 false t30 t29 fun t31 =>
    condW t31 (
      iaS 7 t28 t30 fun t32 =>
      ldN 7 w t32 fun t33 =>
      boxW 78 (.agg #[(.int .i64 0), (.int .i64 0), (.int .i64 0), (.int .i64 0), (.int .i64 0), (.int .i64 0), (.bool false)]) w fun t8 w =>
      stW Try.prog 78 t8 t33 w fun w =>
      Drew w fun w =>
      fa1 t8 4 fun t34 =>
      ld1 w t34 fun t35 =>
      callW Try.prog (.func (.func 58) #[] #[]) [t1] w <| keepB w fun t37 w =>
      binQ Try.prog w .eql 3 false t35 t37 fun t38 =>
      Join (fun (k_2 : Value → World → Prop) =>
        condW t38 (
          fa1 t8 5 fun t40 =>
          ld1 w t40 fun t41 =>
          bsW Try.prog 30 1 [(0, t41)] w fun t42 w =>
          semW Try.prog (apS [30, 30] 30 [t6, t42]) w fun t43 w =>
          k_2 t43 w
        ) (
          k_2 t6 w
        )
      ) fun t6_2 w =>
      binQ Try.prog w .add 3 true t30 (.int .i64 1) fun t44_2 =>
      next t6_2 t44_2 w
    ) (
      callW Try.prog (.func (.func 97) #[] #[]) [t6] w fun t46 w =>
      callW Try.prog (.func (.func 98) #[] #[]) [t6] w fun t48 w =>
      ln1 t48 fun t49 =>
      S49L1 t1 t48 t49 R w
    )

def S49 (t0 t1 : Value) (w : World) (R : Ending → World → Prop) : Prop :=
  callW Try.prog (.func (.func 65) #[] #[]) [t0] w fun t13 w =>
  unQ .not t13 fun t14 =>
  gd t14 false (fun k => k t1 w) w fun t16 w =>
  gd t14 false (fun k => ln1 t16 fun v => k v w) w fun t17 w =>
  gd t14 false (fun k => callW Try.prog (.func (.func 66) #[] #[]) [t17] w k) w fun t18 w =>
  gd t14 false (fun k => unQ .not t18 fun v => k v w) w fun t19 w =>
  pickQ t14 (.bool true) t19 fun t20 =>
  gd t20 false (fun k => k t1 w) w fun t22 w =>
  gd t20 false (fun k => callW Try.prog (.func (.func 54) #[] #[]) [t22, (.func (.func 96) #[] #[])] w k) w fun t23 w =>
  pickQ t20 (.bool true) t23 fun t24 =>
  condW t24 (
    R (.returned (.tuple #[(.slice none 0 0), (.int .i64 2)])) w
  ) (
    ln1 t1 fun t27 =>
    callW Try.prog (.func (.func 59) #[] #[]) [t0, t27] w fun t28 w =>
    ln1 t28 fun t29 =>
    S49L0 t1 t28 t29 R w
  )

def A49 : Ann where
  live := fun
    | 0 => [6, 30]
    | 2 => [9, 50]
    | _ => []
  wr := fun
    | 0 => fun i => Nat.beq i 6 || Nat.beq i 8 || (Nat.ble 30 i && Nat.ble i 44)
    | 2 => fun i => Nat.beq i 9 || Nat.beq i 11 || (Nat.ble 50 i && Nat.ble i 61)
    | _ => fun _ => false
  sched := fun
    | 7 => (.take 0 (.take 1 (.take 2 (.eff 3 (.take 4 .done)))))
    | _ => .done

set_option maxRecDepth 100000 in
theorem ok49 : (codeOk Try.f49.ntmps A49 (Try.f49.body.getD .skip) 0 && Nat.ble 2 Try.f49.ntmps) = true := by kernel_rfl
set_option maxRecDepth 100000 in
theorem lift49 {t0 t1 : Value} {w : World} {R : Ending → World → Prop} (h : S49 t0 t1 w R) : Calls Try.prog 49 #[t0, t1] w R :=
  calls_of_cw (fn := Try.f49) (c := Try.f49.body.getD .skip) A49 mixes Try.func49 (by kernel_rfl) ok49
    ((by kernel_rfl : (S49 t0 t1 w R) = cw Try.prog A49 (Try.f49.body.getD .skip) 0 (bodyQ Try.prog Try.f49 R) (frOf #[t0, t1]) w).mp h)

def S96 (t0 : Value) (w : World) (R : Ending → World → Prop) : Prop :=
  callW Try.prog (.func (.func 56) #[] #[]) [t0] w fun t4 w =>
  unQ .not t4 fun t5 =>
  R (.returned t5) w

def A96 : Ann where
  live := fun _ => []
  wr := fun _ _ => false
  sched := fun _ => .done

set_option maxRecDepth 100000 in
theorem ok96 : (codeOk Try.f96.ntmps A96 (Try.f96.body.getD .skip) 0 && Nat.ble 1 Try.f96.ntmps) = true := by kernel_rfl
set_option maxRecDepth 100000 in
theorem lift96 {t0 : Value} {w : World} {R : Ending → World → Prop} (h : S96 t0 w R) : Calls Try.prog 96 #[t0] w R :=
  calls_of_cw (fn := Try.f96) (c := Try.f96.body.getD .skip) A96 mixes Try.func96 (by kernel_rfl) ok96
    ((by kernel_rfl : (S96 t0 w R) = cw Try.prog A96 (Try.f96.body.getD .skip) 0 (bodyQ Try.prog Try.f96 R) (frOf #[t0]) w).mp h)

def S98L1 (t0 t3 t28 : Value) (R : Ending → World → Prop) (w : World) : Prop :=
  Loop2 t3 (.int .i64 1) w fun _ t3_2 t5 w next_2 =>
    ln1 t28 fun t31 =>
    binQ Try.prog w .lss 3 false t5 t31 fun t32 =>
    condW t32 (
      Drew w fun w =>
      iaS 1 t28 t5 fun t37 =>
      ld1 w t37 fun t38 =>
      binQ Try.prog w .sub 3 true t5 (.int .i64 1) fun t41 =>
      iaS 1 t28 t41 fun t42 =>
      ld1 w t42 fun t43 =>
      binQ Try.prog w .neq 3 false t38 t43 fun t44 =>
      Join (fun (k_2 : Value → World → Prop) =>
        condW t44 (
          iaS 1 t28 t5 fun t49 =>
          ld1 w t49 fun t50 =>
          iaS 1 t0 t3_2 fun t51 =>
          stW Try.prog 3 t51 t50 w fun w =>
          binQ Try.prog w .add 3 true t3_2 (.int .i64 1) fun t53 =>
          k_2 t53 w
        ) (
          k_2 t3_2 w
        )
      ) fun t3_3 w =>
      binQ Try.prog w .add 3 true t5 (.int .i64 1) fun t34_2 =>
      next_2 t3_3 t34_2 w
    ) (
      slS 1 t0 (some t3_2) none fun t56 =>
      semW Try.prog (clS [30] 0 [t56]) w fun _ w =>
      slS 1 t0 none (some t3_2) fun t59 =>
      R (.returned t59) w
    )

def S98L0 (t0 : Value) (R : Ending → World → Prop) (w : World) : Prop :=
  Loop1 (.int .i64 1) w fun _ t3 w next =>
    ln1 t0 fun t12 =>
    binQ Try.prog w .lss 3 false t3 t12 fun t13 =>
    condW t13 (
      Drew w fun w =>
      iaS 1 t0 t3 fun t18 =>
      ld1 w t18 fun t19 =>
      binQ Try.prog w .sub 3 true t3 (.int .i64 1) fun t22 =>
      iaS 1 t0 t22 fun t23 =>
      ld1 w t23 fun t24 =>
      binQ Try.prog w .eql 3 false t19 t24 fun t25 =>
      condW t25 (
        slS 1 t0 (some t3) none fun t28 =>
        S98L1 t0 t3 t28 R w
      ) (
        binQ Try.prog w .add 3 true t3 (.int .i64 1) fun t15 =>
        next t15 w
      )
    ) (
      R (.returned t0) w
    )

def S98 (t0 : Value) (w : World) (R : Ending → World → Prop) : Prop :=
  ln1 t0 fun t7 =>
  binQ Try.prog w .lss 3 true t7 (.int .i64 2) fun t8 =>
  condW t8 (
    R (.returned t0) w
  ) (
    S98L0 t0 R w
  )

def A98 : Ann where
  live := fun
    | 0 => [3]
    | 2 => [3, 5]
    | _ => []
  wr := fun
    | 0 => fun i => (Nat.ble 2 i && Nat.ble i 5) || (Nat.ble 10 i && Nat.ble i 59)
    | 2 => fun i => Nat.beq i 3 || Nat.beq i 5 || (Nat.ble 29 i && Nat.ble i 53)
    | _ => fun _ => false
  sched := fun
    | 6 => (.take 0 (.take 1 (.take 2 (.take 3 (.take 4 (.take 5 (.take 6 (.take 7 (.take 8 (.take 9 .done))))))))))
    | 11 => (.take 0 (.take 1 (.take 2 (.take 3 (.take 4 (.take 5 (.take 6 (.take 7 (.take 8 (.take 9 .done))))))))))
    | _ => .done

set_option maxRecDepth 100000 in
theorem ok98 : (codeOk Try.f98.ntmps A98 (Try.f98.body.getD .skip) 0 && Nat.ble 1 Try.f98.ntmps) = true := by kernel_rfl
set_option maxRecDepth 100000 in
theorem lift98 {t0 : Value} {w : World} {R : Ending → World → Prop} (h : S98 t0 w R) : Calls Try.prog 98 #[t0] w R :=
  calls_of_cw (fn := Try.f98) (c := Try.f98.body.getD .skip) A98 mixes Try.func98 (by kernel_rfl) ok98
    ((by kernel_rfl : (S98 t0 w R) = cw Try.prog A98 (Try.f98.body.getD .skip) 0 (bodyQ Try.prog Try.f98 R) (frOf #[t0]) w).mp h)

def S14L1 (t7 t34 : Value) (next : Value → World → Prop) (w : World) : Prop :=
  Loop1 (.int .i64 0) w fun _ t10 w next_2 =>
    ln1 t34 fun t47 =>
    binQ Try.prog w .lss 3 false t10 t47 fun t48 =>
    condW t48 (
      iaS 1 t34 t10 fun t53 =>
      ld1 w t53 fun t54 =>
      iaS 1 t54 (.int .i64 0) fun t55 =>
      stW Try.prog 3 t55 (.int .i64 99) w fun w =>
      binQ Try.prog w .add 3 true t10 (.int .i64 1) fun t50 =>
      next_2 t50 w
    ) (
      binQ Try.prog w .add 3 true t7 (.int .i64 1) fun t29 =>
      next t29 w
    )

def S14L0 (t0 t1 t24 t25 : Value) (R : Ending → World → Prop) (w : World) : Prop :=
  Loop1 (.int .i64 0) w fun _ t7 w next =>
    binQ Try.prog w .lss 3 true t7 (.int .i64 2) fun t27 =>
    condW t27 (
      callW Try.prog (.func (.func 49) #[] #[]) [t0, t1] w fun t33 w =>
      exQ t33 0 fun t34 =>
      exQ t33 1 fun t35 =>
      binQ Try.prog w .neq 26 false t35 t25 fun t38 =>
      gd t38 false (fun k => k t34 w) w fun t40 w =>
      gd t38 false (fun k => k t24 w) w fun t41 w =>
      gd t38 false (fun k => callW Try.prog (.func (.func 29) #[] #[]) [t40, t41] w k) w fun t42 w =>
      gd t38 false (fun k => unQ .not t42 fun v => k v w) w fun t43 w =>
      pickQ t38 (.bool true) t43 fun t44 =>
      condW t44 (
        R (.returned (.bool false)) w
      ) (
        S14L1 t7 t34 next w
      )
    ) (
      callW Try.prog (.func (.func 18) #[] #[]) [] w fun t56 w =>
      R (.returned t56) w
    )

def S14 (t0 t1 : Value) (w : World) (R : Ending → World → Prop) : Prop :=
  ln1 t0 fun t12 =>
  binQ Try.prog w .gtr 3 true t12 (.int .i64 40) fun t13 =>
  gd t13 false (fun k => k t1 w) w fun t15 w =>
  gd t13 false (fun k => ln1 t15 fun v => k v w) w fun t16 w =>
  gd t13 false (fun k => binQ Try.prog w .gtr 3 true t16 (.int .i64 20) fun v => k v w) w fun t17 w =>
  pickQ t13 (.bool true) t17 fun t18 =>
  condW t18 (
    callW Try.prog (.func (.func 18) #[] #[]) [] w fun t19 w =>
    R (.returned t19) w
  ) (
    callW Try.prog (.func (.func 48) #[] #[]) [t0, t1] w fun t23 w =>
    exQ t23 0 fun t24 =>
    exQ t23 1 fun t25 =>
    S14L0 t0 t1 t24 t25 R w
  )

def A14 : Ann where
  live := fun
    | 0 => [7]
    | 2 => [10]
    | _ => []
  wr := fun
    | 0 => fun i => Nat.beq i 4 || (Nat.ble 7 i && Nat.ble i 10) || (Nat.ble 26 i && Nat.ble i 55)
    | 2 => fun i => Nat.beq i 10 || (Nat.ble 45 i && Nat.ble i 55)
    | _ => fun _ => false
  sched := fun _ => .done

set_option maxRecDepth 100000 in
theorem ok14 : (codeOk Try.f14.ntmps A14 (Try.f14.body.getD .skip) 0 && Nat.ble 2 Try.f14.ntmps) = true := by kernel_rfl
set_option maxRecDepth 100000 in
theorem lift14 {t0 t1 : Value} {w : World} {R : Ending → World → Prop} (h : S14 t0 t1 w R) : Calls Try.prog 14 #[t0, t1] w R :=
  calls_of_cw (fn := Try.f14) (c := Try.f14.body.getD .skip) A14 mixes Try.func14 (by kernel_rfl) ok14
    ((by kernel_rfl : (S14 t0 t1 w R) = cw Try.prog A14 (Try.f14.body.getD .skip) 0 (bodyQ Try.prog Try.f14 R) (frOf #[t0, t1]) w).mp h)

def S29L0 (t0 t1 : Value) (R : Ending → World → Prop) (w : World) : Prop :=
  Loop1 (.int .i64 0) w fun _ t5 w next =>
    ln1 t0 fun t13 =>
    binQ Try.prog w .lss 3 false t5 t13 fun t14 =>
    condW t14 (
      Drew w fun w =>
      iaS 1 t0 t5 fun t19 =>
      ld1 w t19 fun t20 =>
      iaS 1 t1 t5 fun t23 =>
      ld1 w t23 fun t24 =>
      callW Try.prog (.func (.func 43) #[] #[]) [t20, t24] w fun t25 w =>
      unQ .not t25 fun t26 =>
      condW t26 (
        R (.returned (.bool false)) w
      ) (
        binQ Try.prog w .add 3 true t5 (.int .i64 1) fun t16 =>
        next t16 w
      )
    ) (
      R (.returned (.bool true)) w
    )

def S29 (t0 t1 : Value) (w : World) (R : Ending → World → Prop) : Prop :=
  ln1 t0 fun t7 =>
  ln1 t1 fun t9 =>
  binQ Try.prog w .neq 3 false t7 t9 fun t10 =>
  condW t10 (
    R (.returned (.bool false)) w
  ) (
    S29L0 t0 t1 R w
  )

def A29 : Ann where
  live := fun
    | 0 => [5]
    | _ => []
  wr := fun
    | 0 => fun i => (Nat.ble 4 i && Nat.ble i 5) || (Nat.ble 11 i && Nat.ble i 26)
    | _ => fun _ => false
  sched := fun
    | 6 => (.take 0 (.take 1 (.take 2 (.take 3 (.take 4 (.take 5 (.take 6 (.take 7 (.bar 8 (.take 9 .done))))))))))
    | _ => .done

set_option maxRecDepth 100000 in
theorem ok29 : (codeOk Try.f29.ntmps A29 (Try.f29.body.getD .skip) 0 && Nat.ble 2 Try.f29.ntmps) = true := by kernel_rfl
set_option maxRecDepth 100000 in
theorem lift29 {t0 t1 : Value} {w : World} {R : Ending → World → Prop} (h : S29 t0 t1 w R) : Calls Try.prog 29 #[t0, t1] w R :=
  calls_of_cw (fn := Try.f29) (c := Try.f29.body.getD .skip) A29 mixes Try.func29 (by kernel_rfl) ok29
    ((by kernel_rfl : (S29 t0 t1 w R) = cw Try.prog A29 (Try.f29.body.getD .skip) 0 (bodyQ Try.prog Try.f29 R) (frOf #[t0, t1]) w).mp h)

theorem fok49 : fnOk Try.prog 49 = true := by kernel_rfl
theorem fok96 : fnOk Try.prog 96 = true := by kernel_rfl
theorem fok98 : fnOk Try.prog 98 = true := by kernel_rfl
theorem fok14 : fnOk Try.prog 14 = true := by kernel_rfl
theorem fok29 : fnOk Try.prog 29 = true := by kernel_rfl
end Go.Proofs.Ytgalbokmgffhkaa

/- Contract: Rows of the program. -/
namespace Go.Proofs.Ytgalbokmgffhkaa
open Go.Lf Go.RowKit Go.Wg

theorem fok97 : fnOk Try.prog 97 = true := by kernel_rfl

theorem nocol96_call (x : Int) (w : World) (K : Value → World → Prop) (h : K (.bool (!colB x)) w) : callW Try.prog (.func (.func 96) #[] #[]) [.int .i64 x] w K := by
  have hc : Calls Try.prog 96 #[.int .i64 x] w fun r w' => r = .returned (.bool (!colB x)) ∧ w' = w := by
    refine lift96 ?_
    unfold S96
    refine r_use fok56 (colour_calls x w) rfl ?_
    rintro _ _ ⟨rfl, rfl⟩
    exact ⟨_, rfl, by simp only [r_ln, r_pick, r_pickT, r_pickF, r_condT, r_condF, r_gdTT, r_gdFF, r_gdTF, r_gdFT, r_gqTT, r_gqFF, r_gqTF, r_gqFT, r_not, r_lss, r_leq, r_gtr, r_geq, r_eql, r_neq, r_add, r_sub, r_min2, r_max2, r_min3, r_max3, r_fa, r_iaS, r_iaA, r_ex2a, r_ex2b, r_ex3a, r_ex3b, r_ex3c, r_nc, r_keepE, Nat.zero_add, Nat.add_zero, Nat.mul_one, Int.toNat_natCast, toNat_sub1, toNat_add1, decide_true, decide_false, Bool.not_true, Bool.not_false, if_true, if_false, Bool.false_eq_true, reduceCtorEq], rfl⟩
  refine r_use fok96 hc rfl ?_
  rintro _ w2 ⟨rfl, rfl⟩
  exact ⟨_, rfl, h⟩

set_option maxRecDepth 100000 in
/-- The loop that makes lists of numbers. -/
theorem r49_1 {w : World} {na : Option Addr} {nc B W : Nat} {cv : Value} {cs : List Int} {K : Ending → World → Prop} (hc : IntsAt B w cv cs) (hcs : ∀ c ∈ cs, 0 ≤ c ∧ c ≤ 4096) (hl : cs.length ≤ 100000) (hW : W ≤ 4)
    (hK : ∀ v w', IRows w.heap.size w' v (cs.map (colsL W)) → Kp w w' → K (.returned (.tuple #[v, .int .i64 0])) w') : S49L1 (.slice na W nc) cv (.int .i64 cs.length) K w := by
  unfold S49L1
  refine ⟨fun t9 t50 wr => ∃ i : Nat, i ≤ cs.length ∧ t50 = .int .i64 i ∧ IRows w.heap.size wr t9 ((cs.take i).map (colsL W)) ∧ Kp w wr, fun _ t50 _ => cs.length - (intOf t50).toNat, ⟨0, by omega, rfl, IRows.nil, Kp.refl _⟩, ?_⟩
  rintro _ t9 _ wr ⟨i, hi, rfl, hR, kr⟩
  by_cases hlt : i < cs.length
  case neg =>
    have hlt' : ¬ (i : Int) < (cs.length : Int) := by omega
    rw [List.take_of_length_le (by omega)] at hR
    simp (disch := omega) only [r_ln, r_pick, r_pickT, r_pickF, r_condT, r_condF, r_gdTT, r_gdFF, r_gdTF, r_gdFT, r_gqTT, r_gqFF, r_gqTF, r_gqFT, r_not, r_lss, r_leq, r_gtr, r_geq, r_eql, r_neq, r_add, r_sub, r_min2, r_max2, r_min3, r_max3, r_fa, r_iaS, r_iaA, r_ex2a, r_ex2b, r_ex3a, r_ex3b, r_ex3c, r_nc, r_keepE, Nat.zero_add, Nat.add_zero, Nat.mul_one, Int.toNat_natCast, toNat_sub1, toNat_add1, decide_true, decide_false, Bool.not_true, Bool.not_false, if_true, if_false, Bool.false_eq_true, reduceCtorEq, hlt']
    exact hK _ _ hR kr
  have hlt' : (i : Int) < (cs.length : Int) := by omega
  obtain ⟨b, off, cap, ev, _, hcell⟩ := ((hc.kp kr).rd iC_len).at (List.getElem?_eq_getElem hlt)
  subst ev
  have c0 : wr.cell? ⟨b, off + i, none⟩ = some (.int .i64 cs[i]) := by
    have := hcell 0 _ rfl
    simpa [iC] using this
  have hb := hcs _ (List.getElem_mem hlt)
  have hii : (i : Int).toNat = i := by omega
  simp (disch := omega) only [r_ln, r_pick, r_pickT, r_pickF, r_condT, r_condF, r_gdTT, r_gdFF, r_gdTF, r_gdFT, r_gqTT, r_gqFF, r_gqTF, r_gqFT, r_not, r_lss, r_leq, r_gtr, r_geq, r_eql, r_neq, r_add, r_sub, r_min2, r_max2, r_min3, r_max3, r_fa, r_iaS, r_iaA, r_ex2a, r_ex2b, r_ex3a, r_ex3b, r_ex3c, r_nc, r_keepE, Nat.zero_add, Nat.add_zero, Nat.mul_one, Int.toNat_natCast, toNat_sub1, toNat_add1, decide_true, decide_false, Bool.not_true, Bool.not_false, if_true, if_false, Bool.false_eq_true, reduceCtorEq, decide_eq_true hlt', hii, r_ld c0]
  refine r_use fok83 (colours_calls wr hW hb.1 hb.2) rfl ?_
  rintro _ w2 ⟨v2, rfl, k2, o2⟩
  refine ⟨_, rfl, ?_⟩
  obtain ⟨a2, c2, rfl, _⟩ := o2.len
  have kr2 := Kp.trans kr k2
  refine r_pushRow (hR.kp k2) (o2.down kr.size) (by rw [List.length_map, List.length_take]; omega) kr2.size fun v3 w3 o3 c3 _ => ?_
  obtain ⟨vs, p1, _, _⟩ := hR.kp k2
  have k3 : Kp w w3 := Kp.of_chg kr2 c3 fun k e => (p1.lt e).1
  try simp (disch := omega) only [r_ln, r_pick, r_pickT, r_pickF, r_condT, r_condF, r_gdTT, r_gdFF, r_gdTF, r_gdFT, r_gqTT, r_gqFF, r_gqTF, r_gqFT, r_not, r_lss, r_leq, r_gtr, r_geq, r_eql, r_neq, r_add, r_sub, r_min2, r_max2, r_min3, r_max3, r_fa, r_iaS, r_iaA, r_ex2a, r_ex2b, r_ex3a, r_ex3b, r_ex3c, r_nc, r_keepE, Nat.zero_add, Nat.add_zero, Nat.mul_one, Int.toNat_natCast, toNat_sub1, toNat_add1, decide_true, decide_false, Bool.not_true, Bool.not_false, if_true, if_false, Bool.false_eq_true, reduceCtorEq]
  refine ⟨⟨i + 1, by omega, by go_num, ?_, k3⟩, by simp only [intOf]; omega⟩
  rw [take_succ' _ _ hlt, List.map_append]
  exact o3

theorem found_take {L : List Line} {i : Nat} {x : Line} {c : Int} (hx : L[i]? = some x) : foundL (L.take (i + 1)) c = foundL (L.take i) c ++ if x.2.1 = c then [x.2.2.1] else [] := by
  rw [List.take_add_one, hx, foundL, List.filter_append, List.map_append]
  congr 1
  by_cases h : x.2.1 = c
  · simp [h]
  · simp [h]

set_option maxRecDepth 100000 in
theorem r49_0 {w : World} {nv lv : Value} {n : List Int} {L : List Line} {K : Ending → World → Prop} (hL : RdL w lv L) (hLl : L.length ≤ 65536) (hlo : ∀ x ∈ L, 0 ≤ x.2.2.1 ∧ x.2.2.1 ≤ 4096) (hn : RdInts w nv n) (hnc : Cols n) (hnl : n.length ≤ 4)
    (hK : ∀ v w', IRows w.heap.size w' v ((Go.Lib.compact ((foundL L (code n)).mergeSort fun x y => decide (x ≤ y))).map (colsL n.length)) → Kp w w' → K (.returned (.tuple #[v, .int .i64 0])) w') : S49L0 nv lv (.int .i64 L.length) K w := by
  have hn' := hn
  obtain ⟨na, nc, rfl, _, _⟩ := hn.len
  unfold S49L0
  refine ⟨fun t6 t30 wr => ∃ i : Nat, i ≤ L.length ∧ t30 = .int .i64 i ∧ IntsAt w.heap.size wr t6 (foundL (L.take i) (code n)) ∧ Kp w wr, fun _ t30 _ => L.length - (intOf t30).toNat, ⟨0, by omega, rfl, RecAt.nil, Kp.refl _⟩, ?_⟩
  rintro _ t6 _ wr ⟨i, hi, rfl, hF, kr⟩
  have hFl : ∀ j, (foundL (L.take j) (code n)).length ≤ 65536 := fun j => by
    rw [foundL, List.length_map]
    exact Nat.le_trans (List.length_filter_le _ _) (by rw [List.length_take]; omega)
  by_cases hlt : i < L.length
  case neg =>
    have hlt' : ¬ (i : Int) < (L.length : Int) := by omega
    have hfl := hFl i
    rw [List.take_of_length_le (by omega)] at hF hfl
    simp (disch := omega) only [r_ln, r_pick, r_pickT, r_pickF, r_condT, r_condF, r_gdTT, r_gdFF, r_gdTF, r_gdFT, r_gqTT, r_gqFF, r_gqTF, r_gqFT, r_not, r_lss, r_leq, r_gtr, r_geq, r_eql, r_neq, r_add, r_sub, r_min2, r_max2, r_min3, r_max3, r_fa, r_iaS, r_iaA, r_ex2a, r_ex2b, r_ex3a, r_ex3b, r_ex3c, r_nc, r_keepE, Nat.zero_add, Nat.add_zero, Nat.mul_one, Int.toNat_natCast, toNat_sub1, toNat_add1, decide_true, decide_false, Bool.not_true, Bool.not_false, if_true, if_false, Bool.false_eq_true, reduceCtorEq, hlt']
    refine r_use fok97 (sortI_calls hF (by omega)) rfl ?_
    rintro _ w2 ⟨rfl, o2, c2⟩
    refine ⟨_, rfl, ?_⟩
    have k2 : Kp w w2 := Kp.of_chg kr c2 fun k e => (hF.lt e).1
    refine r_use fok98 (compI_calls o2 (by rw [List.length_mergeSort]; omega)) rfl ?_
    rintro _ w3 ⟨v3, rfl, o3, c3⟩
    refine ⟨_, rfl, ?_⟩
    have k3 : Kp w w3 := Kp.of_chg k2 c3 fun k e => (o2.lt e).1
    obtain ⟨a3, cap3, e3, _⟩ := o3.len
    have hmem : ∀ c ∈ Go.Lib.compact ((foundL L (code n)).mergeSort fun x y => decide (x ≤ y)), 0 ≤ c ∧ c ≤ 4096 := fun c hc => by
      rw [comp_mem, List.mem_mergeSort] at hc
      simp only [foundL, List.mem_map, List.mem_filter] at hc
      obtain ⟨x, ⟨hx, _⟩, rfl⟩ := hc
      exact hlo x hx
    have hlen : (Go.Lib.compact ((foundL L (code n)).mergeSort fun x y => decide (x ≤ y))).length ≤ 100000 := by
      have : (Go.Lib.compact ((foundL L (code n)).mergeSort fun x y => decide (x ≤ y))).length ≤ ((foundL L (code n)).mergeSort fun x y => decide (x ≤ y)).length := by
        unfold Go.Lib.compact Go.Lib.compactUpTo
        rw [List.length_map]
        exact Nat.le_trans (List.length_filter_le _ _) (by simp)
      rw [List.length_mergeSort] at this
      omega
    have hln : ∀ K : Value → Prop, ln1 v3 K = K (.int .i64 (Go.Lib.compact ((foundL L (code n)).mergeSort fun x y => decide (x ≤ y))).length) := fun K => by rw [e3]; rfl
    rw [hln]
    refine r49_1 o3 hmem hlen hnl fun v w' ho kk => hK v w' ?_ (Kp.trans k3 kk)
    obtain ⟨vs, q1, q2, q3⟩ := ho
    exact ⟨vs, q1.down k3.size, q2, fun i u r hu hr => (q3 i u r hu hr).down k3.size⟩
  have hlt' : (i : Int) < (L.length : Int) := by omega
  obtain ⟨x, hx⟩ : ∃ x, L[i]? = some x := ⟨_, List.getElem?_eq_getElem hlt⟩
  obtain ⟨lb, lo, lc, el, _, hld⟩ := RdL.line (hL.kp kr) hx
  subst el
  simp (disch := omega) only [r_ln, r_pick, r_pickT, r_pickF, r_condT, r_condF, r_gdTT, r_gdFF, r_gdTF, r_gdFT, r_gqTT, r_gqFF, r_gqTF, r_gqFT, r_not, r_lss, r_leq, r_gtr, r_geq, r_eql, r_neq, r_add, r_sub, r_min2, r_max2, r_min3, r_max3, r_fa, r_iaS, r_iaA, r_ex2a, r_ex2b, r_ex3a, r_ex3b, r_ex3c, r_nc, r_keepE, Nat.zero_add, Nat.add_zero, Nat.mul_one, Int.toNat_natCast, toNat_sub1, toNat_add1, decide_true, decide_false, Bool.not_true, Bool.not_false, if_true, if_false, Bool.false_eq_true, reduceCtorEq, decide_eq_true hlt', hld]
  refine r_box fun b8 w2 e8 s8 h8 k2 => ?_
  refine r_stAll (n := 7) (ty := 78) (by kernel_rfl) rfl (by intro u hu; simp [Value.cells] at hu; rcases hu with rfl | rfl | rfl | rfl | rfl | rfl | rfl <;> rfl) h8 rfl fun w3 c3 s3 h3 => ?_
  have kr3 : Kp wr w3 := Kp.of_chg k2 c3 fun i e => by omega
  refine r_drew fun w4 k4 _ => ?_
  have kr4 := Kp.trans kr3 k4
  have h4 := block_below h3 k4
  have c4 : w4.cell? ⟨b8, 4, none⟩ = some (.int .i64 x.2.1) := by rw [cell_row h4]; rfl
  simp (disch := omega) only [r_ln, r_pick, r_pickT, r_pickF, r_condT, r_condF, r_gdTT, r_gdFF, r_gdTF, r_gdFT, r_gqTT, r_gqFF, r_gqTF, r_gqFT, r_not, r_lss, r_leq, r_gtr, r_geq, r_eql, r_neq, r_add, r_sub, r_min2, r_max2, r_min3, r_max3, r_fa, r_iaS, r_iaA, r_ex2a, r_ex2b, r_ex3a, r_ex3b, r_ex3c, r_nc, r_keepE, Nat.zero_add, Nat.add_zero, Nat.mul_one, Int.toNat_natCast, toNat_sub1, toNat_add1, decide_true, decide_false, Bool.not_true, Bool.not_false, if_true, if_false, Bool.false_eq_true, reduceCtorEq, r_ld c4]
  refine r_use fok58 (number_calls w4 ((hn'.below kr).below kr4) hnc hnl) rfl ?_
  rintro _ _ ⟨rfl, rfl⟩
  refine ⟨_, rfl, Kp.refl _, ?_⟩
  have hF4 := hF.kp kr4
  have k04 := Kp.trans kr kr4
  have hft := found_take (c := code n) hx
  simp only [r_eql]
  refine r_join1 (fun v' w' => IntsAt w.heap.size w' v' (foundL (L.take (i + 1)) (code n)) ∧ Kp w w') ?_ fun k' hk' => ?_
  · rintro v' w' ⟨ho, kk⟩
    try simp (disch := omega) only [r_ln, r_pick, r_pickT, r_pickF, r_condT, r_condF, r_gdTT, r_gdFF, r_gdTF, r_gdFT, r_gqTT, r_gqFF, r_gqTF, r_gqFT, r_not, r_lss, r_leq, r_gtr, r_geq, r_eql, r_neq, r_add, r_sub, r_min2, r_max2, r_min3, r_max3, r_fa, r_iaS, r_iaA, r_ex2a, r_ex2b, r_ex3a, r_ex3b, r_ex3c, r_nc, r_keepE, Nat.zero_add, Nat.add_zero, Nat.mul_one, Int.toNat_natCast, toNat_sub1, toNat_add1, decide_true, decide_false, Bool.not_true, Bool.not_false, if_true, if_false, Bool.false_eq_true, reduceCtorEq]
    exact ⟨⟨i + 1, by omega, by go_num, ho, kk⟩, by simp only [intOf]; omega⟩
  rw [hft] at hk'
  by_cases hxc : x.2.1 = code n
  · rw [if_pos hxc] at hk'
    have c5 : w4.cell? ⟨b8, 5, none⟩ = some (.int .i64 x.2.2.1) := by rw [cell_row h4]; rfl
    simp (disch := omega) only [r_ln, r_pick, r_pickT, r_pickF, r_condT, r_condF, r_gdTT, r_gdFF, r_gdTF, r_gdFT, r_gqTT, r_gqFF, r_gqTF, r_gqFT, r_not, r_lss, r_leq, r_gtr, r_geq, r_eql, r_neq, r_add, r_sub, r_min2, r_max2, r_min3, r_max3, r_fa, r_iaS, r_iaA, r_ex2a, r_ex2b, r_ex3a, r_ex3b, r_ex3c, r_nc, r_keepE, Nat.zero_add, Nat.add_zero, Nat.mul_one, Int.toNat_natCast, toNat_sub1, toNat_add1, decide_true, decide_false, Bool.not_true, Bool.not_false, if_true, if_false, Bool.false_eq_true, reduceCtorEq, decide_eq_true hxc, r_ld c5]
    refine r_pushRec (x := x.2.2.1) slt30 iC_len rfl (bs30 _ _ _) (by intro u hu; simp [iC] at hu; rw [hu]; rfl) (by omega) hF4 (by have := hFl i; omega) k04.size fun v5 w5 o5 c5' _ => ?_
    exact hk' _ _ ⟨o5, Kp.of_chg k04 c5' fun k e => (hF4.lt e).1⟩
  · rw [if_neg hxc, List.append_nil] at hk'
    simp (disch := omega) only [r_ln, r_pick, r_pickT, r_pickF, r_condT, r_condF, r_gdTT, r_gdFF, r_gdTF, r_gdFT, r_gqTT, r_gqFF, r_gqTF, r_gqFT, r_not, r_lss, r_leq, r_gtr, r_geq, r_eql, r_neq, r_add, r_sub, r_min2, r_max2, r_min3, r_max3, r_fa, r_iaS, r_iaA, r_ex2a, r_ex2b, r_ex3a, r_ex3b, r_ex3c, r_nc, r_keepE, Nat.zero_add, Nat.add_zero, Nat.mul_one, Int.toNat_natCast, toNat_sub1, toNat_add1, decide_true, decide_false, Bool.not_true, Bool.not_false, if_true, if_false, Bool.false_eq_true, reduceCtorEq, hxc]
    exact hk' _ _ ⟨hF4, k04⟩

set_option maxRecDepth 100000 in
theorem rows49_calls {v nv : Value} {l : List Tile} {n : List Int} (w : World) (hr : RdT w v l) (hn : RdInts w nv n) : Calls Try.prog 49 #[v, nv] w fun e w' => Kp w w' ∧ RowsPost l n w.heap.size w' e := by
  have hn' := hn
  obtain ⟨na, nc, rfl, _, _⟩ := hn.len
  refine lift49 ?_
  unfold S49
  refine r_use fok65 (valid_calls w hr) rfl ?_
  rintro _ w1 ⟨rfl, k1⟩
  refine ⟨_, rfl, ?_⟩
  cases hs : setB l with
  | false =>
    simp (disch := omega) only [r_ln, r_pick, r_pickT, r_pickF, r_condT, r_condF, r_gdTT, r_gdFF, r_gdTF, r_gdFT, r_gqTT, r_gqFF, r_gqTF, r_gqFT, r_not, r_lss, r_leq, r_gtr, r_geq, r_eql, r_neq, r_add, r_sub, r_min2, r_max2, r_min3, r_max3, r_fa, r_iaS, r_iaA, r_ex2a, r_ex2b, r_ex3a, r_ex3b, r_ex3c, r_nc, r_keepE, Nat.zero_add, Nat.add_zero, Nat.mul_one, Int.toNat_natCast, toNat_sub1, toNat_add1, decide_true, decide_false, Bool.not_true, Bool.not_false, if_true, if_false, Bool.false_eq_true, reduceCtorEq]
    exact ⟨k1, .inl ⟨by rw [rowsOk, hs]; rfl, rfl⟩⟩
  | true =>
  simp (disch := omega) only [r_ln, r_pick, r_pickT, r_pickF, r_condT, r_condF, r_gdTT, r_gdFF, r_gdTF, r_gdFT, r_gqTT, r_gqFF, r_gqTF, r_gqFT, r_not, r_lss, r_leq, r_gtr, r_geq, r_eql, r_neq, r_add, r_sub, r_min2, r_max2, r_min3, r_max3, r_fa, r_iaS, r_iaA, r_ex2a, r_ex2b, r_ex3a, r_ex3b, r_ex3c, r_nc, r_keepE, Nat.zero_add, Nat.add_zero, Nat.mul_one, Int.toNat_natCast, toNat_sub1, toNat_add1, decide_true, decide_false, Bool.not_true, Bool.not_false, if_true, if_false, Bool.false_eq_true, reduceCtorEq]
  refine r_use fok66 (side_calls n.length w1) rfl ?_
  rintro _ _ ⟨rfl, rfl⟩
  refine ⟨_, rfl, ?_⟩
  cases hsd : sideB n.length with
  | false =>
    simp (disch := omega) only [r_ln, r_pick, r_pickT, r_pickF, r_condT, r_condF, r_gdTT, r_gdFF, r_gdTF, r_gdFT, r_gqTT, r_gqFF, r_gqTF, r_gqFT, r_not, r_lss, r_leq, r_gtr, r_geq, r_eql, r_neq, r_add, r_sub, r_min2, r_max2, r_min3, r_max3, r_fa, r_iaS, r_iaA, r_ex2a, r_ex2b, r_ex3a, r_ex3b, r_ex3c, r_nc, r_keepE, Nat.zero_add, Nat.add_zero, Nat.mul_one, Int.toNat_natCast, toNat_sub1, toNat_add1, decide_true, decide_false, Bool.not_true, Bool.not_false, if_true, if_false, Bool.false_eq_true, reduceCtorEq]
    exact ⟨k1, .inl ⟨by rw [rowsOk, hs, hsd]; rfl, rfl⟩⟩
  | true =>
  have hW : 1 ≤ n.length ∧ n.length ≤ 4 := by
    simp only [sideB, decide_eq_true_eq] at hsd
    omega
  simp (disch := omega) only [r_ln, r_pick, r_pickT, r_pickF, r_condT, r_condF, r_gdTT, r_gdFF, r_gdTF, r_gdFT, r_gqTT, r_gqFF, r_gqTF, r_gqFT, r_not, r_lss, r_leq, r_gtr, r_geq, r_eql, r_neq, r_add, r_sub, r_min2, r_max2, r_min3, r_max3, r_fa, r_iaS, r_iaA, r_ex2a, r_ex2b, r_ex3a, r_ex3b, r_ex3c, r_nc, r_keepE, Nat.zero_add, Nat.add_zero, Nat.mul_one, Int.toNat_natCast, toNat_sub1, toNat_add1, decide_true, decide_false, Bool.not_true, Bool.not_false, if_true, if_false, Bool.false_eq_true, reduceCtorEq]
  refine r_use fok54 (containsF_calls (fun x => !colB x) w1 (hn'.below k1) fun x _ w' K _ hK => nocol96_call x w' K (hK w' (Kp.refl _))) rfl ?_
  rintro _ w2 ⟨rfl, k2⟩
  refine ⟨_, rfl, ?_⟩
  rw [any_not]
  have k02 := Kp.trans k1 k2
  cases hcol : n.all colB with
  | false =>
    simp (disch := omega) only [r_ln, r_pick, r_pickT, r_pickF, r_condT, r_condF, r_gdTT, r_gdFF, r_gdTF, r_gdFT, r_gqTT, r_gqFF, r_gqTF, r_gqFT, r_not, r_lss, r_leq, r_gtr, r_geq, r_eql, r_neq, r_add, r_sub, r_min2, r_max2, r_min3, r_max3, r_fa, r_iaS, r_iaA, r_ex2a, r_ex2b, r_ex3a, r_ex3b, r_ex3c, r_nc, r_keepE, Nat.zero_add, Nat.add_zero, Nat.mul_one, Int.toNat_natCast, toNat_sub1, toNat_add1, decide_true, decide_false, Bool.not_true, Bool.not_false, if_true, if_false, Bool.false_eq_true, reduceCtorEq]
    exact ⟨k02, .inl ⟨by rw [rowsOk, hcol, Bool.and_false], rfl⟩⟩
  | true =>
  have hcols := all_cols hcol
  have hset := isSet_of hs
  simp (disch := omega) only [r_ln, r_pick, r_pickT, r_pickF, r_condT, r_condF, r_gdTT, r_gdFF, r_gdTF, r_gdFT, r_gqTT, r_gqFF, r_gqTF, r_gqFT, r_not, r_lss, r_leq, r_gtr, r_geq, r_eql, r_neq, r_add, r_sub, r_min2, r_max2, r_min3, r_max3, r_fa, r_iaS, r_iaA, r_ex2a, r_ex2b, r_ex3a, r_ex3b, r_ex3c, r_nc, r_keepE, Nat.zero_add, Nat.add_zero, Nat.mul_one, Int.toNat_natCast, toNat_sub1, toNat_add1, decide_true, decide_false, Bool.not_true, Bool.not_false, if_true, if_false, Bool.false_eq_true, reduceCtorEq]
  refine r_use fok59 (rows_calls hset hW w2 (hr.kp k02)) rfl ?_
  rintro _ w3 ⟨lv, rfl, k3, hL⟩
  refine ⟨_, rfl, ?_⟩
  change LnAt _ _ _ (linesL l n.length) at hL
  have k03 := Kp.trans k02 k3
  have hlo := lines_ok hset hW.2
  have hll := lines_len hset hW.2
  have h8 := pow8N_le hW.2
  have hrdL := hL.rd lnC_len
  obtain ⟨la, lcap, rfl, _⟩ := hL.len
  simp (disch := omega) only [r_ln, r_pick, r_pickT, r_pickF, r_condT, r_condF, r_gdTT, r_gdFF, r_gdTF, r_gdFT, r_gqTT, r_gqFF, r_gqTF, r_gqFT, r_not, r_lss, r_leq, r_gtr, r_geq, r_eql, r_neq, r_add, r_sub, r_min2, r_max2, r_min3, r_max3, r_fa, r_iaS, r_iaA, r_ex2a, r_ex2b, r_ex3a, r_ex3b, r_ex3c, r_nc, r_keepE, Nat.zero_add, Nat.add_zero, Nat.mul_one, Int.toNat_natCast, toNat_sub1, toNat_add1, decide_true, decide_false, Bool.not_true, Bool.not_false, if_true, if_false, Bool.false_eq_true, reduceCtorEq]
  refine r49_0 hrdL hll (fun x hx => ?_) (hn'.below k03) hcols hW.2 fun v' w' ho kk => ⟨Kp.trans k03 kk, .inr ⟨by rw [rowsOk, hs, hsd, hcol]; rfl, v', rfl, ?_⟩⟩
  · obtain ⟨_, x3, x4⟩ := hlo x hx
    have e8 : ((8 ^ n.length : Nat) : Int) ≤ 4096 := by exact_mod_cast h8
    omega
  · have hnc : ∀ x ∈ n, 0 ≤ x ∧ x ≤ 7 := fun x hx => hcols x hx
    rw [rows_eq hset.cols hnc] at ho
    exact ho.down k03.size

end Go.Proofs.Ytgalbokmgffhkaa

/- Contract: lists. -/
namespace Go.Proofs.Ytgalbokmgffhkaa
open Go.Lf Go.RowKit Go.Wg

set_option maxRecDepth 100000 in
/-- lists: the same lists? -/
theorem lists_calls {va vb : Value} {la lb : List (List Int)} (w : World) (ha : RdRows w va la) (hb : RdRows w vb lb) : Calls Try.prog 29 #[va, vb] w fun e w' => e = .returned (.bool (decide (la = lb))) ∧ Kp w w' := by
  have ha0 := ha
  have hb0 := hb
  obtain ⟨aa, ca, rfl, ha1⟩ := ha.len
  obtain ⟨ab, cb, rfl, hb1⟩ := hb.len
  refine lift29 ?_
  unfold S29
  by_cases hlen : (la.length : Int) = (lb.length : Int)
  case neg =>
    simp (disch := omega) only [r_ln, r_pick, r_pickT, r_pickF, r_condT, r_condF, r_gdTT, r_gdFF, r_gdTF, r_gdFT, r_gqTT, r_gqFF, r_gqTF, r_gqFT, r_not, r_lss, r_leq, r_gtr, r_geq, r_eql, r_neq, r_add, r_sub, r_min2, r_max2, r_min3, r_max3, r_fa, r_iaS, r_iaA, r_ex2a, r_ex2b, r_ex3a, r_ex3b, r_ex3c, r_nc, r_keepE, Nat.zero_add, Nat.add_zero, Nat.mul_one, Int.toNat_natCast, toNat_sub1, toNat_add1, decide_true, decide_false, Bool.not_true, Bool.not_false, if_true, if_false, Bool.false_eq_true, reduceCtorEq, hlen]
    exact ⟨ret_bool (decide_eq_false (fun e => hlen (by rw [e]))).symm, Kp.refl _⟩
  simp (disch := omega) only [r_ln, r_pick, r_pickT, r_pickF, r_condT, r_condF, r_gdTT, r_gdFF, r_gdTF, r_gdFT, r_gqTT, r_gqFF, r_gqTF, r_gqFT, r_not, r_lss, r_leq, r_gtr, r_geq, r_eql, r_neq, r_add, r_sub, r_min2, r_max2, r_min3, r_max3, r_fa, r_iaS, r_iaA, r_ex2a, r_ex2b, r_ex3a, r_ex3b, r_ex3c, r_nc, r_keepE, Nat.zero_add, Nat.add_zero, Nat.mul_one, Int.toNat_natCast, toNat_sub1, toNat_add1, decide_true, decide_false, Bool.not_true, Bool.not_false, if_true, if_false, Bool.false_eq_true, reduceCtorEq, decide_eq_true hlen]
  unfold S29L0
  refine ⟨fun t5 wr => ∃ i : Nat, i ≤ la.length ∧ t5 = .int .i64 i ∧ la.take i = lb.take i ∧ Kp w wr, fun t5 _ => la.length - (intOf t5).toNat, ⟨0, by omega, rfl, by simp, Kp.refl _⟩, ?_⟩
  rintro _ _ wr ⟨i, hi, rfl, he, hk⟩
  by_cases hlt : i < la.length
  case neg =>
    have hlt' : ¬ (i : Int) < (la.length : Int) := by omega
    rw [List.take_of_length_le (by omega), List.take_of_length_le (by omega)] at he
    simp (disch := omega) only [r_ln, r_pick, r_pickT, r_pickF, r_condT, r_condF, r_gdTT, r_gdFF, r_gdTF, r_gdFT, r_gqTT, r_gqFF, r_gqTF, r_gqFT, r_not, r_lss, r_leq, r_gtr, r_geq, r_eql, r_neq, r_add, r_sub, r_min2, r_max2, r_min3, r_max3, r_fa, r_iaS, r_iaA, r_ex2a, r_ex2b, r_ex3a, r_ex3b, r_ex3c, r_nc, r_keepE, Nat.zero_add, Nat.add_zero, Nat.mul_one, Int.toNat_natCast, toNat_sub1, toNat_add1, decide_true, decide_false, Bool.not_true, Bool.not_false, if_true, if_false, Bool.false_eq_true, reduceCtorEq, hlt']
    exact ⟨ret_bool (decide_eq_true he).symm, hk⟩
  have hlt' : (i : Int) < (la.length : Int) := by omega
  have hltb : i < lb.length := by omega
  simp (disch := omega) only [r_ln, r_pick, r_pickT, r_pickF, r_condT, r_condF, r_gdTT, r_gdFF, r_gdTF, r_gdFT, r_gqTT, r_gqFF, r_gqTF, r_gqFT, r_not, r_lss, r_leq, r_gtr, r_geq, r_eql, r_neq, r_add, r_sub, r_min2, r_max2, r_min3, r_max3, r_fa, r_iaS, r_iaA, r_ex2a, r_ex2b, r_ex3a, r_ex3b, r_ex3c, r_nc, r_keepE, Nat.zero_add, Nat.add_zero, Nat.mul_one, Int.toNat_natCast, toNat_sub1, toNat_add1, decide_true, decide_false, Bool.not_true, Bool.not_false, if_true, if_false, Bool.false_eq_true, reduceCtorEq, decide_eq_true hlt']
  refine r_drew fun w2 k2 _ => ?_
  have k02 := Kp.trans hk k2
  obtain ⟨b1, o1, c1, u1, e1, hc1, r1⟩ := (ha0.below k02).row hlt
  obtain ⟨b2, o2, c2, u2, e2, hc2, r2⟩ := (hb0.below k02).row hltb
  cases e1
  cases e2
  have hi' : (i : Int).toNat = i := by omega
  simp (disch := omega) only [r_ln, r_pick, r_pickT, r_pickF, r_condT, r_condF, r_gdTT, r_gdFF, r_gdTF, r_gdFT, r_gqTT, r_gqFF, r_gqTF, r_gqFT, r_not, r_lss, r_leq, r_gtr, r_geq, r_eql, r_neq, r_add, r_sub, r_min2, r_max2, r_min3, r_max3, r_fa, r_iaS, r_iaA, r_ex2a, r_ex2b, r_ex3a, r_ex3b, r_ex3c, r_nc, r_keepE, Nat.zero_add, Nat.add_zero, Nat.mul_one, Int.toNat_natCast, toNat_sub1, toNat_add1, decide_true, decide_false, Bool.not_true, Bool.not_false, if_true, if_false, Bool.false_eq_true, reduceCtorEq, hi', r_ld hc1, r_ld hc2]
  refine r_use fok43 (numbers_calls w2 r1 r2) rfl ?_
  rintro _ w3 ⟨rfl, k3⟩
  refine ⟨_, rfl, ?_⟩
  rw [getD_lt _ _ _ hlt, getD_lt _ _ _ hltb]
  by_cases hx : la[i] = lb[i]
  · simp (disch := omega) only [r_ln, r_pick, r_pickT, r_pickF, r_condT, r_condF, r_gdTT, r_gdFF, r_gdTF, r_gdFT, r_gqTT, r_gqFF, r_gqTF, r_gqFT, r_not, r_lss, r_leq, r_gtr, r_geq, r_eql, r_neq, r_add, r_sub, r_min2, r_max2, r_min3, r_max3, r_fa, r_iaS, r_iaA, r_ex2a, r_ex2b, r_ex3a, r_ex3b, r_ex3c, r_nc, r_keepE, Nat.zero_add, Nat.add_zero, Nat.mul_one, Int.toNat_natCast, toNat_sub1, toNat_add1, decide_true, decide_false, Bool.not_true, Bool.not_false, if_true, if_false, Bool.false_eq_true, reduceCtorEq, decide_eq_true hx]
    refine ⟨⟨i + 1, by omega, by go_num, ?_, Kp.trans k02 k3⟩, by simp only [intOf]; omega⟩
    rw [take_succ' _ _ hlt, take_succ' _ _ hltb, he, hx]
  · simp (disch := omega) only [r_ln, r_pick, r_pickT, r_pickF, r_condT, r_condF, r_gdTT, r_gdFF, r_gdTF, r_gdFT, r_gqTT, r_gqFF, r_gqTF, r_gqFT, r_not, r_lss, r_leq, r_gtr, r_geq, r_eql, r_neq, r_add, r_sub, r_min2, r_max2, r_min3, r_max3, r_fa, r_iaS, r_iaA, r_ex2a, r_ex2b, r_ex3a, r_ex3b, r_ex3c, r_nc, r_keepE, Nat.zero_add, Nat.add_zero, Nat.mul_one, Int.toNat_natCast, toNat_sub1, toNat_add1, decide_true, decide_false, Bool.not_true, Bool.not_false, if_true, if_false, Bool.false_eq_true, reduceCtorEq, hx]
    exact ⟨ret_bool (decide_eq_false (fun e => hx (by subst e; rfl))).symm, Kp.trans k02 k3⟩


end Go.Proofs.Ytgalbokmgffhkaa
