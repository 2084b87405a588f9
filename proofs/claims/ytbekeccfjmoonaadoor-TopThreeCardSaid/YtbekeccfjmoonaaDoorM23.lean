/- Texts of my own, merged by program: Sg Dm. -/
import Derived.Test.YtbekeccfjmoonaaDoorM07
import Derived.Test.YtbekeccfjmoonaaDoorM02
set_option linter.all false
/- Lifted texts, printed by program (gen.py): what each function's code asks. The ties are by the kernel. -/
namespace Go.Proofs.YtbekeccfjmoonaaDoor
open Go.Lf Go.RowKit

def S10L2 (t7 t10 t12 t49 t55 t58 t59 : Value) (next_2 : Value → Value → World → Prop) (w : World) : Prop :=
  Loop1 (.int .i64 0) w fun _ t60 w next_3 =>
    binQ Tryd.prog w .lss 3 false t60 t59 fun t61 =>
    condW t61 (
      iaS 2 t58 t60 fun t62 =>
      ldN 2 w t62 fun t63 =>
      boxW 43 (.agg #[(.int .i64 0), (.int .i64 0)]) w fun t15 w =>
      stW Tryd.prog 43 t15 t63 w fun w =>
      fa1 t15 0 fun t64 =>
      ld1 w t64 fun t65 =>
      fa1 t12 0 fun t66 =>
      ld1 w t66 fun t67 =>
      binQ Tryd.prog w .eql 3 false t65 t67 fun t68 =>
      gd t68 true (fun k => fa1 t12 0 fun v => k v w) w fun t70 w =>
      gd t68 true (fun k => ld1 w t70 fun v => k v w) w fun t71 w =>
      gd t68 true (fun k => binQ Tryd.prog w .rem 3 true t71 (.int .i64 2) fun v => k v w) w fun t72 w =>
      gd t68 true (fun k => binQ Tryd.prog w .neq 3 true t72 (.int .i64 0) fun v => k v w) w fun t73 w =>
      pickQ t68 t73 (.bool false) fun t74 =>
      Join (fun (k_3 : Value → World → Prop) =>
        condW t74 (
          k_3 (.int .i64 2147483646) w
        ) (
          k_3 (.int .i64 1) w
        )
      ) fun t16 w =>
      ldN 2 w t15 fun t77_2 =>
      callW Tryd.prog (.func (.func 27) #[] #[]) [t7, t77_2] w fun t78_2 w =>
      iaS 1 t55 t78_2 fun t80_2 =>
      stW Tryd.prog 3 t80_2 t16 w fun w =>
      binQ Tryd.prog w .add 3 true t60 (.int .i64 1) fun t81_2 =>
      next_3 t81_2 w
    ) (
      bsW Tryd.prog 50 1 [(0, t55)] w fun t84 w =>
      semW Tryd.prog (apS [50, 50] 50 [t10, t84]) w fun t85 w =>
      binQ Tryd.prog w .add 3 true t49 (.int .i64 1) fun t86 =>
      next_2 t85 t86 w
    )

def S10L1 (t4 t6 t7 t48 : Value) (R : Ending → World → Prop) (w : World) : Prop :=
  Loop2 (.slice none 0 0) (.int .i64 0) w fun _ t10 t49 w next_2 =>
    binQ Tryd.prog w .lss 3 false t49 t48 fun t50 =>
    condW t50 (
      iaS 2 t6 t49 fun t51 =>
      ldN 2 w t51 fun t52 =>
      boxW 43 (.agg #[(.int .i64 0), (.int .i64 0)]) w fun t12 w =>
      stW Tryd.prog 43 t12 t52 w fun w =>
      ln1 t7 fun t54 =>
      mkW Tryd.prog 31 t54 t54 w fun t55 w =>
      ldN 3 w t4 fun t56 =>
      ldN 2 w t12 fun t57 =>
      callW Tryd.prog (.func (.func 26) #[] #[]) [t56, t57] w fun t58 w =>
      ln1 t58 fun t59 =>
      S10L2 t7 t10 t12 t49 t55 t58 t59 next_2 w
    ) (
      callW Tryd.prog (.func (.func 28) #[] #[]) [t10] w fun t88 w =>
      R (.returned (.tuple #[t88, (.int .i64 0)])) w
    )

def S10L0 (t4 t25 t26 : Value) (R : Ending → World → Prop) (w : World) : Prop :=
  Loop3 (.slice none 0 0) (.slice none 0 0) (.int .i64 0) w fun _ t6 t7 t27 w next =>
    binQ Tryd.prog w .lss 3 false t27 t26 fun t28 =>
    condW t28 (
      iaS 2 t25 t27 fun t29 =>
      ldN 2 w t29 fun t30 =>
      boxW 43 (.agg #[(.int .i64 0), (.int .i64 0)]) w fun t9 w =>
      stW Tryd.prog 43 t9 t30 w fun w =>
      ldN 2 w t9 fun t31 =>
      callW Tryd.prog (.func (.func 25) #[] #[]) [t31] w fun t32 w =>
      Join (fun (k_2 : Value → Value → World → Prop) =>
        condW t32 (
          ldN 2 w t9 fun t34 =>
          bsW Tryd.prog 39 1 [(0, t34)] w fun t35 w =>
          semW Tryd.prog (apS [39, 39] 39 [t6, t35]) w fun t36 w =>
          k_2 t36 t7 w
        ) (
          ldN 2 w t9 fun t38 =>
          bsW Tryd.prog 39 1 [(0, t38)] w fun t39 w =>
          semW Tryd.prog (apS [39, 39] 39 [t7, t39]) w fun t40 w =>
          k_2 t6 t40 w
        )
      ) fun t6_2 t7_2 w =>
      binQ Tryd.prog w .add 3 true t27 (.int .i64 1) fun t41_2 =>
      next t6_2 t7_2 t41_2 w
    ) (
      ln1 t6 fun t43 =>
      ln1 t7 fun t45 =>
      binQ Tryd.prog w .neq 3 false t43 t45 fun t46 =>
      condW t46 (
        R (.returned (.tuple #[(.int .i64 0), (.int .i64 0)])) w
      ) (
        ln1 t6 fun t48 =>
        S10L1 t4 t6 t7 t48 R w
      )
    )

def S10 (t0 : Value) (w : World) (R : Ending → World → Prop) : Prop :=
  callW Tryd.prog (.func (.func 21) #[] #[]) [t0] w fun t19 w =>
  exQ t19 0 fun t20 =>
  exQ t19 1 fun t21 =>
  boxW 63 (.agg #[(.int .i64 0), (.int .i64 0), (.slice none 0 0)]) w fun t4 w =>
  stW Tryd.prog 63 t4 t20 w fun w =>
  unQ .not t21 fun t23 =>
  condW t23 (
    R (.returned (.tuple #[(.int .i64 0), (.int .i64 2)])) w
  ) (
    ldN 3 w t4 fun t24 =>
    callW Tryd.prog (.func (.func 24) #[] #[]) [t24] w fun t25 w =>
    ln1 t25 fun t26 =>
    S10L0 t4 t25 t26 R w
  )

def A10 : Ann where
  live := fun
    | 0 => [6, 7, 27]
    | 2 => [10, 49]
    | 4 => [60]
    | _ => []
  wr := fun
    | 0 => fun i => (Nat.ble 6 i && Nat.ble i 7) || Nat.beq i 9 || (Nat.ble 27 i && Nat.ble i 41)
    | 2 => fun i => Nat.beq i 10 || (Nat.ble 12 i && Nat.ble i 13) || (Nat.ble 15 i && Nat.ble i 16) || (Nat.ble 49 i && Nat.ble i 86)
    | 4 => fun i => (Nat.ble 15 i && Nat.ble i 16) || (Nat.ble 60 i && Nat.ble i 81)
    | _ => fun _ => false
  sched := fun _ => .done

set_option maxRecDepth 100000 in
theorem ok10 : (codeOk Tryd.f10.ntmps A10 (Tryd.f10.body.getD .skip) 0 && Nat.ble 1 Tryd.f10.ntmps) = true := by kernel_rfl
set_option maxRecDepth 100000 in
theorem lift10 {t0 : Value} {w : World} {R : Ending → World → Prop} (h : S10 t0 w R) : Calls Tryd.prog 10 #[t0] w R :=
  calls_of_cw (fn := Tryd.f10) (c := Tryd.f10.body.getD .skip) A10 mixes Tryd.func10 (by kernel_rfl) ok10
    ((by kernel_rfl : (S10 t0 w R) = cw Tryd.prog A10 (Tryd.f10.body.getD .skip) 0 (bodyQ Tryd.prog Tryd.f10 R) (frOf #[t0]) w).mp h)

def S28L2 (t0 t4 t68_2 t71_2 t78_2 t79_2 : Value) (next_4 : Value → World → Prop) (w : World) : Prop :=
  Loop1 t79_2 w fun _ t10_2 w next_5 =>
    binQ Tryd.prog w .neq 3 true t78_2 (.int .i64 0) fun t81_2 =>
    gd t81_2 true (fun k => k t10_2 w) w fun t83_2 w =>
    gd t81_2 true (fun k => k t0 w) w fun t84_2 w =>
    gd t81_2 true (fun k => ln1 t84_2 fun v => k v w) w fun t85_2 w =>
    gd t81_2 true (fun k => binQ Tryd.prog w .lss 3 false t83_2 t85_2 fun v => k v w) w fun t86_2 w =>
    pickQ t81_2 t86_2 (.bool false) fun t87_2 =>
    condW t87_2 (
      Drew w fun w =>
      iaS 1 t71_2 t10_2 fun t94_2 =>
      ld1 w t94_2 fun t95_2 =>
      binQ Tryd.prog w .sub 3 true (.int .i64 2147483647) t78_2 fun t97_2 =>
      ld1 w t4 fun t99_2 =>
      iaS 1 t0 t99_2 fun t100_2 =>
      ld1 w t100_2 fun t101_2 =>
      iaS 1 t101_2 t10_2 fun t103_2 =>
      ld1 w t103_2 fun t104_2 =>
      binQ Tryd.prog w .mul 3 false t97_2 t104_2 fun t105_2 =>
      binQ Tryd.prog w .add 3 false t95_2 t105_2 fun t106_2 =>
      binQ Tryd.prog w .rem 3 true t106_2 (.int .i64 2147483647) fun t107_2 =>
      iaS 1 t71_2 t10_2 fun t108_2 =>
      stW Tryd.prog 3 t108_2 t107_2 w fun w =>
      binQ Tryd.prog w .add 3 true t10_2 (.int .i64 1) fun t89_2 =>
      next_5 t89_2 w
    ) (
      binQ Tryd.prog w .add 3 true t68_2 (.int .i64 1) fun t109_2 =>
      next_4 t109_2 w
    )

def S28L1 (t0 t4 t13 t54_2 t62_2 t66_2 t67_2 : Value) (next : Value → Value → World → Prop) (w : World) : Prop :=
  Loop1 (.int .i64 0) w fun _ t68_2 w next_4 =>
    binQ Tryd.prog w .lss 3 false t68_2 t67_2 fun t69_2 =>
    condW t69_2 (
      iaS 1 t66_2 t68_2 fun t70_2 =>
      ld1 w t70_2 fun t71_2 =>
      ld1 w t4 fun t73_2 =>
      iaS 1 t71_2 t73_2 fun t74_2 =>
      ld1 w t74_2 fun t75_2 =>
      binQ Tryd.prog w .mul 3 false t75_2 t62_2 fun t77_2 =>
      binQ Tryd.prog w .rem 3 true t77_2 (.int .i64 2147483647) fun t78_2 =>
      ld1 w t4 fun t79_2 =>
      S28L2 t0 t4 t68_2 t71_2 t78_2 t79_2 next_4 w
    ) (
      binQ Tryd.prog w .add 3 true t13 (.int .i64 1) fun t110_2 =>
      next t54_2 t110_2 w
    )

def S28L0 (t0 t12 : Value) (R : Ending → World → Prop) (w : World) : Prop :=
  Loop2 (.int .i64 1) (.int .i64 0) w fun _ t3 t13 w next =>
    binQ Tryd.prog w .lss 3 false t13 t12 fun t14 =>
    condW t14 (
      boxW 3 (.int .i64 0) w fun t4 w =>
      stW Tryd.prog 3 t4 t13 w fun w =>
      ld1 w t4 fun t17 =>
      slS 1 t0 (some t17) none fun t18 =>
      callW Tryd.prog (.func (.func 58) #[] #[]) [t18, (.func (.func 59) #[] #[t4])] w fun t20 w =>
      binQ Tryd.prog w .lss 3 true t20 (.int .i64 0) fun t22 =>
      condW t22 (
        R (.returned (.int .i64 0)) w
      ) (
        binQ Tryd.prog w .gtr 3 true t20 (.int .i64 0) fun t24 =>
        Join (fun (k_2 : Value → World → Prop) =>
          condW t24 (
            Drew w fun w =>
            ∃ X : Nat → Prop,
            ld1 w t4 fun t26 =>
            takeX X w (fun w k => k t0) fun t27 =>
            takeX X w (fun w k => ld1 w t4 k) fun t28 =>
            takeX X w (fun w k => k t20) fun t29 =>
            takeX X w (fun w k => binQ Tryd.prog w .add 3 false t28 t29 k) fun t30 =>
            ld1 w t4 fun t32 =>
            binQ Tryd.prog w .add 3 false t32 t20 fun t34 =>
            iaS 1 t0 t34 fun t35 =>
            ld1 w t35 fun t36 =>
            ld1 w t4 fun t38 =>
            iaS 1 t0 t38 fun t39 =>
            ld1 w t39 fun t40 =>
            iaS 1 t0 t26 fun t41 =>
            stW Tryd.prog 31 t41 t36 w <| keepW X w fun w =>
            takeX X w (fun w k => iaS 1 t27 t30 k) fun t42 =>
            stW Tryd.prog 31 t42 t40 w fun w =>
            binQ Tryd.prog w .sub 3 true (.int .i64 2147483647) t3 fun t44 =>
            k_2 t44 w
          ) (
            k_2 t3 w
          )
        ) fun t3_2 w =>
        Drew w fun w =>
        ld1 w t4 fun t47_2 =>
        iaS 1 t0 t47_2 fun t48_2 =>
        ld1 w t48_2 fun t49_2 =>
        ld1 w t4 fun t50_2 =>
        iaS 1 t49_2 t50_2 fun t51_2 =>
        ld1 w t51_2 fun t52_2 =>
        binQ Tryd.prog w .mul 3 false t3_2 t52_2 fun t53_2 =>
        binQ Tryd.prog w .rem 3 true t53_2 (.int .i64 2147483647) fun t54_2 =>
        Drew w fun w =>
        ld1 w t4 fun t56_2 =>
        iaS 1 t0 t56_2 fun t57_2 =>
        ld1 w t57_2 fun t58_2 =>
        ld1 w t4 fun t59_2 =>
        iaS 1 t58_2 t59_2 fun t60_2 =>
        ld1 w t60_2 fun t61_2 =>
        callW Tryd.prog (.func (.func 60) #[] #[]) [t61_2] w fun t62_2 w =>
        ld1 w t4 fun t64_2 =>
        binQ Tryd.prog w .add 3 true t64_2 (.int .i64 1) fun t65_2 =>
        slS 1 t0 (some t65_2) none fun t66_2 =>
        ln1 t66_2 fun t67_2 =>
        S28L1 t0 t4 t13 t54_2 t62_2 t66_2 t67_2 next w
      )
    ) (
      binQ Tryd.prog w .gtr 3 true t3 (.int .i64 1073741823) fun t112 =>
      condW t112 (
        binQ Tryd.prog w .sub 3 true t3 (.int .i64 2147483647) fun t114 =>
        R (.returned t114) w
      ) (
        R (.returned t3) w
      )
    )



def S28 (t0 : Value) (w : World) (R : Ending → World → Prop) : Prop :=
  ln1 t0 fun t12 =>
  S28L0 t0 t12 R w

def A28 : Ann where
  live := fun
    | 0 => [3, 13]
    | 2 => [68]
    | 4 => [10]
    | _ => []
  wr := fun
    | 0 => fun i => (Nat.ble 2 i && Nat.ble i 6) || (Nat.ble 8 i && Nat.ble i 10) || (Nat.ble 13 i && Nat.ble i 110)
    | 2 => fun i => (Nat.ble 8 i && Nat.ble i 10) || (Nat.ble 68 i && Nat.ble i 109)
    | 4 => fun i => Nat.beq i 10 || (Nat.ble 80 i && Nat.ble i 108)
    | _ => fun _ => false
  sched := fun
    | 9 => (.cls (.take 0 (.take 1 (.take 2 (.take 3 (.take 4 (.take 5 (.take 6 (.take 7 (.take 8 (.take 9 (.take 10 (.take 11 (.take 12 (.take 13 (.take 14 (.take 15 (.take 16 (.eff 17 (.take 18 (.bar 19 .done)))))))))))))))))))))
    | 11 => (.take 0 (.take 1 (.take 2 (.take 3 (.take 4 (.take 5 (.take 6 (.take 7 (.take 8 (.take 9 (.take 10 .done)))))))))))
    | 12 => (.take 0 (.take 1 (.take 2 (.take 3 (.take 4 (.take 5 (.take 6 (.bar 7 (.take 8 .done)))))))))
    | 20 => (.take 0 (.take 1 (.take 2 (.take 3 (.take 4 (.take 5 (.take 6 (.take 7 (.take 8 (.take 9 (.take 10 (.take 11 (.take 12 (.take 13 (.take 14 (.take 15 (.take 16 (.take 17 (.take 18 (.bar 19 .done))))))))))))))))))))
    | _ => .done

set_option maxRecDepth 100000 in
theorem ok28 : (codeOk Tryd.f28.ntmps A28 (Tryd.f28.body.getD .skip) 0 && Nat.ble 1 Tryd.f28.ntmps) = true := by kernel_rfl
set_option maxRecDepth 100000 in
theorem lift28 {t0 : Value} {w : World} {R : Ending → World → Prop} (h : S28 t0 w R) : Calls Tryd.prog 28 #[t0] w R :=
  calls_of_cw (fn := Tryd.f28) (c := Tryd.f28.body.getD .skip) A28 mixes Tryd.func28 (by kernel_rfl) ok28
    ((by kernel_rfl : (S28 t0 w R) = cw Tryd.prog A28 (Tryd.f28.body.getD .skip) 0 (bodyQ Tryd.prog Tryd.f28 R) (frOf #[t0]) w).mp h)

def S58L0 (t0 t1 t7 : Value) (R : Ending → World → Prop) (w : World) : Prop :=
  Loop1 (.int .i64 0) w fun _ t8 w next =>
    binQ Tryd.prog w .lss 3 false t8 t7 fun t9 =>
    condW t9 (
      iaS 1 t0 t8 fun t14 =>
      ld1 w t14 fun t15 =>
      callW Tryd.prog t1 [t15] w fun t16 w =>
      condW t16 (
        R (.returned t8) w
      ) (
        binQ Tryd.prog w .add 3 true t8 (.int .i64 1) fun t18 =>
        next t18 w
      )
    ) (
      R (.returned (.int .i64 (-1))) w
    )



def S58 (t0 t1 : Value) (w : World) (R : Ending → World → Prop) : Prop :=
  ln1 t0 fun t7 =>
  S58L0 t0 t1 t7 R w

def A58 : Ann where
  live := fun
    | 0 => [8]
    | _ => []
  wr := fun
    | 0 => fun i => (Nat.ble 4 i && Nat.ble i 5) || (Nat.ble 8 i && Nat.ble i 18)
    | _ => fun _ => false
  sched := fun _ => .done

set_option maxRecDepth 100000 in
theorem ok58 : (codeOk Tryd.f58.ntmps A58 (Tryd.f58.body.getD .skip) 0 && Nat.ble 2 Tryd.f58.ntmps) = true := by kernel_rfl
set_option maxRecDepth 100000 in
theorem lift58 {t0 t1 : Value} {w : World} {R : Ending → World → Prop} (h : S58 t0 t1 w R) : Calls Tryd.prog 58 #[t0, t1] w R :=
  calls_of_cw (fn := Tryd.f58) (c := Tryd.f58.body.getD .skip) A58 mixes Tryd.func58 (by kernel_rfl) ok58
    ((by kernel_rfl : (S58 t0 t1 w R) = cw Tryd.prog A58 (Tryd.f58.body.getD .skip) 0 (bodyQ Tryd.prog Tryd.f58 R) (frOf #[t0, t1]) w).mp h)

def S59 (t0 t1 : Value) (w : World) (R : Ending → World → Prop) : Prop :=
  ld1 w t1 fun t5 =>
  iaS 1 t0 t5 fun t6 =>
  ld1 w t6 fun t7 =>
  binQ Tryd.prog w .neq 3 true t7 (.int .i64 0) fun t8 =>
  R (.returned t8) w

def A59 : Ann where
  live := fun _ => []
  wr := fun _ _ => false
  sched := fun _ => .done

set_option maxRecDepth 100000 in
theorem ok59 : (codeOk Tryd.f59.ntmps A59 (Tryd.f59.body.getD .skip) 0 && Nat.ble 2 Tryd.f59.ntmps) = true := by kernel_rfl
set_option maxRecDepth 100000 in
theorem lift59 {t0 t1 : Value} {w : World} {R : Ending → World → Prop} (h : S59 t0 t1 w R) : Calls Tryd.prog 59 #[t0, t1] w R :=
  calls_of_cw (fn := Tryd.f59) (c := Tryd.f59.body.getD .skip) A59 mixes Tryd.func59 (by kernel_rfl) ok59
    ((by kernel_rfl : (S59 t0 t1 w R) = cw Tryd.prog A59 (Tryd.f59.body.getD .skip) 0 (bodyQ Tryd.prog Tryd.f59 R) (frOf #[t0, t1]) w).mp h)

def S60L0 (t0 : Value) (R : Ending → World → Prop) (w : World) : Prop :=
  Loop3 (.int .i64 1) t0 (.int .i64 2147483645) w fun _ t3 t4 t5 w next =>
    binQ Tryd.prog w .gtr 3 true t5 (.int .i64 0) fun t8 =>
    condW t8 (
      binQ Tryd.prog w .rem 3 true t5 (.int .i64 2) fun t12 =>
      binQ Tryd.prog w .eql 3 true t12 (.int .i64 1) fun t13 =>
      Join (fun (k_2 : Value → World → Prop) =>
        condW t13 (
          binQ Tryd.prog w .mul 3 false t3 t4 fun t16 =>
          binQ Tryd.prog w .rem 3 true t16 (.int .i64 2147483647) fun t17 =>
          k_2 t17 w
        ) (
          k_2 t3 w
        )
      ) fun t3_2 w =>
      binQ Tryd.prog w .mul 3 false t4 t4 fun t20_2 =>
      binQ Tryd.prog w .rem 3 true t20_2 (.int .i64 2147483647) fun t21_2 =>
      binQ Tryd.prog w .quo 3 true t5 (.int .i64 2) fun t10_2 =>
      next t3_2 t21_2 t10_2 w
    ) (
      R (.returned t3) w
    )



def S60 (t0 : Value) (w : World) (R : Ending → World → Prop) : Prop :=
  S60L0 t0 R w

def A60 : Ann where
  live := fun
    | 0 => [3, 4, 5]
    | _ => []
  wr := fun
    | 0 => fun i => (Nat.ble 3 i && Nat.ble i 5) || (Nat.ble 7 i && Nat.ble i 21)
    | _ => fun _ => false
  sched := fun _ => .done

set_option maxRecDepth 100000 in
theorem ok60 : (codeOk Tryd.f60.ntmps A60 (Tryd.f60.body.getD .skip) 0 && Nat.ble 1 Tryd.f60.ntmps) = true := by kernel_rfl
set_option maxRecDepth 100000 in
theorem lift60 {t0 : Value} {w : World} {R : Ending → World → Prop} (h : S60 t0 w R) : Calls Tryd.prog 60 #[t0] w R :=
  calls_of_cw (fn := Tryd.f60) (c := Tryd.f60.body.getD .skip) A60 mixes Tryd.func60 (by kernel_rfl) ok60
    ((by kernel_rfl : (S60 t0 w R) = cw Tryd.prog A60 (Tryd.f60.body.getD .skip) 0 (bodyQ Tryd.prog Tryd.f60 R) (frOf #[t0]) w).mp h)

theorem fok10 : fnOk Tryd.prog 10 = true := by kernel_rfl
theorem fok28 : fnOk Tryd.prog 28 = true := by kernel_rfl
theorem fok58 : fnOk Tryd.prog 58 = true := by kernel_rfl
theorem fok59 : fnOk Tryd.prog 59 = true := by kernel_rfl
theorem fok60 : fnOk Tryd.prog 60 = true := by kernel_rfl
end Go.Proofs.YtbekeccfjmoonaaDoor

/- Determinants modulo 2^31 - 1, plainly. No program. -/
namespace Go.Dt

def Mo (a b : Int) : Prop := ∃ k : Int, a = b + 2147483647 * k
theorem Mo.refl (a : Int) : Mo a a := ⟨0, by omega⟩
theorem Mo.symm {a b : Int} : Mo a b → Mo b a := fun ⟨k, h⟩ => ⟨-k, by omega⟩
theorem Mo.trans {a b c : Int} : Mo a b → Mo b c → Mo a c := fun ⟨k, h⟩ ⟨q, g⟩ => ⟨k + q, by omega⟩
theorem Mo.add {a b c d : Int} : Mo a b → Mo c d → Mo (a + c) (b + d) := fun ⟨k, h⟩ ⟨q, g⟩ => ⟨k + q, by omega⟩
theorem Mo.neg {a b : Int} : Mo a b → Mo (-a) (-b) := fun ⟨k, h⟩ => ⟨-k, by omega⟩
theorem Mo.mul {a b c d : Int} : Mo a b → Mo c d → Mo (a * c) (b * d) := fun ⟨k, h⟩ ⟨q, g⟩ => ⟨b * q + k * d + 2147483647 * (k * q), by subst h; subst g; grind⟩
theorem Mo.emod (a : Int) : Mo (a % 2147483647) a := ⟨-(a / 2147483647), by omega⟩
/-- Two in reach of each other are one. -/
theorem Mo.eq {a b : Int} (h : Mo a b) (h1 : -1073741824 < a) (h2 : a < 1073741824) (h3 : -1073741824 < b) (h4 : b < 1073741824) : a = b := by
  obtain ⟨k, h⟩ := h
  omega
theorem Mo.sumN {f g : Nat → Int} : ∀ {n : Nat}, (∀ i, i < n → Mo (f i) (g i)) → Mo (sumN f n) (sumN g n)
  | 0, _ => Mo.refl _
  | n + 1, h => (Mo.sumN fun i hi => h i (by omega)).add (h n (by omega))
theorem det_mo : ∀ {n : Nat} {A B : Nat → Nat → Int}, (∀ i j, i < n → j < n → Mo (A i j) (B i j)) → Mo (det n A) (det n B)
  | 0, _, _, _ => Mo.refl _
  | n + 1, A, B, h => by
    unfold det
    refine Mo.sumN fun j hj => ?_
    exact ((Mo.refl _).mul (h 0 j (by omega) hj)).mul (det_mo fun i k hi hk => h (i + 1) (sk j k) (by omega) (by have := sk_le j k; omega))
/-- Nothing under the corner. -/
theorem det_corner {n : Nat} (A : Nat → Nat → Int) (h : ∀ i, 0 < i → i < n + 1 → A i 0 = 0) : det (n + 1) A = A 0 0 * det n fun i j => A (i + 1) (j + 1) := by
  rw [det_byCol, if_neg (by omega), sum_one (c := 0) (by omega) fun i hi h0 => by rw [h i (by omega) hi]; simp]
  rw [sgn_zero, Int.one_mul, Int.add_zero]
  congr 1
/-- The first row, so many times, put on others. -/
theorem det_rows {n : Nat} (A : Nat → Nat → Int) (x : Nat → Int) : ∀ k, k ≤ n → det (n + 1) (fun i j => if 0 < i ∧ i ≤ k then A i j + x i * A 0 j else A i j) = det (n + 1) A
  | 0, _ => det_congr fun i j hi hj => if_neg (by omega)
  | k + 1, hk => by
    have ih := det_rows (n := n) A x k (by omega)
    rw [← ih]
    generalize hB : (fun i j => if 0 < i ∧ i ≤ k then A i j + x i * A 0 j else A i j) = B
    have e : (fun i j => if 0 < i ∧ i ≤ k + 1 then A i j + x i * A 0 j else A i j) = setRow B (k + 1) fun j => B (k + 1) j + x (k + 1) * B 0 j := by
      funext i j
      unfold setRow
      subst hB
      by_cases h : i = k + 1
      · subst h
        rw [if_pos (by omega), if_pos rfl]
        simp only [show ¬ (0 < k + 1 ∧ k + 1 ≤ k) by omega, show ¬ (0 < 0 ∧ 0 ≤ k) by omega, if_false]
      · rw [if_neg h]
        show _ = if 0 < i ∧ i ≤ k then A i j + x i * A 0 j else A i j
        by_cases h2 : 0 < i ∧ i ≤ k
        · rw [if_pos h2, if_pos (by omega)]
        · rw [if_neg h2, if_neg (by omega)]
    rw [e, det_row_add (r := k + 1) _ _ _ (by omega), setRow_self, det_row_mul (r := k + 1) _ _ _ (by omega),
      det_row_same (setRow B (k + 1) (B 0)) (r := k + 1) (s := 0) (by omega) (by omega) (by omega) fun j hj => by simp [setRow], Int.mul_zero, Int.add_zero]
/-- One step of the elimination modulo the prime, at the block from k on. -/
theorem det_elim {n k : Nat} (hk : k < n) (A B : Nat → Nat → Int) (x : Nat → Int) (h0 : ∀ r j, k < r → r < n → k < j → j < n → Mo (B r j) (A r j + x r * A k j))
    (h1 : ∀ r, k < r → r < n → Mo (A r k + x r * A k k) 0) :
    Mo (det (n - k) fun i j => A (k + i) (k + j)) (A k k * det (n - (k + 1)) fun i j => B (k + 1 + i) (k + 1 + j)) := by
  obtain ⟨m, rfl⟩ : ∃ m, n = k + m + 1 := ⟨n - k - 1, by omega⟩
  rw [show k + m + 1 - k = m + 1 by omega, show k + m + 1 - (k + 1) = m by omega]
  rw [← det_rows (fun i j => A (k + i) (k + j)) (fun i => x (k + i)) m (Nat.le_refl _)]
  refine (det_mo (B := fun i j => if 0 < i then (if j = 0 then 0 else B (k + i) (k + j)) else A (k + i) (k + j)) fun i j hi hj => ?_).trans ?_
  · by_cases hi0 : 0 < i
    · rw [if_pos (by omega), if_pos hi0]
      by_cases hj0 : j = 0
      · subst hj0
        rw [if_pos rfl]
        exact h1 (k + i) (by omega) (by omega)
      · rw [if_neg hj0]
        exact (h0 (k + i) (k + j) (by omega) (by omega) (by omega) (by omega)).symm
    · rw [if_neg (by omega), if_neg hi0]
      exact Mo.refl _
  · rw [det_corner _ fun i hi hin => by rw [if_pos hi, if_pos rfl]]
    simp only [show ¬ (0 < 0) by omega, if_false, Nat.add_zero, show ∀ i : Nat, 0 < i + 1 from fun i => by omega, if_true, show ∀ j : Nat, ¬ (j + 1 = 0) from fun j => by omega]
    rw [det_congr (m := fun i j => B (k + (i + 1)) (k + (j + 1))) (m' := fun i j => B (k + 1 + i) (k + 1 + j)) fun i j _ _ => by rw [show k + (i + 1) = k + 1 + i by omega, show k + (j + 1) = k + 1 + j by omega]]
    exact Mo.refl _
/-- An empty column. -/
theorem det_empty {n k : Nat} (hk : k < n) (A : Nat → Nat → Int) (h : ∀ r, k ≤ r → r < n → A r k = 0) : det (n - k) (fun i j => A (k + i) (k + j)) = 0 := by
  obtain ⟨m, rfl⟩ : ∃ m, n = k + m + 1 := ⟨n - k - 1, by omega⟩
  rw [show k + m + 1 - k = m + 1 by omega, det_corner _ fun i hi hin => h (k + i) (by omega) (by omega)]
  have := h (k + 0) (by omega) (by omega)
  simp only [Nat.add_zero] at this ⊢
  rw [this, Int.zero_mul]
/-- Two rows change places. -/
theorem det_change {n k p : Nat} (hp0 : 0 < p) (hp : k + p < n) (A : Nat → Nat → Int) : det (n - k) (fun i j => A (xch k (k + p) (k + i)) (k + j)) = - det (n - k) (fun i j => A (k + i) (k + j)) := by
  rw [← det_xch (fun i j => A (k + i) (k + j)) (r := 0) (s := p) (by omega) (by omega) (by omega)]
  refine det_congr fun i j _ _ => ?_
  have : xch k (k + p) (k + i) = k + xch 0 p i := by unfold xch; split <;> split <;> (try split) <;> (try split) <;> omega
  rw [this]

end Go.Dt
