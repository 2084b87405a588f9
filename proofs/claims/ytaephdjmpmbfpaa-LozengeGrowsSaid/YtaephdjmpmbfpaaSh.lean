/- Lifted texts, printed by program (gen.py): what each function's code asks. The ties are by the kernel. -/
import Derived.Test.YtaephdjmpmbfpaaBase
set_option linter.all false
namespace Go.Proofs.Ytaephdjmpmbfpaa
open Go.Lf Go.RowKit

def S14 (t0 t1 : Value) (w : World) (R : Ending → World → Prop) : Prop :=
  boxW 25 t0 w fun t2 w =>
  ldN 3 w t2 fun t14 =>
  callW Try.prog (.func (.func 47) #[] #[]) [t14, t1] w fun t16 w =>
  binQ Try.prog w .neq 31 true t16 (.int .i64 0) fun t18 =>
  condW t18 (
    R (.returned (.tuple #[(.slice none 0 0), (.slice none 0 0), t16])) w
  ) (
    ln1 t1 fun t21 =>
    Loop3 (.slice none 0 0) (.slice none 0 0) (.int .i64 0) w fun _ t8 t9 t22 w next =>
      binQ Try.prog w .lss 3 false t22 t21 fun t23 =>
      condW t23 (
        iaS 1 t1 t22 fun t25 =>
        ld1 w t25 fun t26 =>
        ln1 t26 fun t28 =>
        Loop3 t8 t9 (.int .i64 0) w fun _ t8_2 t9_2 t29 w next_2 =>
          binQ Try.prog w .lss 3 false t29 t28 fun t30 =>
          condW t30 (
            iaS 1 t26 t29 fun t32 =>
            ld1 w t32 fun t33 =>
            Join (fun (k_2 : Value → World → Prop) =>
              fa1 t2 2 fun t35 =>
              ld1 w t35 fun t36 =>
              binQ Try.prog w .lss 3 false t33 t36 fun t37 =>
              gd t37 true (fun k => k t29 w) w fun t39 w =>
              gd t37 true (fun k => binQ Try.prog w .eql 3 true t39 (.int .i64 0) fun v => k v w) w fun t40 w =>
              gd t37 true (fun k => k t40 w) w fun t41 w =>
              gd t41 false (fun k => k t26 w) w fun t42 w =>
              gd t41 false (fun k => k t29 w) w fun t43 w =>
              gd t41 false (fun k => binQ Try.prog w .sub 3 true t43 (.int .i64 1) fun v => k v w) w fun t44 w =>
              gd t41 false (fun k => iaS 1 t42 t44 fun v => k v w) w fun t45 w =>
              gd t41 false (fun k => ld1 w t45 fun v => k v w) w fun t46 w =>
              gd t41 false (fun k => k t33 w) w fun t47 w =>
              gd t41 false (fun k => binQ Try.prog w .gtr 3 false t46 t47 fun v => k v w) w fun t48 w =>
              gd t37 true (fun k => pickQ t41 (.bool true) t48 fun v => k v w) w fun t49 w =>
              pickQ t37 t49 (.bool false) fun t50 =>
              gd t50 true (fun k => k t22 w) w fun t52 w =>
              gd t50 true (fun k => binQ Try.prog w .eql 3 true t52 (.int .i64 0) fun v => k v w) w fun t53 w =>
              gd t50 true (fun k => k t53 w) w fun t54 w =>
              gd t54 false (fun k => k t1 w) w fun t55 w =>
              gd t54 false (fun k => k t22 w) w fun t56 w =>
              gd t54 false (fun k => binQ Try.prog w .sub 3 true t56 (.int .i64 1) fun v => k v w) w fun t57 w =>
              gd t54 false (fun k => iaS 1 t55 t57 fun v => k v w) w fun t58 w =>
              gd t54 false (fun k => ld1 w t58 fun v => k v w) w fun t59 w =>
              gd t54 false (fun k => k t29 w) w fun t60 w =>
              gd t54 false (fun k => iaS 1 t59 t60 fun v => k v w) w fun t61 w =>
              gd t54 false (fun k => ld1 w t61 fun v => k v w) w fun t62 w =>
              gd t54 false (fun k => k t33 w) w fun t63 w =>
              gd t54 false (fun k => binQ Try.prog w .gtr 3 false t62 t63 fun v => k v w) w fun t64 w =>
              gd t50 true (fun k => pickQ t54 (.bool true) t64 fun v => k v w) w fun t65 w =>
              pickQ t50 t65 (.bool false) fun t66 =>
              k_2 t66 w
            ) fun t66_2 w =>
            Join (fun (k_5 : Value → World → Prop) =>
              condW t66_2 (
                bdQ Try.prog 35 [(0, t29), (1, t22)] fun t70 =>
                bsW Try.prog 30 1 [(0, t70)] w fun t71 w =>
                semW Try.prog (apS [30, 30] 30 [t8_2, t71]) w fun t72 w =>
                k_5 t72 w
              ) (
                k_5 t8_2 w
              )
            ) fun t8_3 w =>
            Join (fun (k_6 : Value → World → Prop) =>
              binQ Try.prog w .gtr 3 true t33 (.int .i64 0) fun t74_2 =>
              gd t74_2 true (fun k => k t29 w) w fun t76_2 w =>
              gd t74_2 true (fun k => fa1 t2 1 fun v => k v w) w fun t77_2 w =>
              gd t74_2 true (fun k => ld1 w t77_2 fun v => k v w) w fun t78_2 w =>
              gd t74_2 true (fun k => binQ Try.prog w .sub 3 true t78_2 (.int .i64 1) fun v => k v w) w fun t79_2 w =>
              gd t74_2 true (fun k => binQ Try.prog w .eql 3 false t76_2 t79_2 fun v => k v w) w fun t80_2 w =>
              gd t74_2 true (fun k => k t80_2 w) w fun t81_2 w =>
              gd t81_2 false (fun k => k t26 w) w fun t82_2 w =>
              gd t81_2 false (fun k => k t29 w) w fun t83_2 w =>
              gd t81_2 false (fun k => binQ Try.prog w .add 3 true t83_2 (.int .i64 1) fun v => k v w) w fun t84_2 w =>
              gd t81_2 false (fun k => iaS 1 t82_2 t84_2 fun v => k v w) w fun t85_2 w =>
              gd t81_2 false (fun k => ld1 w t85_2 fun v => k v w) w fun t86_2 w =>
              gd t81_2 false (fun k => k t33 w) w fun t87_2 w =>
              gd t81_2 false (fun k => binQ Try.prog w .lss 3 false t86_2 t87_2 fun v => k v w) w fun t88_2 w =>
              gd t74_2 true (fun k => pickQ t81_2 (.bool true) t88_2 fun v => k v w) w fun t89_2 w =>
              pickQ t74_2 t89_2 (.bool false) fun t90_2 =>
              gd t90_2 true (fun k => k t22 w) w fun t92_2 w =>
              gd t90_2 true (fun k => fa1 t2 0 fun v => k v w) w fun t93_2 w =>
              gd t90_2 true (fun k => ld1 w t93_2 fun v => k v w) w fun t94_2 w =>
              gd t90_2 true (fun k => binQ Try.prog w .sub 3 true t94_2 (.int .i64 1) fun v => k v w) w fun t95_2 w =>
              gd t90_2 true (fun k => binQ Try.prog w .eql 3 false t92_2 t95_2 fun v => k v w) w fun t96_2 w =>
              gd t90_2 true (fun k => k t96_2 w) w fun t97_2 w =>
              gd t97_2 false (fun k => k t1 w) w fun t98_2 w =>
              gd t97_2 false (fun k => k t22 w) w fun t99_2 w =>
              gd t97_2 false (fun k => binQ Try.prog w .add 3 true t99_2 (.int .i64 1) fun v => k v w) w fun t100_2 w =>
              gd t97_2 false (fun k => iaS 1 t98_2 t100_2 fun v => k v w) w fun t101_2 w =>
              gd t97_2 false (fun k => ld1 w t101_2 fun v => k v w) w fun t102_2 w =>
              gd t97_2 false (fun k => k t29 w) w fun t103_2 w =>
              gd t97_2 false (fun k => iaS 1 t102_2 t103_2 fun v => k v w) w fun t104_2 w =>
              gd t97_2 false (fun k => ld1 w t104_2 fun v => k v w) w fun t105_2 w =>
              gd t97_2 false (fun k => k t33 w) w fun t106_2 w =>
              gd t97_2 false (fun k => binQ Try.prog w .lss 3 false t105_2 t106_2 fun v => k v w) w fun t107_2 w =>
              gd t90_2 true (fun k => pickQ t97_2 (.bool true) t107_2 fun v => k v w) w fun t108_2 w =>
              pickQ t90_2 t108_2 (.bool false) fun t109_3 =>
              k_6 t109_3 w
            ) fun t109_4 w =>
            Join (fun (k_7 : Value → World → Prop) =>
              condW t109_4 (
                bdQ Try.prog 35 [(0, t29), (1, t22)] fun t113_2 =>
                bsW Try.prog 30 1 [(0, t113_2)] w fun t114_2 w =>
                semW Try.prog (apS [30, 30] 30 [t9_2, t114_2]) w fun t115_2 w =>
                k_7 t115_2 w
              ) (
                k_7 t9_2 w
              )
            ) fun t9_4 w =>
            binQ Try.prog w .add 3 true t29 (.int .i64 1) fun t116_4 =>
            next_2 t8_3 t9_4 t116_4 w
          ) (
            binQ Try.prog w .add 3 true t22 (.int .i64 1) fun t117 =>
            next t8_2 t9_2 t117 w
          )
      ) (
        R (.returned (.tuple #[t8, t9, (.int .i64 0)])) w
      )
  )

def A14 : Ann where
  live := fun
    | 0 => [8, 9, 22]
    | 2 => [8, 9, 29]
    | _ => []
  wr := fun
    | 0 => fun i => (Nat.ble 8 i && Nat.ble i 13) || (Nat.ble 22 i && Nat.ble i 117)
    | 2 => fun i => (Nat.ble 8 i && Nat.ble i 9) || (Nat.ble 12 i && Nat.ble i 13) || (Nat.ble 29 i && Nat.ble i 116)
    | _ => fun _ => false
  sched := fun _ => .done

set_option maxRecDepth 100000 in
theorem ok14 : (codeOk Try.f14.ntmps A14 (Try.f14.body.getD .skip) 0 && Nat.ble 2 Try.f14.ntmps) = true := by kernel_rfl
set_option maxRecDepth 100000 in
theorem lift14 {t0 t1 : Value} {w : World} {R : Ending → World → Prop} (h : S14 t0 t1 w R) : Calls Try.prog 14 #[t0, t1] w R :=
  calls_of_cw (fn := Try.f14) (c := Try.f14.body.getD .skip) A14 mixes Try.func14 (by kernel_rfl) ok14
    ((by kernel_rfl : (S14 t0 t1 w R) = cw Try.prog A14 (Try.f14.body.getD .skip) 0 (bodyQ Try.prog Try.f14 R) (frOf #[t0, t1]) w).mp h)

def S39 (t0 t1 : Value) (w : World) (R : Ending → World → Prop) : Prop :=
  boxW 25 t0 w fun t2 w =>
  boxW 3 t1 w fun t3 w =>
  Join (fun (k_2 : Value → World → Prop) =>
    ldN 3 w t2 fun t7 =>
    callW Try.prog (.func (.func 58) #[] #[]) [t7] w fun t8 w =>
    unQ .not t8 fun t9 =>
    gd t9 false (fun k => ld1 w t3 fun v => k v w) w fun t11 w =>
    gd t9 false (fun k => binQ Try.prog w .lss 3 true t11 (.int .i64 0) fun v => k v w) w fun t12 w =>
    pickQ t9 (.bool true) t12 fun t13 =>
    gd t13 false (fun k => ld1 w t3 fun v => k v w) w fun t15 w =>
    gd t13 false (fun k => binQ Try.prog w .gtr 3 true t15 (.int .i64 4) fun v => k v w) w fun t16 w =>
    pickQ t13 (.bool true) t16 fun t17 =>
    gd t17 false (fun k => ld1 w t3 fun v => k v w) w fun t19 w =>
    gd t17 false (fun k => binQ Try.prog w .eql 3 true t19 (.int .i64 2) fun v => k v w) w fun t20 w =>
    gd t17 false (fun k => k t20 w) w fun t21 w =>
    gd t21 false (fun k => ld1 w t3 fun v => k v w) w fun t22 w =>
    gd t21 false (fun k => binQ Try.prog w .eql 3 true t22 (.int .i64 4) fun v => k v w) w fun t23 w =>
    gd t17 false (fun k => pickQ t21 (.bool true) t23 fun v => k v w) w fun t24 w =>
    gd t17 false (fun k => k t24 w) w fun t25 w =>
    gd t25 true (fun k => fa1 t2 0 fun v => k v w) w fun t26 w =>
    gd t25 true (fun k => ld1 w t26 fun v => k v w) w fun t27 w =>
    gd t25 true (fun k => fa1 t2 1 fun v => k v w) w fun t28 w =>
    gd t25 true (fun k => ld1 w t28 fun v => k v w) w fun t29 w =>
    gd t25 true (fun k => binQ Try.prog w .neq 3 false t27 t29 fun v => k v w) w fun t30 w =>
    gd t17 false (fun k => pickQ t25 t30 (.bool false) fun v => k v w) w fun t31 w =>
    pickQ t17 (.bool true) t31 fun t32 =>
    gd t32 false (fun k => ld1 w t3 fun v => k v w) w fun t34 w =>
    gd t32 false (fun k => binQ Try.prog w .eql 3 true t34 (.int .i64 3) fun v => k v w) w fun t35 w =>
    gd t32 false (fun k => k t35 w) w fun t36 w =>
    gd t36 true (fun k => fa1 t2 0 fun v => k v w) w fun t37 w =>
    gd t36 true (fun k => ld1 w t37 fun v => k v w) w fun t38 w =>
    gd t36 true (fun k => fa1 t2 1 fun v => k v w) w fun t39 w =>
    gd t36 true (fun k => ld1 w t39 fun v => k v w) w fun t40 w =>
    gd t36 true (fun k => binQ Try.prog w .neq 3 false t38 t40 fun v => k v w) w fun t41 w =>
    gd t36 true (fun k => k t41 w) w fun t42 w =>
    gd t42 false (fun k => fa1 t2 1 fun v => k v w) w fun t43 w =>
    gd t42 false (fun k => ld1 w t43 fun v => k v w) w fun t44 w =>
    gd t42 false (fun k => fa1 t2 2 fun v => k v w) w fun t45 w =>
    gd t42 false (fun k => ld1 w t45 fun v => k v w) w fun t46 w =>
    gd t42 false (fun k => binQ Try.prog w .neq 3 false t44 t46 fun v => k v w) w fun t47 w =>
    gd t36 true (fun k => pickQ t42 (.bool true) t47 fun v => k v w) w fun t48 w =>
    gd t32 false (fun k => pickQ t36 t48 (.bool false) fun v => k v w) w fun t49 w =>
    pickQ t32 (.bool true) t49 fun t50 =>
    k_2 t50 w
  ) fun t50_2 w =>
  condW t50_2 (
    R (.returned (.tuple #[(.int .i64 0), (.int .i64 2)])) w
  ) (
    boxW 3 (.int .i64 0) w fun t6 w =>
    stW Try.prog 3 t6 (.int .i64 0) w fun w =>
    ldN 3 w t2 fun t51 =>
    callW Try.prog (.func (.func 73) #[] #[]) [t51, (.func (.func 74) #[] #[t2, t3, t6])] w fun t53 w =>
    ld1 w t6 fun t54 =>
    R (.returned (.tuple #[t54, (.int .i64 0)])) w
  )

def A39 : Ann where
  live := fun _ => []
  wr := fun _ _ => false
  sched := fun _ => .done

set_option maxRecDepth 100000 in
theorem ok39 : (codeOk Try.f39.ntmps A39 (Try.f39.body.getD .skip) 0 && Nat.ble 2 Try.f39.ntmps) = true := by kernel_rfl
set_option maxRecDepth 100000 in
theorem lift39 {t0 t1 : Value} {w : World} {R : Ending → World → Prop} (h : S39 t0 t1 w R) : Calls Try.prog 39 #[t0, t1] w R :=
  calls_of_cw (fn := Try.f39) (c := Try.f39.body.getD .skip) A39 mixes Try.func39 (by kernel_rfl) ok39
    ((by kernel_rfl : (S39 t0 t1 w R) = cw Try.prog A39 (Try.f39.body.getD .skip) 0 (bodyQ Try.prog Try.f39 R) (frOf #[t0, t1]) w).mp h)

def S40 (t0 t1 : Value) (w : World) (R : Ending → World → Prop) : Prop :=
  boxW 25 t0 w fun t2 w =>
  Join (fun (k_2 : Value → World → Prop) =>
    ldN 3 w t2 fun t9 =>
    callW Try.prog (.func (.func 62) #[] #[]) [t9] w fun t10 w =>
    unQ .not t10 fun t11 =>
    gd t11 false (fun k => k t1 w) w fun t13 w =>
    gd t11 false (fun k => binQ Try.prog w .lss 3 true t13 (.int .i64 0) fun v => k v w) w fun t14 w =>
    pickQ t11 (.bool true) t14 fun t15 =>
    gd t15 false (fun k => k t1 w) w fun t17 w =>
    gd t15 false (fun k => binQ Try.prog w .gtr 3 true t17 (.int .i64 4) fun v => k v w) w fun t18 w =>
    pickQ t15 (.bool true) t18 fun t19 =>
    gd t19 false (fun k => k t1 w) w fun t21 w =>
    gd t19 false (fun k => binQ Try.prog w .eql 3 true t21 (.int .i64 2) fun v => k v w) w fun t22 w =>
    gd t19 false (fun k => k t22 w) w fun t23 w =>
    gd t23 false (fun k => k t1 w) w fun t24 w =>
    gd t23 false (fun k => binQ Try.prog w .eql 3 true t24 (.int .i64 4) fun v => k v w) w fun t25 w =>
    gd t19 false (fun k => pickQ t23 (.bool true) t25 fun v => k v w) w fun t26 w =>
    gd t19 false (fun k => k t26 w) w fun t27 w =>
    gd t27 true (fun k => fa1 t2 0 fun v => k v w) w fun t28 w =>
    gd t27 true (fun k => ld1 w t28 fun v => k v w) w fun t29 w =>
    gd t27 true (fun k => fa1 t2 1 fun v => k v w) w fun t30 w =>
    gd t27 true (fun k => ld1 w t30 fun v => k v w) w fun t31 w =>
    gd t27 true (fun k => binQ Try.prog w .neq 3 false t29 t31 fun v => k v w) w fun t32 w =>
    gd t19 false (fun k => pickQ t27 t32 (.bool false) fun v => k v w) w fun t33 w =>
    pickQ t19 (.bool true) t33 fun t34 =>
    gd t34 false (fun k => k t1 w) w fun t36 w =>
    gd t34 false (fun k => binQ Try.prog w .eql 3 true t36 (.int .i64 3) fun v => k v w) w fun t37 w =>
    gd t34 false (fun k => k t37 w) w fun t38 w =>
    gd t38 true (fun k => fa1 t2 0 fun v => k v w) w fun t39 w =>
    gd t38 true (fun k => ld1 w t39 fun v => k v w) w fun t40 w =>
    gd t38 true (fun k => fa1 t2 1 fun v => k v w) w fun t41 w =>
    gd t38 true (fun k => ld1 w t41 fun v => k v w) w fun t42 w =>
    gd t38 true (fun k => binQ Try.prog w .neq 3 false t40 t42 fun v => k v w) w fun t43 w =>
    gd t38 true (fun k => k t43 w) w fun t44 w =>
    gd t44 false (fun k => fa1 t2 1 fun v => k v w) w fun t45 w =>
    gd t44 false (fun k => ld1 w t45 fun v => k v w) w fun t46 w =>
    gd t44 false (fun k => fa1 t2 2 fun v => k v w) w fun t47 w =>
    gd t44 false (fun k => ld1 w t47 fun v => k v w) w fun t48 w =>
    gd t44 false (fun k => binQ Try.prog w .neq 3 false t46 t48 fun v => k v w) w fun t49 w =>
    gd t38 true (fun k => pickQ t44 (.bool true) t49 fun v => k v w) w fun t50 w =>
    gd t34 false (fun k => pickQ t38 t50 (.bool false) fun v => k v w) w fun t51 w =>
    pickQ t34 (.bool true) t51 fun t52 =>
    k_2 t52 w
  ) fun t52_2 w =>
  condW t52_2 (
    R (.returned (.tuple #[(.int .i64 0), (.int .i64 2)])) w
  ) (
    ldN 3 w t2 fun t53 =>
    callW Try.prog (.func (.func 66) #[] #[]) [t53] w fun t54 w =>
    Loop2 (.int .i64 0) (.bool true) w fun _ t6 t8 w next =>
      condW t8 (
        ldN 3 w t2 fun t59 =>
        callW Try.prog (.func (.func 16) #[] #[]) [t59, t54, t1] w fun t62 w =>
        callW Try.prog (.func (.func 20) #[] #[]) [t62, t54] w fun t64 w =>
        Join (fun (k_3 : Value → World → Prop) =>
          condW t64 (
            binQ Try.prog w .add 3 true t6 (.int .i64 1) fun t66 =>
            k_3 t66 w
          ) (
            k_3 t6 w
          )
        ) fun t6_2 w =>
        ldN 3 w t2 fun t56_2 =>
        callW Try.prog (.func (.func 23) #[] #[]) [t56_2, t54] w fun t58_2 w =>
        next t6_2 t58_2 w
      ) (
        R (.returned (.tuple #[t6, (.int .i64 0)])) w
      )
  )

def A40 : Ann where
  live := fun
    | 0 => [6, 8]
    | _ => []
  wr := fun
    | 0 => fun i => Nat.beq i 6 || Nat.beq i 8 || (Nat.ble 55 i && Nat.ble i 66)
    | _ => fun _ => false
  sched := fun _ => .done

set_option maxRecDepth 100000 in
theorem ok40 : (codeOk Try.f40.ntmps A40 (Try.f40.body.getD .skip) 0 && Nat.ble 2 Try.f40.ntmps) = true := by kernel_rfl
set_option maxRecDepth 100000 in
theorem lift40 {t0 t1 : Value} {w : World} {R : Ending → World → Prop} (h : S40 t0 t1 w R) : Calls Try.prog 40 #[t0, t1] w R :=
  calls_of_cw (fn := Try.f40) (c := Try.f40.body.getD .skip) A40 mixes Try.func40 (by kernel_rfl) ok40
    ((by kernel_rfl : (S40 t0 t1 w R) = cw Try.prog A40 (Try.f40.body.getD .skip) 0 (bodyQ Try.prog Try.f40 R) (frOf #[t0, t1]) w).mp h)

def S9 (t0 t1 : Value) (w : World) (R : Ending → World → Prop) : Prop :=
  boxW 25 t0 w fun t2 w =>
  ldN 3 w t2 fun t10 =>
  callW Try.prog (.func (.func 39) #[] #[]) [t10, t1] w fun t12 w =>
  exQ t12 0 fun t13 =>
  exQ t12 1 fun t14 =>
  ldN 3 w t2 fun t16 =>
  callW Try.prog (.func (.func 40) #[] #[]) [t16, t1] w fun t18 w =>
  exQ t18 0 fun t19 =>
  exQ t18 1 fun t20 =>
  binQ Try.prog w .eql 3 false t13 t19 fun t23 =>
  gd t23 true (fun k => k t14 w) w fun t25 w =>
  gd t23 true (fun k => k t20 w) w fun t26 w =>
  gd t23 true (fun k => binQ Try.prog w .eql 31 false t25 t26 fun v => k v w) w fun t27 w =>
  pickQ t23 t27 (.bool false) fun t28 =>
  gd t28 true (fun k => callW Try.prog (.func (.func 17) #[] #[]) [] w k) w fun t30 w =>
  pickQ t28 t30 (.bool false) fun t31 =>
  R (.returned t31) w

def A9 : Ann where
  live := fun _ => []
  wr := fun _ _ => false
  sched := fun _ => .done

set_option maxRecDepth 100000 in
theorem ok9 : (codeOk Try.f9.ntmps A9 (Try.f9.body.getD .skip) 0 && Nat.ble 2 Try.f9.ntmps) = true := by kernel_rfl
set_option maxRecDepth 100000 in
theorem lift9 {t0 t1 : Value} {w : World} {R : Ending → World → Prop} (h : S9 t0 t1 w R) : Calls Try.prog 9 #[t0, t1] w R :=
  calls_of_cw (fn := Try.f9) (c := Try.f9.body.getD .skip) A9 mixes Try.func9 (by kernel_rfl) ok9
    ((by kernel_rfl : (S9 t0 t1 w R) = cw Try.prog A9 (Try.f9.body.getD .skip) 0 (bodyQ Try.prog Try.f9 R) (frOf #[t0, t1]) w).mp h)

def S73 (t0 t1 : Value) (w : World) (R : Ending → World → Prop) : Prop :=
  boxW 25 t0 w fun t2 w =>
  boxW 97 t1 w fun t3 w =>
  fa1 t2 0 fun t6 =>
  ld1 w t6 fun t7 =>
  mkW Try.prog 83 t7 t7 w fun t8 w =>
  boxW 83 (.slice none 0 0) w fun t4 w =>
  stW Try.prog 83 t4 t8 w fun w =>
  boxW 107 .nilFunc w fun t5 w =>
  stW Try.prog 107 t5 (.func (.func 90) #[] #[t2, t3, t4, t5]) w fun w =>
  Drew w fun w =>
  ld1 w t5 fun t10 =>
  ldN 3 w t2 fun t11 =>
  callW Try.prog (.func (.func 53) #[] #[]) [t11] w <| keepB w fun t12 w =>
  callW Try.prog t10 [(.int .i64 0), t12] w fun t13 w =>
  R (.returned (.tuple #[])) w

def A73 : Ann where
  live := fun _ => []
  wr := fun _ _ => false
  sched := fun
    | 4 => (.take 0 (.take 1 (.eff 2 (.bar 3 .done))))
    | _ => .done

set_option maxRecDepth 100000 in
theorem ok73 : (codeOk Try.f73.ntmps A73 (Try.f73.body.getD .skip) 0 && Nat.ble 2 Try.f73.ntmps) = true := by kernel_rfl
set_option maxRecDepth 100000 in
theorem lift73 {t0 t1 : Value} {w : World} {R : Ending → World → Prop} (h : S73 t0 t1 w R) : Calls Try.prog 73 #[t0, t1] w R :=
  calls_of_cw (fn := Try.f73) (c := Try.f73.body.getD .skip) A73 mixes Try.func73 (by kernel_rfl) ok73
    ((by kernel_rfl : (S73 t0 t1 w R) = cw Try.prog A73 (Try.f73.body.getD .skip) 0 (bodyQ Try.prog Try.f73 R) (frOf #[t0, t1]) w).mp h)

def S74 (t0 t1 t2 t3 : Value) (w : World) (R : Ending → World → Prop) : Prop :=
  boxW 83 t0 w fun t4 w =>
  ldN 3 w t1 fun t6 =>
  ld1 w t4 fun t7 =>
  callW Try.prog (.func (.func 75) #[] #[]) [t6, t7, (.func (.func 76) #[] #[t2, t1, t4])] w fun t9 w =>
  condW t9 (
    ld1 w t3 fun t11 =>
    binQ Try.prog w .add 3 true t11 (.int .i64 1) fun t12 =>
    stW Try.prog 3 t3 t12 w fun w =>
    R (.returned (.tuple #[])) w
  ) (
    R (.returned (.tuple #[])) w
  )

def A74 : Ann where
  live := fun _ => []
  wr := fun _ _ => false
  sched := fun _ => .done

set_option maxRecDepth 100000 in
theorem ok74 : (codeOk Try.f74.ntmps A74 (Try.f74.body.getD .skip) 0 && Nat.ble 4 Try.f74.ntmps) = true := by kernel_rfl
set_option maxRecDepth 100000 in
theorem lift74 {t0 t1 t2 t3 : Value} {w : World} {R : Ending → World → Prop} (h : S74 t0 t1 t2 t3 w R) : Calls Try.prog 74 #[t0, t1, t2, t3] w R :=
  calls_of_cw (fn := Try.f74) (c := Try.f74.body.getD .skip) A74 mixes Try.func74 (by kernel_rfl) ok74
    ((by kernel_rfl : (S74 t0 t1 t2 t3 w R) = cw Try.prog A74 (Try.f74.body.getD .skip) 0 (bodyQ Try.prog Try.f74 R) (frOf #[t0, t1, t2, t3]) w).mp h)

def S75 (t0 t1 t2 : Value) (w : World) (R : Ending → World → Prop) : Prop :=
  boxW 25 t0 w fun t3 w =>
  fa1 t3 0 fun t9 =>
  ld1 w t9 fun t10 =>
  Loop1 (.int .i64 0) w fun _ t11 w next =>
    binQ Try.prog w .lss 3 false t11 t10 fun t12 =>
    condW t12 (
      fa1 t3 1 fun t14 =>
      ld1 w t14 fun t15 =>
      Loop1 (.int .i64 0) w fun _ t16 w next_2 =>
        binQ Try.prog w .lss 3 false t16 t15 fun t17 =>
        condW t17 (
          Drew w fun w =>
          iaS 4 t1 t11 fun t22 =>
          iaA 4 1 t22 t16 fun t23 =>
          ld1 w t23 fun t24 =>
          callW Try.prog t2 [t11, t16] w <| keepB w fun t28 w =>
          binQ Try.prog w .neq 3 false t24 t28 fun t29 =>
          condW t29 (
            R (.returned (.bool false)) w
          ) (
            binQ Try.prog w .add 3 true t16 (.int .i64 1) fun t30 =>
            next_2 t30 w
          )
        ) (
          binQ Try.prog w .add 3 true t11 (.int .i64 1) fun t31 =>
          next t31 w
        )
    ) (
      R (.returned (.bool true)) w
    )

def A75 : Ann where
  live := fun
    | 0 => [11]
    | 2 => [16]
    | _ => []
  wr := fun
    | 0 => fun i => (Nat.ble 6 i && Nat.ble i 8) || (Nat.ble 11 i && Nat.ble i 31)
    | 2 => fun i => Nat.beq i 6 || Nat.beq i 8 || (Nat.ble 16 i && Nat.ble i 30)
    | _ => fun _ => false
  sched := fun
    | 7 => (.take 0 (.take 1 (.take 2 (.take 3 (.take 4 (.take 5 (.take 6 (.take 7 (.take 8 (.eff 9 (.take 10 .done)))))))))))
    | _ => .done

set_option maxRecDepth 100000 in
theorem ok75 : (codeOk Try.f75.ntmps A75 (Try.f75.body.getD .skip) 0 && Nat.ble 3 Try.f75.ntmps) = true := by kernel_rfl
set_option maxRecDepth 100000 in
theorem lift75 {t0 t1 t2 : Value} {w : World} {R : Ending → World → Prop} (h : S75 t0 t1 t2 w R) : Calls Try.prog 75 #[t0, t1, t2] w R :=
  calls_of_cw (fn := Try.f75) (c := Try.f75.body.getD .skip) A75 mixes Try.func75 (by kernel_rfl) ok75
    ((by kernel_rfl : (S75 t0 t1 t2 w R) = cw Try.prog A75 (Try.f75.body.getD .skip) 0 (bodyQ Try.prog Try.f75 R) (frOf #[t0, t1, t2]) w).mp h)

def S76 (t0 t1 t2 t3 t4 : Value) (w : World) (R : Ending → World → Prop) : Prop :=
  ld1 w t2 fun t8 =>
  binQ Try.prog w .eql 3 true t8 (.int .i64 1) fun t10 =>
  condW t10 (
    Drew w fun w =>
    fa1 t3 2 fun t11 =>
    ld1 w t11 fun t12 =>
    ld1 w t4 fun t13 =>
    fa1 t3 0 fun t14 =>
    ld1 w t14 fun t15 =>
    binQ Try.prog w .sub 3 true t15 (.int .i64 1) fun t16 =>
    binQ Try.prog w .sub 3 false t16 t0 fun t18 =>
    fa1 t3 1 fun t19 =>
    ld1 w t19 fun t20 =>
    binQ Try.prog w .sub 3 true t20 (.int .i64 1) fun t21 =>
    binQ Try.prog w .sub 3 false t21 t1 fun t23 =>
    iaS 4 t13 t18 fun t24 =>
    iaA 4 1 t24 t23 fun t25 =>
    ld1 w t25 fun t26 =>
    binQ Try.prog w .sub 3 false t12 t26 fun t27 =>
    R (.returned t27) w
  ) (
    binQ Try.prog w .eql 3 true t8 (.int .i64 2) fun t29 =>
    condW t29 (
      ld1 w t4 fun t30 =>
      iaS 4 t30 t1 fun t33 =>
      iaA 4 1 t33 t0 fun t34 =>
      ld1 w t34 fun t35 =>
      R (.returned t35) w
    ) (
      binQ Try.prog w .eql 3 true t8 (.int .i64 3) fun t37 =>
      condW t37 (
        Drew w fun w =>
        ld1 w t4 fun t38 =>
        iaS 4 t38 t1 fun t40 =>
        fa1 t3 1 fun t41 =>
        ld1 w t41 fun t42 =>
        slA 4 1 t40 none (some t42) fun t43 =>
        callW Try.prog (.func (.func 77) #[] #[]) [t43, t0] w fun t45 w =>
        R (.returned t45) w
      ) (
        binQ Try.prog w .eql 3 true t8 (.int .i64 4) fun t47 =>
        condW t47 (
          Drew w fun w =>
          fa1 t3 2 fun t48 =>
          ld1 w t48 fun t49 =>
          ld1 w t4 fun t50 =>
          fa1 t3 1 fun t51 =>
          ld1 w t51 fun t52 =>
          binQ Try.prog w .sub 3 true t52 (.int .i64 1) fun t53 =>
          binQ Try.prog w .sub 3 false t53 t1 fun t55 =>
          fa1 t3 0 fun t56 =>
          ld1 w t56 fun t57 =>
          binQ Try.prog w .sub 3 true t57 (.int .i64 1) fun t58 =>
          binQ Try.prog w .sub 3 false t58 t0 fun t60 =>
          iaS 4 t50 t55 fun t61 =>
          iaA 4 1 t61 t60 fun t62 =>
          ld1 w t62 fun t63 =>
          binQ Try.prog w .sub 3 false t49 t63 fun t64 =>
          R (.returned t64) w
        ) (
          ld1 w t4 fun t65 =>
          iaS 4 t65 t0 fun t68 =>
          iaA 4 1 t68 t1 fun t69 =>
          ld1 w t69 fun t70 =>
          R (.returned t70) w
        )
      )
    )
  )

def A76 : Ann where
  live := fun _ => []
  wr := fun _ _ => false
  sched := fun
    | 3 => (.take 0 (.take 1 (.take 2 (.take 3 (.take 4 (.take 5 (.take 6 (.take 7 (.take 8 (.take 9 (.take 10 (.take 11 (.take 12 (.take 13 (.take 14 (.take 15 (.take 16 (.take 17 .done))))))))))))))))))
    | 7 => (.take 0 (.take 1 (.take 2 (.take 3 (.take 4 (.take 5 (.take 6 (.bar 7 (.take 8 .done)))))))))
    | 9 => (.take 0 (.take 1 (.take 2 (.take 3 (.take 4 (.take 5 (.take 6 (.take 7 (.take 8 (.take 9 (.take 10 (.take 11 (.take 12 (.take 13 (.take 14 (.take 15 (.take 16 (.take 17 .done))))))))))))))))))
    | _ => .done

set_option maxRecDepth 100000 in
theorem ok76 : (codeOk Try.f76.ntmps A76 (Try.f76.body.getD .skip) 0 && Nat.ble 5 Try.f76.ntmps) = true := by kernel_rfl
set_option maxRecDepth 100000 in
theorem lift76 {t0 t1 t2 t3 t4 : Value} {w : World} {R : Ending → World → Prop} (h : S76 t0 t1 t2 t3 t4 w R) : Calls Try.prog 76 #[t0, t1, t2, t3, t4] w R :=
  calls_of_cw (fn := Try.f76) (c := Try.f76.body.getD .skip) A76 mixes Try.func76 (by kernel_rfl) ok76
    ((by kernel_rfl : (S76 t0 t1 t2 t3 t4 w R) = cw Try.prog A76 (Try.f76.body.getD .skip) 0 (bodyQ Try.prog Try.f76 R) (frOf #[t0, t1, t2, t3, t4]) w).mp h)

def S90 (t0 t1 t2 t3 t4 t5 : Value) (w : World) (R : Ending → World → Prop) : Prop :=
  boxW 80 t1 w fun t7 w =>
  fa1 t2 0 fun t11 =>
  ld1 w t11 fun t12 =>
  binQ Try.prog w .eql 3 false t0 t12 fun t13 =>
  condW t13 (
    ld1 w t3 fun t14 =>
    ld1 w t4 fun t15 =>
    callW Try.prog t14 [t15] w fun t16 w =>
    R (.returned (.tuple #[])) w
  ) (
    ldN 3 w t2 fun t17 =>
    ldN 4 w t7 fun t18 =>
    callW Try.prog (.func (.func 55) #[] #[]) [t17, t18] w fun t19 w =>
    ln1 t19 fun t20 =>
    Loop1 (.int .i64 0) w fun _ t21 w next =>
      binQ Try.prog w .lss 3 false t21 t20 fun t22 =>
      condW t22 (
        iaS 4 t19 t21 fun t23 =>
        ldN 4 w t23 fun t24 =>
        boxW 80 (.agg #[(.int .i64 0), (.int .i64 0), (.int .i64 0), (.int .i64 0)]) w fun t9 w =>
        stW Try.prog 80 t9 t24 w fun w =>
        ld1 w t4 fun t25 =>
        ldN 4 w t9 fun t27 =>
        iaS 4 t25 t0 fun t28 =>
        stW Try.prog 80 t28 t27 w fun w =>
        ld1 w t5 fun t29 =>
        binQ Try.prog w .add 3 true t0 (.int .i64 1) fun t31 =>
        ldN 4 w t9 fun t32 =>
        callW Try.prog t29 [t31, t32] w fun t33 w =>
        binQ Try.prog w .add 3 true t21 (.int .i64 1) fun t34 =>
        next t34 w
      ) (
        R (.returned (.tuple #[])) w
      )
  )

def A90 : Ann where
  live := fun
    | 0 => [21]
    | _ => []
  wr := fun
    | 0 => fun i => Nat.beq i 9 || (Nat.ble 21 i && Nat.ble i 34)
    | _ => fun _ => false
  sched := fun _ => .done

set_option maxRecDepth 100000 in
theorem ok90 : (codeOk Try.f90.ntmps A90 (Try.f90.body.getD .skip) 0 && Nat.ble 6 Try.f90.ntmps) = true := by kernel_rfl
set_option maxRecDepth 100000 in
theorem lift90 {t0 t1 t2 t3 t4 t5 : Value} {w : World} {R : Ending → World → Prop} (h : S90 t0 t1 t2 t3 t4 t5 w R) : Calls Try.prog 90 #[t0, t1, t2, t3, t4, t5] w R :=
  calls_of_cw (fn := Try.f90) (c := Try.f90.body.getD .skip) A90 mixes Try.func90 (by kernel_rfl) ok90
    ((by kernel_rfl : (S90 t0 t1 t2 t3 t4 t5 w R) = cw Try.prog A90 (Try.f90.body.getD .skip) 0 (bodyQ Try.prog Try.f90 R) (frOf #[t0, t1, t2, t3, t4, t5]) w).mp h)

def S50 (t0 t1 : Value) (w : World) (R : Ending → World → Prop) : Prop :=
  boxW 25 t0 w fun t2 w =>
  fa1 t2 1 fun t8 =>
  ld1 w t8 fun t9 =>
  fa1 t2 0 fun t10 =>
  ld1 w t10 fun t11 =>
  fa1 t2 2 fun t12 =>
  ld1 w t12 fun t13 =>
  bdQ Try.prog 25 [(0, t9), (1, t11), (2, t13)] fun t14 =>
  callW Try.prog (.func (.func 66) #[] #[]) [t14] w fun t15 w =>
  Loop1 (.int .i64 0) w fun _ t6 w next =>
    fa1 t2 0 fun t17 =>
    ld1 w t17 fun t18 =>
    binQ Try.prog w .lss 3 false t6 t18 fun t19 =>
    condW t19 (
      Loop1 (.int .i64 0) w fun _ t7 w next_2 =>
        fa1 t2 1 fun t23 =>
        ld1 w t23 fun t24 =>
        binQ Try.prog w .lss 3 false t7 t24 fun t25 =>
        condW t25 (
          Drew w fun w =>
          iaS 1 t15 t7 fun t30 =>
          ld1 w t30 fun t31 =>
          iaS 1 t1 t6 fun t35 =>
          ld1 w t35 fun t36 =>
          iaS 1 t36 t7 fun t38 =>
          ld1 w t38 fun t39 =>
          iaS 1 t31 t6 fun t40 =>
          stW Try.prog 3 t40 t39 w fun w =>
          binQ Try.prog w .add 3 true t7 (.int .i64 1) fun t27 =>
          next_2 t27 w
        ) (
          binQ Try.prog w .add 3 true t6 (.int .i64 1) fun t21 =>
          next t21 w
        )
    ) (
      R (.returned t15) w
    )

def A50 : Ann where
  live := fun
    | 0 => [6]
    | 2 => [7]
    | _ => []
  wr := fun
    | 0 => fun i => (Nat.ble 6 i && Nat.ble i 7) || (Nat.ble 16 i && Nat.ble i 40)
    | 2 => fun i => Nat.beq i 7 || (Nat.ble 22 i && Nat.ble i 40)
    | _ => fun _ => false
  sched := fun
    | 8 => (.take 0 (.take 1 (.take 2 (.take 3 (.take 4 (.take 5 (.take 6 (.take 7 (.take 8 (.take 9 (.take 10 (.take 11 (.take 12 (.bar 13 .done))))))))))))))
    | _ => .done

set_option maxRecDepth 100000 in
theorem ok50 : (codeOk Try.f50.ntmps A50 (Try.f50.body.getD .skip) 0 && Nat.ble 2 Try.f50.ntmps) = true := by kernel_rfl
set_option maxRecDepth 100000 in
theorem lift50 {t0 t1 : Value} {w : World} {R : Ending → World → Prop} (h : S50 t0 t1 w R) : Calls Try.prog 50 #[t0, t1] w R :=
  calls_of_cw (fn := Try.f50) (c := Try.f50.body.getD .skip) A50 mixes Try.func50 (by kernel_rfl) ok50
    ((by kernel_rfl : (S50 t0 t1 w R) = cw Try.prog A50 (Try.f50.body.getD .skip) 0 (bodyQ Try.prog Try.f50 R) (frOf #[t0, t1]) w).mp h)

def S51 (t0 t1 : Value) (w : World) (R : Ending → World → Prop) : Prop :=
  boxW 25 t0 w fun t2 w =>
  fa1 t2 2 fun t8 =>
  ld1 w t8 fun t9 =>
  fa1 t2 0 fun t10 =>
  ld1 w t10 fun t11 =>
  fa1 t2 1 fun t12 =>
  ld1 w t12 fun t13 =>
  bdQ Try.prog 25 [(0, t9), (1, t11), (2, t13)] fun t14 =>
  callW Try.prog (.func (.func 66) #[] #[]) [t14] w fun t15 w =>
  Loop1 (.int .i64 0) w fun _ t6 w next =>
    fa1 t2 2 fun t17 =>
    ld1 w t17 fun t18 =>
    binQ Try.prog w .lss 3 false t6 t18 fun t19 =>
    condW t19 (
      Loop1 (.int .i64 0) w fun _ t7 w next_2 =>
        fa1 t2 0 fun t23 =>
        ld1 w t23 fun t24 =>
        binQ Try.prog w .lss 3 false t7 t24 fun t25 =>
        condW t25 (
          Drew w fun w =>
          iaS 1 t15 t6 fun t30 =>
          ld1 w t30 fun t31 =>
          iaS 1 t1 t7 fun t35 =>
          ld1 w t35 fun t36 =>
          callW Try.prog (.func (.func 82) #[] #[]) [t36, t6] w <| keepB w fun t38 w =>
          iaS 1 t31 t7 fun t39 =>
          stW Try.prog 3 t39 t38 w fun w =>
          binQ Try.prog w .add 3 true t7 (.int .i64 1) fun t27 =>
          next_2 t27 w
        ) (
          binQ Try.prog w .add 3 true t6 (.int .i64 1) fun t21 =>
          next t21 w
        )
    ) (
      R (.returned t15) w
    )

def A51 : Ann where
  live := fun
    | 0 => [6]
    | 2 => [7]
    | _ => []
  wr := fun
    | 0 => fun i => (Nat.ble 6 i && Nat.ble i 7) || (Nat.ble 16 i && Nat.ble i 39)
    | 2 => fun i => Nat.beq i 7 || (Nat.ble 22 i && Nat.ble i 39)
    | _ => fun _ => false
  sched := fun
    | 8 => (.take 0 (.take 1 (.take 2 (.take 3 (.take 4 (.take 5 (.take 6 (.take 7 (.take 8 (.take 9 (.eff 10 (.take 11 (.bar 12 .done)))))))))))))
    | _ => .done

set_option maxRecDepth 100000 in
theorem ok51 : (codeOk Try.f51.ntmps A51 (Try.f51.body.getD .skip) 0 && Nat.ble 2 Try.f51.ntmps) = true := by kernel_rfl
set_option maxRecDepth 100000 in
theorem lift51 {t0 t1 : Value} {w : World} {R : Ending → World → Prop} (h : S51 t0 t1 w R) : Calls Try.prog 51 #[t0, t1] w R :=
  calls_of_cw (fn := Try.f51) (c := Try.f51.body.getD .skip) A51 mixes Try.func51 (by kernel_rfl) ok51
    ((by kernel_rfl : (S51 t0 t1 w R) = cw Try.prog A51 (Try.f51.body.getD .skip) 0 (bodyQ Try.prog Try.f51 R) (frOf #[t0, t1]) w).mp h)

def S82 (t0 t1 : Value) (w : World) (R : Ending → World → Prop) : Prop :=
  Loop2 (.int .i64 0) (.int .i64 0) w fun _ t5 t6 w next =>
    ln1 t0 fun t9 =>
    binQ Try.prog w .lss 3 false t6 t9 fun t10 =>
    condW t10 (
      iaS 1 t0 t6 fun t15 =>
      ld1 w t15 fun t16 =>
      binQ Try.prog w .gtr 3 false t16 t1 fun t18 =>
      Join (fun (k_2 : Value → World → Prop) =>
        condW t18 (
          binQ Try.prog w .add 3 true t5 (.int .i64 1) fun t20 =>
          k_2 t20 w
        ) (
          k_2 t5 w
        )
      ) fun t5_2 w =>
      binQ Try.prog w .add 3 true t6 (.int .i64 1) fun t12_2 =>
      next t5_2 t12_2 w
    ) (
      R (.returned t5) w
    )

def A82 : Ann where
  live := fun
    | 0 => [5, 6]
    | _ => []
  wr := fun
    | 0 => fun i => (Nat.ble 5 i && Nat.ble i 20)
    | _ => fun _ => false
  sched := fun _ => .done

set_option maxRecDepth 100000 in
theorem ok82 : (codeOk Try.f82.ntmps A82 (Try.f82.body.getD .skip) 0 && Nat.ble 2 Try.f82.ntmps) = true := by kernel_rfl
set_option maxRecDepth 100000 in
theorem lift82 {t0 t1 : Value} {w : World} {R : Ending → World → Prop} (h : S82 t0 t1 w R) : Calls Try.prog 82 #[t0, t1] w R :=
  calls_of_cw (fn := Try.f82) (c := Try.f82.body.getD .skip) A82 mixes Try.func82 (by kernel_rfl) ok82
    ((by kernel_rfl : (S82 t0 t1 w R) = cw Try.prog A82 (Try.f82.body.getD .skip) 0 (bodyQ Try.prog Try.f82 R) (frOf #[t0, t1]) w).mp h)

theorem fok14 : fnOk Try.prog 14 = true := by kernel_rfl
theorem fok39 : fnOk Try.prog 39 = true := by kernel_rfl
theorem fok40 : fnOk Try.prog 40 = true := by kernel_rfl
theorem fok9 : fnOk Try.prog 9 = true := by kernel_rfl
theorem fok73 : fnOk Try.prog 73 = true := by kernel_rfl
theorem fok74 : fnOk Try.prog 74 = true := by kernel_rfl
theorem fok75 : fnOk Try.prog 75 = true := by kernel_rfl
theorem fok76 : fnOk Try.prog 76 = true := by kernel_rfl
theorem fok90 : fnOk Try.prog 90 = true := by kernel_rfl
theorem fok50 : fnOk Try.prog 50 = true := by kernel_rfl
theorem fok51 : fnOk Try.prog 51 = true := by kernel_rfl
theorem fok82 : fnOk Try.prog 82 = true := by kernel_rfl
end Go.Proofs.Ytaephdjmpmbfpaa
