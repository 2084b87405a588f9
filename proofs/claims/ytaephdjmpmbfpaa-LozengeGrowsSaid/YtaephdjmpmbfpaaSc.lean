/- Lifted texts, printed by program (gen.py): what each function's code asks. The ties are by the kernel. -/
import Derived.Test.YtaephdjmpmbfpaaBase
set_option linter.all false
namespace Go.Proofs.Ytaephdjmpmbfpaa
open Go.Lf Go.RowKit

def S63 (t0 t1 : Value) (w : World) (R : Ending → World → Prop) : Prop :=
  binQ Try.prog w .lss 3 true t1 (.int .i64 0) fun t6 =>
  gd t6 false (fun k => k t1 w) w fun t8 w =>
  gd t6 false (fun k => k t0 w) w fun t9 w =>
  gd t6 false (fun k => binQ Try.prog w .gtr 3 false t8 t9 fun v => k v w) w fun t10 w =>
  pickQ t6 (.bool true) t10 fun t11 =>
  condW t11 (
    R (.returned (.int .i64 0)) w
  ) (
    binQ Try.prog w .eql 3 true t1 (.int .i64 0) fun t13 =>
    gd t13 false (fun k => k t1 w) w fun t15 w =>
    gd t13 false (fun k => k t0 w) w fun t16 w =>
    gd t13 false (fun k => binQ Try.prog w .eql 3 false t15 t16 fun v => k v w) w fun t17 w =>
    pickQ t13 (.bool true) t17 fun t18 =>
    condW t18 (
      R (.returned (.int .i64 1)) w
    ) (
      binQ Try.prog w .sub 3 true t0 (.int .i64 1) fun t20 =>
      binQ Try.prog w .sub 3 true t1 (.int .i64 1) fun t22 =>
      callW Try.prog (.func (.func 63) #[] #[]) [t20, t22] w fun t23 w =>
      binQ Try.prog w .sub 3 true t0 (.int .i64 1) fun t25 =>
      callW Try.prog (.func (.func 63) #[] #[]) [t25, t1] w fun t27 w =>
      binQ Try.prog w .add 3 false t23 t27 fun t28 =>
      R (.returned t28) w
    )
  )

def A63 : Ann where
  live := fun _ => []
  wr := fun _ _ => false
  sched := fun _ => .done

set_option maxRecDepth 100000 in
theorem ok63 : (codeOk Try.f63.ntmps A63 (Try.f63.body.getD .skip) 0 && Nat.ble 2 Try.f63.ntmps) = true := by kernel_rfl
set_option maxRecDepth 100000 in
theorem lift63 {t0 t1 : Value} {w : World} {R : Ending → World → Prop} (h : S63 t0 t1 w R) : Calls Try.prog 63 #[t0, t1] w R :=
  calls_of_cw (fn := Try.f63) (c := Try.f63.body.getD .skip) A63 mixes Try.func63 (by kernel_rfl) ok63
    ((by kernel_rfl : (S63 t0 t1 w R) = cw Try.prog A63 (Try.f63.body.getD .skip) 0 (bodyQ Try.prog Try.f63 R) (frOf #[t0, t1]) w).mp h)

def S64 (t0 : Value) (w : World) (R : Ending → World → Prop) : Prop :=
  ln1 t0 fun t10 =>
  binQ Try.prog w .eql 3 true t10 (.int .i64 0) fun t11 =>
  condW t11 (
    R (.returned (.int .i64 1)) w
  ) (
    Loop3 (.int .i64 0) (.int .i64 1) (.int .i64 0) w fun _ t3 t4 t5 w next =>
      ln1 t0 fun t14 =>
      binQ Try.prog w .lss 3 false t5 t14 fun t15 =>
      condW t15 (
        Loop2 (.slice none 0 0) (.int .i64 1) w fun _ t6 t7 w next_2 =>
          ln1 t0 fun t20 =>
          binQ Try.prog w .lss 3 false t7 t20 fun t21 =>
          condW t21 (
            iaS 1 t0 t7 fun t27 =>
            ld1 w t27 fun t28 =>
            slS 1 t28 none (some t5) fun t30 =>
            semW Try.prog (apS [36, 36] 36 [(.slice none 0 0), t30]) w fun t31 w =>
            iaS 1 t0 t7 fun t36 =>
            ld1 w t36 fun t37 =>
            binQ Try.prog w .add 3 true t5 (.int .i64 1) fun t39 =>
            slS 1 t37 (some t39) none fun t40 =>
            semW Try.prog (apS [36, 36] 36 [t31, t40]) w fun t41 w =>
            bsW Try.prog 26 1 [(0, t41)] w fun t42 w =>
            semW Try.prog (apS [26, 26] 26 [t6, t42]) w fun t43 w =>
            binQ Try.prog w .add 3 true t7 (.int .i64 1) fun t23 =>
            next_2 t43 t23 w
          ) (
            Drew w fun w =>
            iaS 1 t0 (.int .i64 0) fun t47 =>
            ld1 w t47 fun t48 =>
            iaS 1 t48 t5 fun t50 =>
            ld1 w t50 fun t51 =>
            binQ Try.prog w .mul 3 false t4 t51 fun t52 =>
            callW Try.prog (.func (.func 64) #[] #[]) [t6] w <| keepB w fun t54 w =>
            binQ Try.prog w .mul 3 false t52 t54 fun t55 =>
            binQ Try.prog w .add 3 false t3 t55 fun t56 =>
            unQ .neg t4 fun t58 =>
            binQ Try.prog w .add 3 true t5 (.int .i64 1) fun t17 =>
            next t56 t58 t17 w
          )
      ) (
        R (.returned t3) w
      )
  )

def A64 : Ann where
  live := fun
    | 0 => [3, 4, 5]
    | 2 => [6, 7]
    | _ => []
  wr := fun
    | 0 => fun i => (Nat.ble 3 i && Nat.ble i 8) || (Nat.ble 12 i && Nat.ble i 58)
    | 2 => fun i => (Nat.ble 6 i && Nat.ble i 8) || (Nat.ble 18 i && Nat.ble i 43)
    | _ => fun _ => false
  sched := fun
    | 14 => (.take 0 (.take 1 (.take 2 (.take 3 (.take 4 (.take 5 (.take 6 (.take 7 (.take 8 (.take 9 (.eff 10 (.take 11 (.take 12 (.take 13 .done))))))))))))))
    | _ => .done

set_option maxRecDepth 100000 in
theorem ok64 : (codeOk Try.f64.ntmps A64 (Try.f64.body.getD .skip) 0 && Nat.ble 1 Try.f64.ntmps) = true := by kernel_rfl
set_option maxRecDepth 100000 in
theorem lift64 {t0 : Value} {w : World} {R : Ending → World → Prop} (h : S64 t0 w R) : Calls Try.prog 64 #[t0] w R :=
  calls_of_cw (fn := Try.f64) (c := Try.f64.body.getD .skip) A64 mixes Try.func64 (by kernel_rfl) ok64
    ((by kernel_rfl : (S64 t0 w R) = cw Try.prog A64 (Try.f64.body.getD .skip) 0 (bodyQ Try.prog Try.f64 R) (frOf #[t0]) w).mp h)

def S26 (t0 : Value) (w : World) (R : Ending → World → Prop) : Prop :=
  boxW 25 t0 w fun t1 w =>
  ldN 3 w t1 fun t8 =>
  callW Try.prog (.func (.func 62) #[] #[]) [t8] w fun t9 w =>
  unQ .not t9 fun t10 =>
  condW t10 (
    R (.returned (.tuple #[(.int .i64 0), (.int .i64 2)])) w
  ) (
    Loop2 (.slice none 0 0) (.int .i64 0) w fun _ t4 t5 w next =>
      fa1 t1 0 fun t12 =>
      ld1 w t12 fun t13 =>
      binQ Try.prog w .lss 3 false t5 t13 fun t14 =>
      condW t14 (
        Loop2 (.slice none 0 0) (.int .i64 0) w fun _ t6 t7 w next_2 =>
          fa1 t1 0 fun t18 =>
          ld1 w t18 fun t19 =>
          binQ Try.prog w .lss 3 false t7 t19 fun t20 =>
          condW t20 (
            fa1 t1 1 fun t24 =>
            ld1 w t24 fun t25 =>
            fa1 t1 2 fun t26 =>
            ld1 w t26 fun t27 =>
            binQ Try.prog w .add 3 false t25 t27 fun t28 =>
            fa1 t1 1 fun t29 =>
            ld1 w t29 fun t30 =>
            binQ Try.prog w .sub 3 false t30 t5 fun t32 =>
            binQ Try.prog w .add 3 false t32 t7 fun t34 =>
            callW Try.prog (.func (.func 63) #[] #[]) [t28, t34] w fun t35 w =>
            bsW Try.prog 36 1 [(0, t35)] w fun t36 w =>
            semW Try.prog (apS [36, 36] 36 [t6, t36]) w fun t37 w =>
            binQ Try.prog w .add 3 true t7 (.int .i64 1) fun t22 =>
            next_2 t37 t22 w
          ) (
            bsW Try.prog 26 1 [(0, t6)] w fun t40 w =>
            semW Try.prog (apS [26, 26] 26 [t4, t40]) w fun t41 w =>
            binQ Try.prog w .add 3 true t5 (.int .i64 1) fun t16 =>
            next t41 t16 w
          )
      ) (
        callW Try.prog (.func (.func 64) #[] #[]) [t4] w fun t43 w =>
        R (.returned (.tuple #[t43, (.int .i64 0)])) w
      )
  )

def A26 : Ann where
  live := fun
    | 0 => [4, 5]
    | 2 => [6, 7]
    | _ => []
  wr := fun
    | 0 => fun i => (Nat.ble 4 i && Nat.ble i 7) || (Nat.ble 11 i && Nat.ble i 41)
    | 2 => fun i => (Nat.ble 6 i && Nat.ble i 7) || (Nat.ble 17 i && Nat.ble i 37)
    | _ => fun _ => false
  sched := fun _ => .done

set_option maxRecDepth 100000 in
theorem ok26 : (codeOk Try.f26.ntmps A26 (Try.f26.body.getD .skip) 0 && Nat.ble 1 Try.f26.ntmps) = true := by kernel_rfl
set_option maxRecDepth 100000 in
theorem lift26 {t0 : Value} {w : World} {R : Ending → World → Prop} (h : S26 t0 w R) : Calls Try.prog 26 #[t0] w R :=
  calls_of_cw (fn := Try.f26) (c := Try.f26.body.getD .skip) A26 mixes Try.func26 (by kernel_rfl) ok26
    ((by kernel_rfl : (S26 t0 w R) = cw Try.prog A26 (Try.f26.body.getD .skip) 0 (bodyQ Try.prog Try.f26 R) (frOf #[t0]) w).mp h)

def S12 (t0 t1 t2 t3 : Value) (w : World) (R : Ending → World → Prop) : Prop :=
  boxW 25 (.agg #[(.int .i64 0), (.int .i64 0), (.int .i64 0)]) w fun t8 w =>
  binQ Try.prog w .rem 5 true t0 (.int .u8 4) fun t16 =>
  cv1 .i64 t16 fun t17 =>
  binQ Try.prog w .add 3 true (.int .i64 1) t17 fun t18 =>
  binQ Try.prog w .rem 5 true t1 (.int .u8 4) fun t20 =>
  cv1 .i64 t20 fun t21 =>
  binQ Try.prog w .add 3 true (.int .i64 1) t21 fun t22 =>
  binQ Try.prog w .rem 5 true t2 (.int .u8 4) fun t24 =>
  cv1 .i64 t24 fun t25 =>
  binQ Try.prog w .add 3 true (.int .i64 1) t25 fun t26 =>
  bdQ Try.prog 25 [(0, t18), (1, t22), (2, t26)] fun t27 =>
  boxW 25 (.agg #[(.int .i64 0), (.int .i64 0), (.int .i64 0)]) w fun t10 w =>
  stW Try.prog 25 t10 t27 w fun w =>
  ldN 3 w t10 fun t29 =>
  callW Try.prog (.func (.func 26) #[] #[]) [t29] w fun t30 w =>
  exQ t30 0 fun t31 =>
  exQ t30 1 fun t32 =>
  Drew w fun w =>
  ldN 3 w t10 fun t34 =>
  cv1 .i64 t3 fun t36 =>
  binQ Try.prog w .rem 3 false t36 t31 fun t38 =>
  callW Try.prog (.func (.func 34) #[] #[]) [t34, t38] w fun t39 w =>
  exQ t39 0 fun t40 =>
  exQ t39 1 fun t41 =>
  ldN 3 w t10 fun t42 =>
  stW Try.prog 25 t8 t42 w fun w =>
  ldN 3 w t8 fun r =>
  R (.returned (.tuple #[r, t40])) w

def A12 : Ann where
  live := fun _ => []
  wr := fun _ _ => false
  sched := fun
    | 3 => (.take 0 (.take 1 (.take 2 (.take 3 (.take 4 (.bar 5 (.take 6 (.take 7 (.take 8 (.take 9 (.take 10 .done)))))))))))
    | _ => .done

set_option maxRecDepth 100000 in
theorem ok12 : (codeOk Try.f12.ntmps A12 (Try.f12.body.getD .skip) 0 && Nat.ble 4 Try.f12.ntmps) = true := by kernel_rfl
set_option maxRecDepth 100000 in
theorem lift12 {t0 t1 t2 t3 : Value} {w : World} {R : Ending → World → Prop} (h : S12 t0 t1 t2 t3 w R) : Calls Try.prog 12 #[t0, t1, t2, t3] w R :=
  calls_of_cw (fn := Try.f12) (c := Try.f12.body.getD .skip) A12 mixes Try.func12 (by kernel_rfl) ok12
    ((by kernel_rfl : (S12 t0 t1 t2 t3 w R) = cw Try.prog A12 (Try.f12.body.getD .skip) 0 (bodyQ Try.prog Try.f12 R) (frOf #[t0, t1, t2, t3]) w).mp h)

def S16 (t0 t1 t2 : Value) (w : World) (R : Ending → World → Prop) : Prop :=
  boxW 25 t0 w fun t3 w =>
  binQ Try.prog w .eql 3 true t2 (.int .i64 1) fun t9 =>
  condW t9 (
    ldN 3 w t3 fun t10 =>
    callW Try.prog (.func (.func 49) #[] #[]) [t10, t1] w fun t12 w =>
    R (.returned t12) w
  ) (
    binQ Try.prog w .eql 3 true t2 (.int .i64 2) fun t14 =>
    condW t14 (
      ldN 3 w t3 fun t15 =>
      callW Try.prog (.func (.func 50) #[] #[]) [t15, t1] w fun t17 w =>
      R (.returned t17) w
    ) (
      binQ Try.prog w .eql 3 true t2 (.int .i64 3) fun t19 =>
      condW t19 (
        ldN 3 w t3 fun t20 =>
        callW Try.prog (.func (.func 51) #[] #[]) [t20, t1] w fun t22 w =>
        R (.returned t22) w
      ) (
        binQ Try.prog w .eql 3 true t2 (.int .i64 4) fun t24 =>
        condW t24 (
          Drew w fun w =>
          fa1 t3 1 fun t25 =>
          ld1 w t25 fun t26 =>
          fa1 t3 0 fun t27 =>
          ld1 w t27 fun t28 =>
          fa1 t3 2 fun t29 =>
          ld1 w t29 fun t30 =>
          bdQ Try.prog 25 [(0, t26), (1, t28), (2, t30)] fun t31 =>
          ldN 3 w t3 fun t32 =>
          callW Try.prog (.func (.func 50) #[] #[]) [t32, t1] w <| keepB w fun t34 w =>
          callW Try.prog (.func (.func 49) #[] #[]) [t31, t34] w fun t35 w =>
          R (.returned t35) w
        ) (
          R (.returned t1) w
        )
      )
    )
  )

def A16 : Ann where
  live := fun _ => []
  wr := fun _ _ => false
  sched := fun
    | 9 => (.take 0 (.take 1 (.take 2 (.take 3 (.take 4 (.take 5 (.take 6 (.take 7 (.take 8 (.eff 9 (.bar 10 (.take 11 .done))))))))))))
    | _ => .done

set_option maxRecDepth 100000 in
theorem ok16 : (codeOk Try.f16.ntmps A16 (Try.f16.body.getD .skip) 0 && Nat.ble 3 Try.f16.ntmps) = true := by kernel_rfl
set_option maxRecDepth 100000 in
theorem lift16 {t0 t1 t2 : Value} {w : World} {R : Ending → World → Prop} (h : S16 t0 t1 t2 w R) : Calls Try.prog 16 #[t0, t1, t2] w R :=
  calls_of_cw (fn := Try.f16) (c := Try.f16.body.getD .skip) A16 mixes Try.func16 (by kernel_rfl) ok16
    ((by kernel_rfl : (S16 t0 t1 t2 w R) = cw Try.prog A16 (Try.f16.body.getD .skip) 0 (bodyQ Try.prog Try.f16 R) (frOf #[t0, t1, t2]) w).mp h)

def S49 (t0 t1 : Value) (w : World) (R : Ending → World → Prop) : Prop :=
  boxW 25 t0 w fun t2 w =>
  ldN 3 w t2 fun t8 =>
  callW Try.prog (.func (.func 66) #[] #[]) [t8] w fun t9 w =>
  Loop1 (.int .i64 0) w fun _ t6 w next =>
    fa1 t2 0 fun t11 =>
    ld1 w t11 fun t12 =>
    binQ Try.prog w .lss 3 false t6 t12 fun t13 =>
    condW t13 (
      Loop1 (.int .i64 0) w fun _ t7 w next_2 =>
        fa1 t2 1 fun t17 =>
        ld1 w t17 fun t18 =>
        binQ Try.prog w .lss 3 false t7 t18 fun t19 =>
        condW t19 (
          Drew w fun w =>
          iaS 1 t9 t6 fun t24 =>
          ld1 w t24 fun t25 =>
          fa1 t2 2 fun t27 =>
          ld1 w t27 fun t28 =>
          fa1 t2 0 fun t30 =>
          ld1 w t30 fun t31 =>
          binQ Try.prog w .sub 3 true t31 (.int .i64 1) fun t32 =>
          binQ Try.prog w .sub 3 false t32 t6 fun t34 =>
          iaS 1 t1 t34 fun t35 =>
          ld1 w t35 fun t36 =>
          fa1 t2 1 fun t37 =>
          ld1 w t37 fun t38 =>
          binQ Try.prog w .sub 3 true t38 (.int .i64 1) fun t39 =>
          binQ Try.prog w .sub 3 false t39 t7 fun t41 =>
          iaS 1 t36 t41 fun t42 =>
          ld1 w t42 fun t43 =>
          binQ Try.prog w .sub 3 false t28 t43 fun t44 =>
          iaS 1 t25 t7 fun t45 =>
          stW Try.prog 3 t45 t44 w fun w =>
          binQ Try.prog w .add 3 true t7 (.int .i64 1) fun t21 =>
          next_2 t21 w
        ) (
          binQ Try.prog w .add 3 true t6 (.int .i64 1) fun t15 =>
          next t15 w
        )
    ) (
      R (.returned t9) w
    )

def A49 : Ann where
  live := fun
    | 0 => [6]
    | 2 => [7]
    | _ => []
  wr := fun
    | 0 => fun i => (Nat.ble 6 i && Nat.ble i 7) || (Nat.ble 10 i && Nat.ble i 45)
    | 2 => fun i => Nat.beq i 7 || (Nat.ble 16 i && Nat.ble i 45)
    | _ => fun _ => false
  sched := fun
    | 8 => (.take 0 (.take 1 (.take 2 (.take 3 (.take 4 (.take 5 (.take 6 (.take 7 (.take 8 (.take 9 (.take 10 (.take 11 (.take 12 (.take 13 (.take 14 (.take 15 (.take 16 (.take 17 (.take 18 (.take 19 (.take 20 (.take 21 (.take 22 (.take 23 (.bar 24 .done)))))))))))))))))))))))))
    | _ => .done

set_option maxRecDepth 100000 in
theorem ok49 : (codeOk Try.f49.ntmps A49 (Try.f49.body.getD .skip) 0 && Nat.ble 2 Try.f49.ntmps) = true := by kernel_rfl
set_option maxRecDepth 100000 in
theorem lift49 {t0 t1 : Value} {w : World} {R : Ending → World → Prop} (h : S49 t0 t1 w R) : Calls Try.prog 49 #[t0, t1] w R :=
  calls_of_cw (fn := Try.f49) (c := Try.f49.body.getD .skip) A49 mixes Try.func49 (by kernel_rfl) ok49
    ((by kernel_rfl : (S49 t0 t1 w R) = cw Try.prog A49 (Try.f49.body.getD .skip) 0 (bodyQ Try.prog Try.f49 R) (frOf #[t0, t1]) w).mp h)

def S3 (t0 t1 t2 t3 t4 : Value) (w : World) (R : Ending → World → Prop) : Prop :=
  callW Try.prog (.func (.func 12) #[] #[]) [t0, t1, t2, t3] w fun t34 w =>
  exQ t34 0 fun t35 =>
  exQ t34 1 fun t36 =>
  boxW 25 (.agg #[(.int .i64 0), (.int .i64 0), (.int .i64 0)]) w fun t11 w =>
  stW Try.prog 25 t11 t35 w fun w =>
  callW Try.prog (.func (.func 13) #[] #[]) [t36] w fun t38 w =>
  Loop1 t38 w fun _ t13 w next =>
    binQ Try.prog w .gtr 3 true t13 (.int .i64 0) fun t40 =>
    condW t40 (
      ldN 3 w t11 fun t44 =>
      callW Try.prog (.func (.func 14) #[] #[]) [t44, t36] w fun t46 w =>
      exQ t46 0 fun t47 =>
      exQ t46 1 fun t48 =>
      exQ t46 2 fun t49 =>
      binQ Try.prog w .neq 31 true t49 (.int .i64 0) fun t51 =>
      gd t51 false (fun k => k t48 w) w fun t53 w =>
      gd t51 false (fun k => ln1 t53 fun v => k v w) w fun t54 w =>
      gd t51 false (fun k => binQ Try.prog w .eql 3 true t54 (.int .i64 0) fun v => k v w) w fun t55 w =>
      pickQ t51 (.bool true) t55 fun t56 =>
      condW t56 (
        R (.returned (.bool false)) w
      ) (
        iaS 2 t48 (.int .i64 0) fun t58 =>
        ldN 2 w t58 fun t59 =>
        boxW 35 (.agg #[(.int .i64 0), (.int .i64 0)]) w fun t17 w =>
        stW Try.prog 35 t17 t59 w fun w =>
        ln1 t4 fun t62 =>
        binQ Try.prog w .lss 3 false t13 t62 fun t63 =>
        Join (fun (k_2 : World → Prop) =>
          condW t63 (
            iaS 1 t4 t13 fun t67 =>
            ld1 w t67 fun t68 =>
            cv1 .i64 t68 fun t69 =>
            ln1 t48 fun t71 =>
            binQ Try.prog w .rem 3 false t69 t71 fun t72 =>
            iaS 2 t48 t72 fun t73 =>
            ldN 2 w t73 fun t74 =>
            stW Try.prog 35 t17 t74 w fun w =>
            k_2 w
          ) (
            k_2 w
          )
        ) fun w =>
        fa1 t17 1 fun t75_2 =>
        ld1 w t75_2 fun t76_2 =>
        binQ Try.prog w .lss 3 true t76_2 (.int .i64 0) fun t77_2 =>
        gd t77_2 false (fun k => fa1 t17 1 fun v => k v w) w fun t79_2 w =>
        gd t77_2 false (fun k => ld1 w t79_2 fun v => k v w) w fun t80_2 w =>
        gd t77_2 false (fun k => fa1 t11 0 fun v => k v w) w fun t81_2 w =>
        gd t77_2 false (fun k => ld1 w t81_2 fun v => k v w) w fun t82_2 w =>
        gd t77_2 false (fun k => binQ Try.prog w .geq 3 false t80_2 t82_2 fun v => k v w) w fun t83_2 w =>
        pickQ t77_2 (.bool true) t83_2 fun t84_2 =>
        gd t84_2 false (fun k => fa1 t17 0 fun v => k v w) w fun t86_2 w =>
        gd t84_2 false (fun k => ld1 w t86_2 fun v => k v w) w fun t87_2 w =>
        gd t84_2 false (fun k => binQ Try.prog w .lss 3 true t87_2 (.int .i64 0) fun v => k v w) w fun t88_2 w =>
        pickQ t84_2 (.bool true) t88_2 fun t89_2 =>
        gd t89_2 false (fun k => fa1 t17 0 fun v => k v w) w fun t91_2 w =>
        gd t89_2 false (fun k => ld1 w t91_2 fun v => k v w) w fun t92_2 w =>
        gd t89_2 false (fun k => fa1 t11 1 fun v => k v w) w fun t93_2 w =>
        gd t89_2 false (fun k => ld1 w t93_2 fun v => k v w) w fun t94_2 w =>
        gd t89_2 false (fun k => binQ Try.prog w .geq 3 false t92_2 t94_2 fun v => k v w) w fun t95_2 w =>
        pickQ t89_2 (.bool true) t95_2 fun t96_2 =>
        condW t96_2 (
          R (.returned (.bool false)) w
        ) (
          Drew w fun w =>
          fa1 t17 1 fun t98_2 =>
          ld1 w t98_2 fun t99_2 =>
          iaS 1 t36 t99_2 fun t100_2 =>
          ld1 w t100_2 fun t101_2 =>
          fa1 t17 0 fun t102_2 =>
          ld1 w t102_2 fun t103_2 =>
          iaS 1 t101_2 t103_2 fun t104_2 =>
          ld1 w t104_2 fun t105_2 =>
          binQ Try.prog w .sub 3 true t105_2 (.int .i64 1) fun t106_2 =>
          iaS 1 t101_2 t103_2 fun t107_2 =>
          stW Try.prog 3 t107_2 t106_2 w fun w =>
          ldN 3 w t11 fun t109_2 =>
          callW Try.prog (.func (.func 14) #[] #[]) [t109_2, t36] w fun t111_2 w =>
          exQ t111_2 0 fun t112_2 =>
          exQ t111_2 1 fun t113_2 =>
          exQ t111_2 2 fun t114_2 =>
          Loop2 (.bool false) (.int .i64 0) w fun _ t20_2 t21_2 w next_3 =>
            ln1 t112_2 fun t117_2 =>
            binQ Try.prog w .lss 3 false t21_2 t117_2 fun t118_2 =>
            condW t118_2 (
              Drew w fun w =>
              gdQ t20_2 false (fun k => k t112_2) fun t123_2 =>
              gdQ t20_2 false (fun k => k t21_2) fun t124_2 =>
              gdQ t20_2 false (fun k => iaS 2 t123_2 t124_2 k) fun t125_2 =>
              gdQ t20_2 false (fun k => ldN 2 w t125_2 k) fun t126_2 =>
              gdQ t20_2 false (fun k => ldN 2 w t17 k) fun t127_2 =>
              gdQ t20_2 false (fun k => binQ Try.prog w .eql 35 false t126_2 t127_2 k) fun t128_2 =>
              pickQ t20_2 (.bool true) t128_2 fun t129_2 =>
              binQ Try.prog w .add 3 true t21_2 (.int .i64 1) fun t120_2 =>
              next_3 t129_2 t120_2 w
            ) (
              binQ Try.prog w .neq 31 true t114_2 (.int .i64 0) fun t131_2 =>
              gd t131_2 false (fun k => k t20_2 w) w fun t133_2 w =>
              gd t131_2 false (fun k => unQ .not t133_2 fun v => k v w) w fun t134_2 w =>
              pickQ t131_2 (.bool true) t134_2 fun t135_2 =>
              gd t135_2 false (fun k => ldN 3 w t11 fun v => k v w) w fun t137_2 w =>
              gd t135_2 false (fun k => k t36 w) w fun t138_2 w =>
              gd t135_2 false (fun k => callW Try.prog (.func (.func 15) #[] #[]) [t137_2, t138_2] w k) w fun t139_2 w =>
              gd t135_2 false (fun k => unQ .not t139_2 fun v => k v w) w fun t140_2 w =>
              pickQ t135_2 (.bool true) t140_2 fun t141_2 =>
              condW t141_2 (
                R (.returned (.bool false)) w
              ) (
                binQ Try.prog w .sub 3 true t13 (.int .i64 1) fun t42_2 =>
                next t42_2 w
              )
            )
        )
      )
    ) (
      ldN 3 w t11 fun t143 =>
      callW Try.prog (.func (.func 14) #[] #[]) [t143, t36] w fun t145 w =>
      exQ t145 0 fun t146 =>
      exQ t145 1 fun t147 =>
      exQ t145 2 fun t148 =>
      ldN 3 w t11 fun t149 =>
      callW Try.prog (.func (.func 16) #[] #[]) [t149, t36, (.int .i64 1)] w fun t151 w =>
      ldN 3 w t11 fun t153 =>
      callW Try.prog (.func (.func 14) #[] #[]) [t153, t151] w fun t155 w =>
      exQ t155 0 fun t156 =>
      exQ t155 1 fun t157 =>
      exQ t155 2 fun t158 =>
      binQ Try.prog w .eql 31 true t148 (.int .i64 0) fun t160 =>
      gd t160 true (fun k => k t158 w) w fun t162 w =>
      gd t160 true (fun k => binQ Try.prog w .eql 31 true t162 (.int .i64 0) fun v => k v w) w fun t163 w =>
      pickQ t160 t163 (.bool false) fun t164 =>
      gd t164 true (fun k => k t147 w) w fun t166 w =>
      gd t164 true (fun k => ln1 t166 fun v => k v w) w fun t167 w =>
      gd t164 true (fun k => binQ Try.prog w .eql 3 true t167 (.int .i64 0) fun v => k v w) w fun t168 w =>
      pickQ t164 t168 (.bool false) fun t169 =>
      gd t169 true (fun k => k t156 w) w fun t171 w =>
      gd t169 true (fun k => ln1 t171 fun v => k v w) w fun t172 w =>
      gd t169 true (fun k => binQ Try.prog w .eql 3 true t172 (.int .i64 0) fun v => k v w) w fun t173 w =>
      pickQ t169 t173 (.bool false) fun t174 =>
      gd t174 true (fun k => callW Try.prog (.func (.func 17) #[] #[]) [] w k) w fun t176 w =>
      pickQ t174 t176 (.bool false) fun t177 =>
      R (.returned t177) w
    )

def A3 : Ann where
  live := fun
    | 0 => [13]
    | 2 => [20, 21]
    | _ => []
  wr := fun
    | 0 => fun i => Nat.beq i 10 || (Nat.ble 13 i && Nat.ble i 21) || (Nat.ble 39 i && Nat.ble i 141)
    | 2 => fun i => (Nat.ble 20 i && Nat.ble i 21) || (Nat.ble 115 i && Nat.ble i 129)
    | _ => fun _ => false
  sched := fun
    | 13 => (.take 0 (.take 1 (.take 2 (.take 3 (.take 4 (.take 5 (.take 6 (.take 7 (.take 8 (.take 9 (.take 10 (.bar 11 .done))))))))))))
    | 19 => (.take 0 (.take 1 (.take 2 (.take 3 (.take 4 (.take 5 (.take 6 (.take 7 (.take 8 (.take 9 .done))))))))))
    | _ => .done

set_option maxRecDepth 100000 in
theorem ok3 : (codeOk Try.f3.ntmps A3 (Try.f3.body.getD .skip) 0 && Nat.ble 5 Try.f3.ntmps) = true := by kernel_rfl
set_option maxRecDepth 100000 in
theorem lift3 {t0 t1 t2 t3 t4 : Value} {w : World} {R : Ending → World → Prop} (h : S3 t0 t1 t2 t3 t4 w R) : Calls Try.prog 3 #[t0, t1, t2, t3, t4] w R :=
  calls_of_cw (fn := Try.f3) (c := Try.f3.body.getD .skip) A3 mixes Try.func3 (by kernel_rfl) ok3
    ((by kernel_rfl : (S3 t0 t1 t2 t3 t4 w R) = cw Try.prog A3 (Try.f3.body.getD .skip) 0 (bodyQ Try.prog Try.f3 R) (frOf #[t0, t1, t2, t3, t4]) w).mp h)

theorem fok63 : fnOk Try.prog 63 = true := by kernel_rfl
theorem fok64 : fnOk Try.prog 64 = true := by kernel_rfl
theorem fok26 : fnOk Try.prog 26 = true := by kernel_rfl
theorem fok12 : fnOk Try.prog 12 = true := by kernel_rfl
theorem fok16 : fnOk Try.prog 16 = true := by kernel_rfl
theorem fok49 : fnOk Try.prog 49 = true := by kernel_rfl
theorem fok3 : fnOk Try.prog 3 = true := by kernel_rfl
end Go.Proofs.Ytaephdjmpmbfpaa
