/- Texts of my own, merged by program: Sc E1 E2. -/
import Derived.Test.YtaephdjmpmbfpaaM02
import Derived.Test.YtaephdjmpmbfpaaM06
import Derived.Test.YtaephdjmpmbfpaaM07
set_option linter.all false
/- Lifted texts, printed by program (gen.py): what each function's code asks. The ties are by the kernel. -/
namespace Go.Proofs.Ytaephdjmpmbfpaa
open Go.Lf Go.RowKit

def S63 (t0 t1 : Value) (w : World) (R : Ending → World → Prop) : Prop :=
  binQ Try.prog w .lss 3 true t1 (.int .i64 0) fun t6 =>
  gd t6 false (fun k => k t1 w) w fun t8 w =>
  gd t6 false (fun k => k t0 w) w fun t9 w =>
  gd t6 false (fun k => binQ Try.prog w .gtr 3 false t8 t9 fun v => k v w) w fun t10 w =>
  pickQ t6 (.bool true) t10 fun t11 =>
  condW t11 (
    R (.returned (.int .i64 0)) w
  ) (
    binQ Try.prog w .eql 3 true t1 (.int .i64 0) fun t13 =>
    gd t13 false (fun k => k t1 w) w fun t15 w =>
    gd t13 false (fun k => k t0 w) w fun t16 w =>
    gd t13 false (fun k => binQ Try.prog w .eql 3 false t15 t16 fun v => k v w) w fun t17 w =>
    pickQ t13 (.bool true) t17 fun t18 =>
    condW t18 (
      R (.returned (.int .i64 1)) w
    ) (
      binQ Try.prog w .sub 3 true t0 (.int .i64 1) fun t20 =>
      binQ Try.prog w .sub 3 true t1 (.int .i64 1) fun t22 =>
      callW Try.prog (.func (.func 63) #[] #[]) [t20, t22] w fun t23 w =>
      binQ Try.prog w .sub 3 true t0 (.int .i64 1) fun t25 =>
      callW Try.prog (.func (.func 63) #[] #[]) [t25, t1] w fun t27 w =>
      binQ Try.prog w .add 3 false t23 t27 fun t28 =>
      R (.returned t28) w
    )
  )

def A63 : Ann where
  live := fun _ => []
  wr := fun _ _ => false
  sched := fun _ => .done

set_option maxRecDepth 100000 in
theorem ok63 : (codeOk Try.f63.ntmps A63 (Try.f63.body.getD .skip) 0 && Nat.ble 2 Try.f63.ntmps) = true := by kernel_rfl
set_option maxRecDepth 100000 in
theorem lift63 {t0 t1 : Value} {w : World} {R : Ending → World → Prop} (h : S63 t0 t1 w R) : Calls Try.prog 63 #[t0, t1] w R :=
  calls_of_cw (fn := Try.f63) (c := Try.f63.body.getD .skip) A63 mixes Try.func63 (by kernel_rfl) ok63
    ((by kernel_rfl : (S63 t0 t1 w R) = cw Try.prog A63 (Try.f63.body.getD .skip) 0 (bodyQ Try.prog Try.f63 R) (frOf #[t0, t1]) w).mp h)

def S64 (t0 : Value) (w : World) (R : Ending → World → Prop) : Prop :=
  ln1 t0 fun t10 =>
  binQ Try.prog w .eql 3 true t10 (.int .i64 0) fun t11 =>
  condW t11 (
    R (.returned (.int .i64 1)) w
  ) (
    Loop3 (.int .i64 0) (.int .i64 1) (.int .i64 0) w fun _ t3 t4 t5 w next =>
      ln1 t0 fun t14 =>
      binQ Try.prog w .lss 3 false t5 t14 fun t15 =>
      condW t15 (
        Loop2 (.slice none 0 0) (.int .i64 1) w fun _ t6 t7 w next_2 =>
          ln1 t0 fun t20 =>
          binQ Try.prog w .lss 3 false t7 t20 fun t21 =>
          condW t21 (
            iaS 1 t0 t7 fun t27 =>
            ld1 w t27 fun t28 =>
            slS 1 t28 none (some t5) fun t30 =>
            semW Try.prog (apS [36, 36] 36 [(.slice none 0 0), t30]) w fun t31 w =>
            iaS 1 t0 t7 fun t36 =>
            ld1 w t36 fun t37 =>
            binQ Try.prog w .add 3 true t5 (.int .i64 1) fun t39 =>
            slS 1 t37 (some t39) none fun t40 =>
            semW Try.prog (apS [36, 36] 36 [t31, t40]) w fun t41 w =>
            bsW Try.prog 26 1 [(0, t41)] w fun t42 w =>
            semW Try.prog (apS [26, 26] 26 [t6, t42]) w fun t43 w =>
            binQ Try.prog w .add 3 true t7 (.int .i64 1) fun t23 =>
            next_2 t43 t23 w
          ) (
            Drew w fun w =>
            iaS 1 t0 (.int .i64 0) fun t47 =>
            ld1 w t47 fun t48 =>
            iaS 1 t48 t5 fun t50 =>
            ld1 w t50 fun t51 =>
            binQ Try.prog w .mul 3 false t4 t51 fun t52 =>
            callW Try.prog (.func (.func 64) #[] #[]) [t6] w <| keepB w fun t54 w =>
            binQ Try.prog w .mul 3 false t52 t54 fun t55 =>
            binQ Try.prog w .add 3 false t3 t55 fun t56 =>
            unQ .neg t4 fun t58 =>
            binQ Try.prog w .add 3 true t5 (.int .i64 1) fun t17 =>
            next t56 t58 t17 w
          )
      ) (
        R (.returned t3) w
      )
  )

def A64 : Ann where
  live := fun
    | 0 => [3, 4, 5]
    | 2 => [6, 7]
    | _ => []
  wr := fun
    | 0 => fun i => (Nat.ble 3 i && Nat.ble i 8) || (Nat.ble 12 i && Nat.ble i 58)
    | 2 => fun i => (Nat.ble 6 i && Nat.ble i 8) || (Nat.ble 18 i && Nat.ble i 43)
    | _ => fun _ => false
  sched := fun
    | 14 => (.take 0 (.take 1 (.take 2 (.take 3 (.take 4 (.take 5 (.take 6 (.take 7 (.take 8 (.take 9 (.eff 10 (.take 11 (.take 12 (.take 13 .done))))))))))))))
    | _ => .done

set_option maxRecDepth 100000 in
theorem ok64 : (codeOk Try.f64.ntmps A64 (Try.f64.body.getD .skip) 0 && Nat.ble 1 Try.f64.ntmps) = true := by kernel_rfl
set_option maxRecDepth 100000 in
theorem lift64 {t0 : Value} {w : World} {R : Ending → World → Prop} (h : S64 t0 w R) : Calls Try.prog 64 #[t0] w R :=
  calls_of_cw (fn := Try.f64) (c := Try.f64.body.getD .skip) A64 mixes Try.func64 (by kernel_rfl) ok64
    ((by kernel_rfl : (S64 t0 w R) = cw Try.prog A64 (Try.f64.body.getD .skip) 0 (bodyQ Try.prog Try.f64 R) (frOf #[t0]) w).mp h)

def S26 (t0 : Value) (w : World) (R : Ending → World → Prop) : Prop :=
  boxW 25 t0 w fun t1 w =>
  ldN 3 w t1 fun t8 =>
  callW Try.prog (.func (.func 62) #[] #[]) [t8] w fun t9 w =>
  unQ .not t9 fun t10 =>
  condW t10 (
    R (.returned (.tuple #[(.int .i64 0), (.int .i64 2)])) w
  ) (
    Loop2 (.slice none 0 0) (.int .i64 0) w fun _ t4 t5 w next =>
      fa1 t1 0 fun t12 =>
      ld1 w t12 fun t13 =>
      binQ Try.prog w .lss 3 false t5 t13 fun t14 =>
      condW t14 (
        Loop2 (.slice none 0 0) (.int .i64 0) w fun _ t6 t7 w next_2 =>
          fa1 t1 0 fun t18 =>
          ld1 w t18 fun t19 =>
          binQ Try.prog w .lss 3 false t7 t19 fun t20 =>
          condW t20 (
            fa1 t1 1 fun t24 =>
            ld1 w t24 fun t25 =>
            fa1 t1 2 fun t26 =>
            ld1 w t26 fun t27 =>
            binQ Try.prog w .add 3 false t25 t27 fun t28 =>
            fa1 t1 1 fun t29 =>
            ld1 w t29 fun t30 =>
            binQ Try.prog w .sub 3 false t30 t5 fun t32 =>
            binQ Try.prog w .add 3 false t32 t7 fun t34 =>
            callW Try.prog (.func (.func 63) #[] #[]) [t28, t34] w fun t35 w =>
            bsW Try.prog 36 1 [(0, t35)] w fun t36 w =>
            semW Try.prog (apS [36, 36] 36 [t6, t36]) w fun t37 w =>
            binQ Try.prog w .add 3 true t7 (.int .i64 1) fun t22 =>
            next_2 t37 t22 w
          ) (
            bsW Try.prog 26 1 [(0, t6)] w fun t40 w =>
            semW Try.prog (apS [26, 26] 26 [t4, t40]) w fun t41 w =>
            binQ Try.prog w .add 3 true t5 (.int .i64 1) fun t16 =>
            next t41 t16 w
          )
      ) (
        callW Try.prog (.func (.func 64) #[] #[]) [t4] w fun t43 w =>
        R (.returned (.tuple #[t43, (.int .i64 0)])) w
      )
  )

def A26 : Ann where
  live := fun
    | 0 => [4, 5]
    | 2 => [6, 7]
    | _ => []
  wr := fun
    | 0 => fun i => (Nat.ble 4 i && Nat.ble i 7) || (Nat.ble 11 i && Nat.ble i 41)
    | 2 => fun i => (Nat.ble 6 i && Nat.ble i 7) || (Nat.ble 17 i && Nat.ble i 37)
    | _ => fun _ => false
  sched := fun _ => .done

set_option maxRecDepth 100000 in
theorem ok26 : (codeOk Try.f26.ntmps A26 (Try.f26.body.getD .skip) 0 && Nat.ble 1 Try.f26.ntmps) = true := by kernel_rfl
set_option maxRecDepth 100000 in
theorem lift26 {t0 : Value} {w : World} {R : Ending → World → Prop} (h : S26 t0 w R) : Calls Try.prog 26 #[t0] w R :=
  calls_of_cw (fn := Try.f26) (c := Try.f26.body.getD .skip) A26 mixes Try.func26 (by kernel_rfl) ok26
    ((by kernel_rfl : (S26 t0 w R) = cw Try.prog A26 (Try.f26.body.getD .skip) 0 (bodyQ Try.prog Try.f26 R) (frOf #[t0]) w).mp h)

def S12 (t0 t1 t2 t3 : Value) (w : World) (R : Ending → World → Prop) : Prop :=
  boxW 25 (.agg #[(.int .i64 0), (.int .i64 0), (.int .i64 0)]) w fun t8 w =>
  binQ Try.prog w .rem 5 true t0 (.int .u8 4) fun t16 =>
  cv1 .i64 t16 fun t17 =>
  binQ Try.prog w .add 3 true (.int .i64 1) t17 fun t18 =>
  binQ Try.prog w .rem 5 true t1 (.int .u8 4) fun t20 =>
  cv1 .i64 t20 fun t21 =>
  binQ Try.prog w .add 3 true (.int .i64 1) t21 fun t22 =>
  binQ Try.prog w .rem 5 true t2 (.int .u8 4) fun t24 =>
  cv1 .i64 t24 fun t25 =>
  binQ Try.prog w .add 3 true (.int .i64 1) t25 fun t26 =>
  bdQ Try.prog 25 [(0, t18), (1, t22), (2, t26)] fun t27 =>
  boxW 25 (.agg #[(.int .i64 0), (.int .i64 0), (.int .i64 0)]) w fun t10 w =>
  stW Try.prog 25 t10 t27 w fun w =>
  ldN 3 w t10 fun t29 =>
  callW Try.prog (.func (.func 26) #[] #[]) [t29] w fun t30 w =>
  exQ t30 0 fun t31 =>
  exQ t30 1 fun t32 =>
  Drew w fun w =>
  ldN 3 w t10 fun t34 =>
  cv1 .i64 t3 fun t36 =>
  binQ Try.prog w .rem 3 false t36 t31 fun t38 =>
  callW Try.prog (.func (.func 34) #[] #[]) [t34, t38] w fun t39 w =>
  exQ t39 0 fun t40 =>
  exQ t39 1 fun t41 =>
  ldN 3 w t10 fun t42 =>
  stW Try.prog 25 t8 t42 w fun w =>
  ldN 3 w t8 fun r =>
  R (.returned (.tuple #[r, t40])) w

def A12 : Ann where
  live := fun _ => []
  wr := fun _ _ => false
  sched := fun
    | 3 => (.take 0 (.take 1 (.take 2 (.take 3 (.take 4 (.bar 5 (.take 6 (.take 7 (.take 8 (.take 9 (.take 10 .done)))))))))))
    | _ => .done

set_option maxRecDepth 100000 in
theorem ok12 : (codeOk Try.f12.ntmps A12 (Try.f12.body.getD .skip) 0 && Nat.ble 4 Try.f12.ntmps) = true := by kernel_rfl
set_option maxRecDepth 100000 in
theorem lift12 {t0 t1 t2 t3 : Value} {w : World} {R : Ending → World → Prop} (h : S12 t0 t1 t2 t3 w R) : Calls Try.prog 12 #[t0, t1, t2, t3] w R :=
  calls_of_cw (fn := Try.f12) (c := Try.f12.body.getD .skip) A12 mixes Try.func12 (by kernel_rfl) ok12
    ((by kernel_rfl : (S12 t0 t1 t2 t3 w R) = cw Try.prog A12 (Try.f12.body.getD .skip) 0 (bodyQ Try.prog Try.f12 R) (frOf #[t0, t1, t2, t3]) w).mp h)

def S16 (t0 t1 t2 : Value) (w : World) (R : Ending → World → Prop) : Prop :=
  boxW 25 t0 w fun t3 w =>
  binQ Try.prog w .eql 3 true t2 (.int .i64 1) fun t9 =>
  condW t9 (
    ldN 3 w t3 fun t10 =>
    callW Try.prog (.func (.func 49) #[] #[]) [t10, t1] w fun t12 w =>
    R (.returned t12) w
  ) (
    binQ Try.prog w .eql 3 true t2 (.int .i64 2) fun t14 =>
    condW t14 (
      ldN 3 w t3 fun t15 =>
      callW Try.prog (.func (.func 50) #[] #[]) [t15, t1] w fun t17 w =>
      R (.returned t17) w
    ) (
      binQ Try.prog w .eql 3 true t2 (.int .i64 3) fun t19 =>
      condW t19 (
        ldN 3 w t3 fun t20 =>
        callW Try.prog (.func (.func 51) #[] #[]) [t20, t1] w fun t22 w =>
        R (.returned t22) w
      ) (
        binQ Try.prog w .eql 3 true t2 (.int .i64 4) fun t24 =>
        condW t24 (
          Drew w fun w =>
          fa1 t3 1 fun t25 =>
          ld1 w t25 fun t26 =>
          fa1 t3 0 fun t27 =>
          ld1 w t27 fun t28 =>
          fa1 t3 2 fun t29 =>
          ld1 w t29 fun t30 =>
          bdQ Try.prog 25 [(0, t26), (1, t28), (2, t30)] fun t31 =>
          ldN 3 w t3 fun t32 =>
          callW Try.prog (.func (.func 50) #[] #[]) [t32, t1] w <| keepB w fun t34 w =>
          callW Try.prog (.func (.func 49) #[] #[]) [t31, t34] w fun t35 w =>
          R (.returned t35) w
        ) (
          R (.returned t1) w
        )
      )
    )
  )

def A16 : Ann where
  live := fun _ => []
  wr := fun _ _ => false
  sched := fun
    | 9 => (.take 0 (.take 1 (.take 2 (.take 3 (.take 4 (.take 5 (.take 6 (.take 7 (.take 8 (.eff 9 (.bar 10 (.take 11 .done))))))))))))
    | _ => .done

set_option maxRecDepth 100000 in
theorem ok16 : (codeOk Try.f16.ntmps A16 (Try.f16.body.getD .skip) 0 && Nat.ble 3 Try.f16.ntmps) = true := by kernel_rfl
set_option maxRecDepth 100000 in
theorem lift16 {t0 t1 t2 : Value} {w : World} {R : Ending → World → Prop} (h : S16 t0 t1 t2 w R) : Calls Try.prog 16 #[t0, t1, t2] w R :=
  calls_of_cw (fn := Try.f16) (c := Try.f16.body.getD .skip) A16 mixes Try.func16 (by kernel_rfl) ok16
    ((by kernel_rfl : (S16 t0 t1 t2 w R) = cw Try.prog A16 (Try.f16.body.getD .skip) 0 (bodyQ Try.prog Try.f16 R) (frOf #[t0, t1, t2]) w).mp h)

def S49 (t0 t1 : Value) (w : World) (R : Ending → World → Prop) : Prop :=
  boxW 25 t0 w fun t2 w =>
  ldN 3 w t2 fun t8 =>
  callW Try.prog (.func (.func 66) #[] #[]) [t8] w fun t9 w =>
  Loop1 (.int .i64 0) w fun _ t6 w next =>
    fa1 t2 0 fun t11 =>
    ld1 w t11 fun t12 =>
    binQ Try.prog w .lss 3 false t6 t12 fun t13 =>
    condW t13 (
      Loop1 (.int .i64 0) w fun _ t7 w next_2 =>
        fa1 t2 1 fun t17 =>
        ld1 w t17 fun t18 =>
        binQ Try.prog w .lss 3 false t7 t18 fun t19 =>
        condW t19 (
          Drew w fun w =>
          iaS 1 t9 t6 fun t24 =>
          ld1 w t24 fun t25 =>
          fa1 t2 2 fun t27 =>
          ld1 w t27 fun t28 =>
          fa1 t2 0 fun t30 =>
          ld1 w t30 fun t31 =>
          binQ Try.prog w .sub 3 true t31 (.int .i64 1) fun t32 =>
          binQ Try.prog w .sub 3 false t32 t6 fun t34 =>
          iaS 1 t1 t34 fun t35 =>
          ld1 w t35 fun t36 =>
          fa1 t2 1 fun t37 =>
          ld1 w t37 fun t38 =>
          binQ Try.prog w .sub 3 true t38 (.int .i64 1) fun t39 =>
          binQ Try.prog w .sub 3 false t39 t7 fun t41 =>
          iaS 1 t36 t41 fun t42 =>
          ld1 w t42 fun t43 =>
          binQ Try.prog w .sub 3 false t28 t43 fun t44 =>
          iaS 1 t25 t7 fun t45 =>
          stW Try.prog 3 t45 t44 w fun w =>
          binQ Try.prog w .add 3 true t7 (.int .i64 1) fun t21 =>
          next_2 t21 w
        ) (
          binQ Try.prog w .add 3 true t6 (.int .i64 1) fun t15 =>
          next t15 w
        )
    ) (
      R (.returned t9) w
    )

def A49 : Ann where
  live := fun
    | 0 => [6]
    | 2 => [7]
    | _ => []
  wr := fun
    | 0 => fun i => (Nat.ble 6 i && Nat.ble i 7) || (Nat.ble 10 i && Nat.ble i 45)
    | 2 => fun i => Nat.beq i 7 || (Nat.ble 16 i && Nat.ble i 45)
    | _ => fun _ => false
  sched := fun
    | 8 => (.take 0 (.take 1 (.take 2 (.take 3 (.take 4 (.take 5 (.take 6 (.take 7 (.take 8 (.take 9 (.take 10 (.take 11 (.take 12 (.take 13 (.take 14 (.take 15 (.take 16 (.take 17 (.take 18 (.take 19 (.take 20 (.take 21 (.take 22 (.take 23 (.bar 24 .done)))))))))))))))))))))))))
    | _ => .done

set_option maxRecDepth 100000 in
theorem ok49 : (codeOk Try.f49.ntmps A49 (Try.f49.body.getD .skip) 0 && Nat.ble 2 Try.f49.ntmps) = true := by kernel_rfl
set_option maxRecDepth 100000 in
theorem lift49 {t0 t1 : Value} {w : World} {R : Ending → World → Prop} (h : S49 t0 t1 w R) : Calls Try.prog 49 #[t0, t1] w R :=
  calls_of_cw (fn := Try.f49) (c := Try.f49.body.getD .skip) A49 mixes Try.func49 (by kernel_rfl) ok49
    ((by kernel_rfl : (S49 t0 t1 w R) = cw Try.prog A49 (Try.f49.body.getD .skip) 0 (bodyQ Try.prog Try.f49 R) (frOf #[t0, t1]) w).mp h)

def S3 (t0 t1 t2 t3 t4 : Value) (w : World) (R : Ending → World → Prop) : Prop :=
  callW Try.prog (.func (.func 12) #[] #[]) [t0, t1, t2, t3] w fun t34 w =>
  exQ t34 0 fun t35 =>
  exQ t34 1 fun t36 =>
  boxW 25 (.agg #[(.int .i64 0), (.int .i64 0), (.int .i64 0)]) w fun t11 w =>
  stW Try.prog 25 t11 t35 w fun w =>
  callW Try.prog (.func (.func 13) #[] #[]) [t36] w fun t38 w =>
  Loop1 t38 w fun _ t13 w next =>
    binQ Try.prog w .gtr 3 true t13 (.int .i64 0) fun t40 =>
    condW t40 (
      ldN 3 w t11 fun t44 =>
      callW Try.prog (.func (.func 14) #[] #[]) [t44, t36] w fun t46 w =>
      exQ t46 0 fun t47 =>
      exQ t46 1 fun t48 =>
      exQ t46 2 fun t49 =>
      binQ Try.prog w .neq 31 true t49 (.int .i64 0) fun t51 =>
      gd t51 false (fun k => k t48 w) w fun t53 w =>
      gd t51 false (fun k => ln1 t53 fun v => k v w) w fun t54 w =>
      gd t51 false (fun k => binQ Try.prog w .eql 3 true t54 (.int .i64 0) fun v => k v w) w fun t55 w =>
      pickQ t51 (.bool true) t55 fun t56 =>
      condW t56 (
        R (.returned (.bool false)) w
      ) (
        iaS 2 t48 (.int .i64 0) fun t58 =>
        ldN 2 w t58 fun t59 =>
        boxW 35 (.agg #[(.int .i64 0), (.int .i64 0)]) w fun t17 w =>
        stW Try.prog 35 t17 t59 w fun w =>
        ln1 t4 fun t62 =>
        binQ Try.prog w .lss 3 false t13 t62 fun t63 =>
        Join (fun (k_2 : World → Prop) =>
          condW t63 (
            iaS 1 t4 t13 fun t67 =>
            ld1 w t67 fun t68 =>
            cv1 .i64 t68 fun t69 =>
            ln1 t48 fun t71 =>
            binQ Try.prog w .rem 3 false t69 t71 fun t72 =>
            iaS 2 t48 t72 fun t73 =>
            ldN 2 w t73 fun t74 =>
            stW Try.prog 35 t17 t74 w fun w =>
            k_2 w
          ) (
            k_2 w
          )
        ) fun w =>
        fa1 t17 1 fun t75_2 =>
        ld1 w t75_2 fun t76_2 =>
        binQ Try.prog w .lss 3 true t76_2 (.int .i64 0) fun t77_2 =>
        gd t77_2 false (fun k => fa1 t17 1 fun v => k v w) w fun t79_2 w =>
        gd t77_2 false (fun k => ld1 w t79_2 fun v => k v w) w fun t80_2 w =>
        gd t77_2 false (fun k => fa1 t11 0 fun v => k v w) w fun t81_2 w =>
        gd t77_2 false (fun k => ld1 w t81_2 fun v => k v w) w fun t82_2 w =>
        gd t77_2 false (fun k => binQ Try.prog w .geq 3 false t80_2 t82_2 fun v => k v w) w fun t83_2 w =>
        pickQ t77_2 (.bool true) t83_2 fun t84_2 =>
        gd t84_2 false (fun k => fa1 t17 0 fun v => k v w) w fun t86_2 w =>
        gd t84_2 false (fun k => ld1 w t86_2 fun v => k v w) w fun t87_2 w =>
        gd t84_2 false (fun k => binQ Try.prog w .lss 3 true t87_2 (.int .i64 0) fun v => k v w) w fun t88_2 w =>
        pickQ t84_2 (.bool true) t88_2 fun t89_2 =>
        gd t89_2 false (fun k => fa1 t17 0 fun v => k v w) w fun t91_2 w =>
        gd t89_2 false (fun k => ld1 w t91_2 fun v => k v w) w fun t92_2 w =>
        gd t89_2 false (fun k => fa1 t11 1 fun v => k v w) w fun t93_2 w =>
        gd t89_2 false (fun k => ld1 w t93_2 fun v => k v w) w fun t94_2 w =>
        gd t89_2 false (fun k => binQ Try.prog w .geq 3 false t92_2 t94_2 fun v => k v w) w fun t95_2 w =>
        pickQ t89_2 (.bool true) t95_2 fun t96_2 =>
        condW t96_2 (
          R (.returned (.bool false)) w
        ) (
          Drew w fun w =>
          fa1 t17 1 fun t98_2 =>
          ld1 w t98_2 fun t99_2 =>
          iaS 1 t36 t99_2 fun t100_2 =>
          ld1 w t100_2 fun t101_2 =>
          fa1 t17 0 fun t102_2 =>
          ld1 w t102_2 fun t103_2 =>
          iaS 1 t101_2 t103_2 fun t104_2 =>
          ld1 w t104_2 fun t105_2 =>
          binQ Try.prog w .sub 3 true t105_2 (.int .i64 1) fun t106_2 =>
          iaS 1 t101_2 t103_2 fun t107_2 =>
          stW Try.prog 3 t107_2 t106_2 w fun w =>
          ldN 3 w t11 fun t109_2 =>
          callW Try.prog (.func (.func 14) #[] #[]) [t109_2, t36] w fun t111_2 w =>
          exQ t111_2 0 fun t112_2 =>
          exQ t111_2 1 fun t113_2 =>
          exQ t111_2 2 fun t114_2 =>
          Loop2 (.bool false) (.int .i64 0) w fun _ t20_2 t21_2 w next_3 =>
            ln1 t112_2 fun t117_2 =>
            binQ Try.prog w .lss 3 false t21_2 t117_2 fun t118_2 =>
            condW t118_2 (
              Drew w fun w =>
              gdQ t20_2 false (fun k => k t112_2) fun t123_2 =>
              gdQ t20_2 false (fun k => k t21_2) fun t124_2 =>
              gdQ t20_2 false (fun k => iaS 2 t123_2 t124_2 k) fun t125_2 =>
              gdQ t20_2 false (fun k => ldN 2 w t125_2 k) fun t126_2 =>
              gdQ t20_2 false (fun k => ldN 2 w t17 k) fun t127_2 =>
              gdQ t20_2 false (fun k => binQ Try.prog w .eql 35 false t126_2 t127_2 k) fun t128_2 =>
              pickQ t20_2 (.bool true) t128_2 fun t129_2 =>
              binQ Try.prog w .add 3 true t21_2 (.int .i64 1) fun t120_2 =>
              next_3 t129_2 t120_2 w
            ) (
              binQ Try.prog w .neq 31 true t114_2 (.int .i64 0) fun t131_2 =>
              gd t131_2 false (fun k => k t20_2 w) w fun t133_2 w =>
              gd t131_2 false (fun k => unQ .not t133_2 fun v => k v w) w fun t134_2 w =>
              pickQ t131_2 (.bool true) t134_2 fun t135_2 =>
              gd t135_2 false (fun k => ldN 3 w t11 fun v => k v w) w fun t137_2 w =>
              gd t135_2 false (fun k => k t36 w) w fun t138_2 w =>
              gd t135_2 false (fun k => callW Try.prog (.func (.func 15) #[] #[]) [t137_2, t138_2] w k) w fun t139_2 w =>
              gd t135_2 false (fun k => unQ .not t139_2 fun v => k v w) w fun t140_2 w =>
              pickQ t135_2 (.bool true) t140_2 fun t141_2 =>
              condW t141_2 (
                R (.returned (.bool false)) w
              ) (
                binQ Try.prog w .sub 3 true t13 (.int .i64 1) fun t42_2 =>
                next t42_2 w
              )
            )
        )
      )
    ) (
      ldN 3 w t11 fun t143 =>
      callW Try.prog (.func (.func 14) #[] #[]) [t143, t36] w fun t145 w =>
      exQ t145 0 fun t146 =>
      exQ t145 1 fun t147 =>
      exQ t145 2 fun t148 =>
      ldN 3 w t11 fun t149 =>
      callW Try.prog (.func (.func 16) #[] #[]) [t149, t36, (.int .i64 1)] w fun t151 w =>
      ldN 3 w t11 fun t153 =>
      callW Try.prog (.func (.func 14) #[] #[]) [t153, t151] w fun t155 w =>
      exQ t155 0 fun t156 =>
      exQ t155 1 fun t157 =>
      exQ t155 2 fun t158 =>
      binQ Try.prog w .eql 31 true t148 (.int .i64 0) fun t160 =>
      gd t160 true (fun k => k t158 w) w fun t162 w =>
      gd t160 true (fun k => binQ Try.prog w .eql 31 true t162 (.int .i64 0) fun v => k v w) w fun t163 w =>
      pickQ t160 t163 (.bool false) fun t164 =>
      gd t164 true (fun k => k t147 w) w fun t166 w =>
      gd t164 true (fun k => ln1 t166 fun v => k v w) w fun t167 w =>
      gd t164 true (fun k => binQ Try.prog w .eql 3 true t167 (.int .i64 0) fun v => k v w) w fun t168 w =>
      pickQ t164 t168 (.bool false) fun t169 =>
      gd t169 true (fun k => k t156 w) w fun t171 w =>
      gd t169 true (fun k => ln1 t171 fun v => k v w) w fun t172 w =>
      gd t169 true (fun k => binQ Try.prog w .eql 3 true t172 (.int .i64 0) fun v => k v w) w fun t173 w =>
      pickQ t169 t173 (.bool false) fun t174 =>
      gd t174 true (fun k => callW Try.prog (.func (.func 17) #[] #[]) [] w k) w fun t176 w =>
      pickQ t174 t176 (.bool false) fun t177 =>
      R (.returned t177) w
    )

def A3 : Ann where
  live := fun
    | 0 => [13]
    | 2 => [20, 21]
    | _ => []
  wr := fun
    | 0 => fun i => Nat.beq i 10 || (Nat.ble 13 i && Nat.ble i 21) || (Nat.ble 39 i && Nat.ble i 141)
    | 2 => fun i => (Nat.ble 20 i && Nat.ble i 21) || (Nat.ble 115 i && Nat.ble i 129)
    | _ => fun _ => false
  sched := fun
    | 13 => (.take 0 (.take 1 (.take 2 (.take 3 (.take 4 (.take 5 (.take 6 (.take 7 (.take 8 (.take 9 (.take 10 (.bar 11 .done))))))))))))
    | 19 => (.take 0 (.take 1 (.take 2 (.take 3 (.take 4 (.take 5 (.take 6 (.take 7 (.take 8 (.take 9 .done))))))))))
    | _ => .done

set_option maxRecDepth 100000 in
theorem ok3 : (codeOk Try.f3.ntmps A3 (Try.f3.body.getD .skip) 0 && Nat.ble 5 Try.f3.ntmps) = true := by kernel_rfl
set_option maxRecDepth 100000 in
theorem lift3 {t0 t1 t2 t3 t4 : Value} {w : World} {R : Ending → World → Prop} (h : S3 t0 t1 t2 t3 t4 w R) : Calls Try.prog 3 #[t0, t1, t2, t3, t4] w R :=
  calls_of_cw (fn := Try.f3) (c := Try.f3.body.getD .skip) A3 mixes Try.func3 (by kernel_rfl) ok3
    ((by kernel_rfl : (S3 t0 t1 t2 t3 t4 w R) = cw Try.prog A3 (Try.f3.body.getD .skip) 0 (bodyQ Try.prog Try.f3 R) (frOf #[t0, t1, t2, t3, t4]) w).mp h)

theorem fok63 : fnOk Try.prog 63 = true := by kernel_rfl
theorem fok64 : fnOk Try.prog 64 = true := by kernel_rfl
theorem fok26 : fnOk Try.prog 26 = true := by kernel_rfl
theorem fok12 : fnOk Try.prog 12 = true := by kernel_rfl
theorem fok16 : fnOk Try.prog 16 = true := by kernel_rfl
theorem fok49 : fnOk Try.prog 49 = true := by kernel_rfl
theorem fok3 : fnOk Try.prog 3 = true := by kernel_rfl
end Go.Proofs.Ytaephdjmpmbfpaa

/- Contracts: choose; lists of rows of one's own. -/
namespace Go.Proofs.Ytaephdjmpmbfpaa
open Go.Lf Go.RowKit Go.Hp

theorem choose_calls (n : Nat) (k : Int) (w : World) (hn : n ≤ 8) (hk : k ≤ 100) : Calls Try.prog 60 #[.int .i64 n, .int .i64 k] w fun e w' => e = .returned (.int .i64 (chZ n k)) ∧ w = w' := by
  refine lift60 ?_
  unfold S60
  by_cases h0 : k < 0
  · simp (disch := omega) only [r_ln, r_pick, r_pickT, r_pickF, r_condT, r_condF, r_gdTT, r_gdFF, r_gdTF, r_gdFT, r_gqTT, r_gqFF, r_gqTF, r_gqFT, r_not, r_lss, r_leq, r_gtr, r_geq, r_eql, r_neq, r_add, r_sub, r_min2, r_max2, r_min3, r_max3, r_fa, r_iaS, r_iaA, r_ex2a, r_ex2b, r_ex3a, r_ex3b, r_ex3c, r_nc, r_keepE, Nat.zero_add, Nat.add_zero, Nat.mul_one, Int.toNat_natCast, toNat_sub1, toNat_add1, decide_true, decide_false, Bool.not_true, Bool.not_false, if_true, if_false, Bool.false_eq_true, reduceCtorEq, h0]
    exact ⟨by simp [chZ, h0], trivial⟩
  by_cases h1 : (n : Int) < k
  · simp (disch := omega) only [r_ln, r_pick, r_pickT, r_pickF, r_condT, r_condF, r_gdTT, r_gdFF, r_gdTF, r_gdFT, r_gqTT, r_gqFF, r_gqTF, r_gqFT, r_not, r_lss, r_leq, r_gtr, r_geq, r_eql, r_neq, r_add, r_sub, r_min2, r_max2, r_min3, r_max3, r_fa, r_iaS, r_iaA, r_ex2a, r_ex2b, r_ex3a, r_ex3b, r_ex3c, r_nc, r_keepE, Nat.zero_add, Nat.add_zero, Nat.mul_one, Int.toNat_natCast, toNat_sub1, toNat_add1, decide_true, decide_false, Bool.not_true, Bool.not_false, if_true, if_false, Bool.false_eq_true, reduceCtorEq, h0, h1]
    refine ⟨?_, trivial⟩
    rw [chZ, if_neg h0, ch_big n k.toNat (by omega)]; rfl
  simp (disch := omega) only [r_ln, r_pick, r_pickT, r_pickF, r_condT, r_condF, r_gdTT, r_gdFF, r_gdTF, r_gdFT, r_gqTT, r_gqFF, r_gqTF, r_gqFT, r_not, r_lss, r_leq, r_gtr, r_geq, r_eql, r_neq, r_add, r_sub, r_min2, r_max2, r_min3, r_max3, r_fa, r_iaS, r_iaA, r_ex2a, r_ex2b, r_ex3a, r_ex3b, r_ex3c, r_nc, r_keepE, Nat.zero_add, Nat.add_zero, Nat.mul_one, Int.toNat_natCast, toNat_sub1, toNat_add1, decide_true, decide_false, Bool.not_true, Bool.not_false, if_true, if_false, Bool.false_eq_true, reduceCtorEq, h0, h1]
  refine ⟨fun t5 t15 wr => ∃ i : Nat, (i : Int) ≤ k ∧ t15 = .int .i64 i ∧ t5 = .int .i64 (ch n i) ∧ w = wr, fun _ t15 _ => k.toNat - (intOf t15).toNat, ⟨0, by omega, rfl, by rw [ch_zero]; rfl, rfl⟩, ?_⟩
  rintro _ _ _ _ ⟨i, hi, rfl, rfl, rfl⟩
  by_cases hlt : (i : Int) < k
  case neg =>
    have e : k.toNat = i := by omega
    simp (disch := omega) only [r_ln, r_pick, r_pickT, r_pickF, r_condT, r_condF, r_gdTT, r_gdFF, r_gdTF, r_gdFT, r_gqTT, r_gqFF, r_gqTF, r_gqFT, r_not, r_lss, r_leq, r_gtr, r_geq, r_eql, r_neq, r_add, r_sub, r_min2, r_max2, r_min3, r_max3, r_fa, r_iaS, r_iaA, r_ex2a, r_ex2b, r_ex3a, r_ex3b, r_ex3c, r_nc, r_keepE, Nat.zero_add, Nat.add_zero, Nat.mul_one, Int.toNat_natCast, toNat_sub1, toNat_add1, decide_true, decide_false, Bool.not_true, Bool.not_false, if_true, if_false, Bool.false_eq_true, reduceCtorEq, hlt]
    exact ⟨by rw [chZ, if_neg h0, e], trivial⟩
  have hb := ch_mulZ hn (show i < n by omega)
  simp (disch := omega) only [r_ln, r_pick, r_pickT, r_pickF, r_condT, r_condF, r_gdTT, r_gdFF, r_gdTF, r_gdFT, r_gqTT, r_gqFF, r_gqTF, r_gqFT, r_not, r_lss, r_leq, r_gtr, r_geq, r_eql, r_neq, r_add, r_sub, r_min2, r_max2, r_min3, r_max3, r_fa, r_iaS, r_iaA, r_ex2a, r_ex2b, r_ex3a, r_ex3b, r_ex3c, r_nc, r_keepE, Nat.zero_add, Nat.add_zero, Nat.mul_one, Int.toNat_natCast, toNat_sub1, toNat_add1, decide_true, decide_false, Bool.not_true, Bool.not_false, if_true, if_false, Bool.false_eq_true, reduceCtorEq, hlt, r_mul, r_quo]
  refine ⟨⟨i + 1, by omega, by go_num, ?_, trivial⟩, by simp only [intOf]; omega⟩
  rw [ch_stepZ hn (by omega)]

set_option maxRecDepth 100000 in
theorem refchoose_calls : ∀ (n : Nat) (k : Int) (w : World), n ≤ 8 → k ≤ 100 → Calls Try.prog 63 #[.int .i64 n, .int .i64 k] w fun e w' => e = .returned (.int .i64 (chZ n k)) ∧ w = w' := by
  intro n
  induction n with
  | zero =>
    intro k w hn hk
    refine lift63 ?_
    unfold S63
    by_cases h0 : k < 0
    · simp (disch := omega) only [r_ln, r_pick, r_pickT, r_pickF, r_condT, r_condF, r_gdTT, r_gdFF, r_gdTF, r_gdFT, r_gqTT, r_gqFF, r_gqTF, r_gqFT, r_not, r_lss, r_leq, r_gtr, r_geq, r_eql, r_neq, r_add, r_sub, r_min2, r_max2, r_min3, r_max3, r_fa, r_iaS, r_iaA, r_ex2a, r_ex2b, r_ex3a, r_ex3b, r_ex3c, r_nc, r_keepE, Nat.zero_add, Nat.add_zero, Nat.mul_one, Int.toNat_natCast, toNat_sub1, toNat_add1, decide_true, decide_false, Bool.not_true, Bool.not_false, if_true, if_false, Bool.false_eq_true, reduceCtorEq, h0]
      exact ⟨by simp [chZ, h0], trivial⟩
    by_cases h1 : ((0 : Nat) : Int) < k
    · simp (disch := omega) only [r_ln, r_pick, r_pickT, r_pickF, r_condT, r_condF, r_gdTT, r_gdFF, r_gdTF, r_gdFT, r_gqTT, r_gqFF, r_gqTF, r_gqFT, r_not, r_lss, r_leq, r_gtr, r_geq, r_eql, r_neq, r_add, r_sub, r_min2, r_max2, r_min3, r_max3, r_fa, r_iaS, r_iaA, r_ex2a, r_ex2b, r_ex3a, r_ex3b, r_ex3c, r_nc, r_keepE, Nat.zero_add, Nat.add_zero, Nat.mul_one, Int.toNat_natCast, toNat_sub1, toNat_add1, decide_true, decide_false, Bool.not_true, Bool.not_false, if_true, if_false, Bool.false_eq_true, reduceCtorEq, h0, h1]
      refine ⟨?_, trivial⟩
      rw [chZ, if_neg h0, ch_big 0 k.toNat (by omega)]; rfl
    have e : k = 0 := by omega
    subst e
    simp (disch := omega) only [r_ln, r_pick, r_pickT, r_pickF, r_condT, r_condF, r_gdTT, r_gdFF, r_gdTF, r_gdFT, r_gqTT, r_gqFF, r_gqTF, r_gqFT, r_not, r_lss, r_leq, r_gtr, r_geq, r_eql, r_neq, r_add, r_sub, r_min2, r_max2, r_min3, r_max3, r_fa, r_iaS, r_iaA, r_ex2a, r_ex2b, r_ex3a, r_ex3b, r_ex3c, r_nc, r_keepE, Nat.zero_add, Nat.add_zero, Nat.mul_one, Int.toNat_natCast, toNat_sub1, toNat_add1, decide_true, decide_false, Bool.not_true, Bool.not_false, if_true, if_false, Bool.false_eq_true, reduceCtorEq, h0, h1]
    exact ⟨rfl, trivial⟩
  | succ n ih =>
    intro k w hn hk
    refine lift63 ?_
    unfold S63
    by_cases h0 : k < 0
    · simp (disch := omega) only [r_ln, r_pick, r_pickT, r_pickF, r_condT, r_condF, r_gdTT, r_gdFF, r_gdTF, r_gdFT, r_gqTT, r_gqFF, r_gqTF, r_gqFT, r_not, r_lss, r_leq, r_gtr, r_geq, r_eql, r_neq, r_add, r_sub, r_min2, r_max2, r_min3, r_max3, r_fa, r_iaS, r_iaA, r_ex2a, r_ex2b, r_ex3a, r_ex3b, r_ex3c, r_nc, r_keepE, Nat.zero_add, Nat.add_zero, Nat.mul_one, Int.toNat_natCast, toNat_sub1, toNat_add1, decide_true, decide_false, Bool.not_true, Bool.not_false, if_true, if_false, Bool.false_eq_true, reduceCtorEq, h0]
      exact ⟨by simp [chZ, h0], trivial⟩
    by_cases h1 : ((n + 1 : Nat) : Int) < k
    · simp (disch := omega) only [r_ln, r_pick, r_pickT, r_pickF, r_condT, r_condF, r_gdTT, r_gdFF, r_gdTF, r_gdFT, r_gqTT, r_gqFF, r_gqTF, r_gqFT, r_not, r_lss, r_leq, r_gtr, r_geq, r_eql, r_neq, r_add, r_sub, r_min2, r_max2, r_min3, r_max3, r_fa, r_iaS, r_iaA, r_ex2a, r_ex2b, r_ex3a, r_ex3b, r_ex3c, r_nc, r_keepE, Nat.zero_add, Nat.add_zero, Nat.mul_one, Int.toNat_natCast, toNat_sub1, toNat_add1, decide_true, decide_false, Bool.not_true, Bool.not_false, if_true, if_false, Bool.false_eq_true, reduceCtorEq, h0, h1]
      refine ⟨?_, trivial⟩
      rw [chZ, if_neg h0, ch_big (n + 1) k.toNat (by omega)]; rfl
    by_cases h2 : k = 0
    · subst h2
      simp (disch := omega) only [r_ln, r_pick, r_pickT, r_pickF, r_condT, r_condF, r_gdTT, r_gdFF, r_gdTF, r_gdFT, r_gqTT, r_gqFF, r_gqTF, r_gqFT, r_not, r_lss, r_leq, r_gtr, r_geq, r_eql, r_neq, r_add, r_sub, r_min2, r_max2, r_min3, r_max3, r_fa, r_iaS, r_iaA, r_ex2a, r_ex2b, r_ex3a, r_ex3b, r_ex3c, r_nc, r_keepE, Nat.zero_add, Nat.add_zero, Nat.mul_one, Int.toNat_natCast, toNat_sub1, toNat_add1, decide_true, decide_false, Bool.not_true, Bool.not_false, if_true, if_false, Bool.false_eq_true, reduceCtorEq, h0, h1]
      exact ⟨rfl, trivial⟩
    by_cases h3 : k = ((n + 1 : Nat) : Int)
    · subst h3
      simp (disch := omega) only [r_ln, r_pick, r_pickT, r_pickF, r_condT, r_condF, r_gdTT, r_gdFF, r_gdTF, r_gdFT, r_gqTT, r_gqFF, r_gqTF, r_gqFT, r_not, r_lss, r_leq, r_gtr, r_geq, r_eql, r_neq, r_add, r_sub, r_min2, r_max2, r_min3, r_max3, r_fa, r_iaS, r_iaA, r_ex2a, r_ex2b, r_ex3a, r_ex3b, r_ex3c, r_nc, r_keepE, Nat.zero_add, Nat.add_zero, Nat.mul_one, Int.toNat_natCast, toNat_sub1, toNat_add1, decide_true, decide_false, Bool.not_true, Bool.not_false, if_true, if_false, Bool.false_eq_true, reduceCtorEq, h0, h1, h2]
      refine ⟨?_, trivial⟩
      rw [chZ, if_neg h0, Int.toNat_natCast, ch_self]; rfl
    simp (disch := omega) only [r_ln, r_pick, r_pickT, r_pickF, r_condT, r_condF, r_gdTT, r_gdFF, r_gdTF, r_gdFT, r_gqTT, r_gqFF, r_gqTF, r_gqFT, r_not, r_lss, r_leq, r_gtr, r_geq, r_eql, r_neq, r_add, r_sub, r_min2, r_max2, r_min3, r_max3, r_fa, r_iaS, r_iaA, r_ex2a, r_ex2b, r_ex3a, r_ex3b, r_ex3c, r_nc, r_keepE, Nat.zero_add, Nat.add_zero, Nat.mul_one, Int.toNat_natCast, toNat_sub1, toNat_add1, decide_true, decide_false, Bool.not_true, Bool.not_false, if_true, if_false, Bool.false_eq_true, reduceCtorEq, h0, h1, h2, h3]
    have en : ((n + 1 : Nat) : Int) - 1 = (n : Nat) := by omega
    rw [en]
    refine r_use fok63 (ih (k - 1) w (by omega) (by omega)) rfl ?_
    rintro _ _ ⟨rfl, rfl⟩
    refine ⟨_, rfl, ?_⟩
    try simp (disch := omega) only [r_ln, r_pick, r_pickT, r_pickF, r_condT, r_condF, r_gdTT, r_gdFF, r_gdTF, r_gdFT, r_gqTT, r_gqFF, r_gqTF, r_gqFT, r_not, r_lss, r_leq, r_gtr, r_geq, r_eql, r_neq, r_add, r_sub, r_min2, r_max2, r_min3, r_max3, r_fa, r_iaS, r_iaA, r_ex2a, r_ex2b, r_ex3a, r_ex3b, r_ex3c, r_nc, r_keepE, Nat.zero_add, Nat.add_zero, Nat.mul_one, Int.toNat_natCast, toNat_sub1, toNat_add1, decide_true, decide_false, Bool.not_true, Bool.not_false, if_true, if_false, Bool.false_eq_true, reduceCtorEq, en]
    refine r_use fok63 (ih k w (by omega) (by omega)) rfl ?_
    rintro _ _ ⟨rfl, rfl⟩
    refine ⟨_, rfl, ?_⟩
    have b1 := chZ_le (n := n) (k := k) (by omega)
    have b2 := chZ_le (n := n) (k := k - 1) (by omega)
    simp (disch := omega) only [r_ln, r_pick, r_pickT, r_pickF, r_condT, r_condF, r_gdTT, r_gdFF, r_gdTF, r_gdFT, r_gqTT, r_gqFF, r_gqTF, r_gqFT, r_not, r_lss, r_leq, r_gtr, r_geq, r_eql, r_neq, r_add, r_sub, r_min2, r_max2, r_min3, r_max3, r_fa, r_iaS, r_iaA, r_ex2a, r_ex2b, r_ex3a, r_ex3b, r_ex3c, r_nc, r_keepE, Nat.zero_add, Nat.add_zero, Nat.mul_one, Int.toNat_natCast, toNat_sub1, toNat_add1, decide_true, decide_false, Bool.not_true, Bool.not_false, if_true, if_false, Bool.false_eq_true, reduceCtorEq]
    refine ⟨?_, trivial⟩
    have e1 : chZ (n + 1) k = chZ n (k - 1) + chZ n k := by
      unfold chZ
      rw [if_neg h0, if_neg h0, if_neg (by omega)]
      obtain ⟨q, hq⟩ : ∃ q, k.toNat = q + 1 := ⟨k.toNat - 1, by omega⟩
      have hq2 : (k - 1).toNat = q := by omega
      rw [hq, hq2]
      simp [ch]
    rw [e1]

/-- The slice v reads as l, has room as long as it says, and lies in a block of its own. -/
def OwnInts (w : World) (r : Value) (l : List Int) : Prop := (∃ b, w.ownsRow b 3 1 r l.length (intCells l)) ∧ l.length ≤ 1000000

theorem OwnInts.kp {w w' : World} {r : Value} {l : List Int} (h : OwnInts w r l) (hk : Kp w w') : OwnInts w' r l := let ⟨⟨b, o⟩, hl⟩ := h; ⟨⟨b, owns_kp o hk⟩, hl⟩

theorem OwnInts.form {w : World} {r : Value} {l : List Int} (h : OwnInts w r l) : ∃ a cap, r = .slice a l.length cap ∧ l.length ≤ cap ∧ RdInts w r l := by
  obtain ⟨⟨b, h1, h2⟩, hsm⟩ := h
  rcases h2 with ⟨rfl, h0⟩ | ⟨g, cap, cur, rfl, hb, hg, hle, hm, hs, ht⟩
  · refine ⟨none, 0, by rw [h0], by omega, none, 0, by rw [h0], by omega, fun h => by omega⟩
  · refine ⟨_, cap, rfl, hle, _, cap, rfl, by omega, fun _ => ⟨g, 0, rfl, fun i hi => ?_⟩⟩
    rw [Nat.zero_add, cell_row hg]
    have : cur.toList[i]? = (intCells l)[i]? := by
      rw [← ht, List.getElem?_take, if_pos (by omega)]
    rw [← Array.getElem?_toList, this]
    simp [intCells, hi]

/-- The slice v reads as rows, itself and each row in a block of its own. -/
def IntRows (base : Nat) (w : World) (v : Value) (rows : List (List Int)) : Prop :=
  ∃ xs, w.ownsRow base 36 1 v rows.length xs ∧ ∀ i, i < rows.length → ∃ r, xs[i]? = some r ∧ OwnInts w r (rows.getD i [])

theorem IntRows.nil (base : Nat) (w : World) : IntRows base w nilS [] := ⟨[], World.ownsRow_nil _ _ _ _, fun _ h => by cases h⟩

theorem IntRows.kp {base : Nat} {w w' : World} {v : Value} {rows : List (List Int)} (h : IntRows base w v rows) (hk : Kp w w') : IntRows base w' v rows :=
  let ⟨xs, h1, h2⟩ := h; ⟨xs, owns_kp h1 hk, fun i hi => let ⟨r, a, b⟩ := h2 i hi; ⟨r, a, b.kp hk⟩⟩

theorem IntRows.at {base : Nat} {w : World} {v : Value} {rows : List (List Int)} (h : IntRows base w v rows) {i : Nat} (hi : i < rows.length) :
    ∃ g cap r, v = .slice (some ⟨g, 0, none⟩) rows.length cap ∧ rows.length ≤ cap ∧ w.cell? ⟨g, i, none⟩ = some r ∧ OwnInts w r (rows.getD i []) := by
  obtain ⟨xs, ⟨h1, h2⟩, h3⟩ := h
  obtain ⟨r, hr, ho⟩ := h3 i hi
  rcases h2 with ⟨rfl, h0⟩ | ⟨g, cap, cur, rfl, hb, hg, hle, hm, hs, ht⟩
  · omega
  · refine ⟨g, cap, r, rfl, hle, ?_, ho⟩
    rw [cell_row hg, ← Array.getElem?_toList]
    have : cur.toList[i]? = xs[i]? := by rw [← ht, List.getElem?_take, if_pos (by omega)]
    rw [this, hr]

theorem IntRows.len {base : Nat} {w : World} {v : Value} {rows : List (List Int)} (h : IntRows base w v rows) : ∃ a cap, v = .slice a rows.length cap ∧ rows.length ≤ cap := by
  obtain ⟨xs, ⟨h1, h2⟩, h3⟩ := h
  rcases h2 with ⟨rfl, h0⟩ | ⟨g, cap, cur, rfl, hb, hg, hle, hm, hs, ht⟩
  · exact ⟨none, 0, by rw [h0], by omega⟩
  · exact ⟨_, cap, rfl, hle⟩

theorem IntRows.rd {base : Nat} {w : World} {v : Value} {rows : List (List Int)} (h : IntRows base w v rows) (hs : rows.length ≤ 17592186044416) : RdRows w v rows := by
  obtain ⟨xs, ⟨h1, h2⟩, h3⟩ := h
  rcases h2 with ⟨rfl, h0⟩ | ⟨g, cap, cur, rfl, hb, hg, hle, hm, hsz, ht⟩
  · exact ⟨none, 0, fun _ => undef, by rw [h0], hs, fun h => by omega, fun i hi => by omega⟩
  · refine ⟨_, cap, fun i => xs.getD i undef, rfl, hs, fun _ => ⟨g, 0, rfl, fun i hi => ?_⟩, fun i hi => ?_⟩
    · obtain ⟨r, hr, _⟩ := h3 i hi
      rw [Nat.zero_add, cell_row hg, ← Array.getElem?_toList]
      have : cur.toList[i]? = xs[i]? := by rw [← ht, List.getElem?_take, if_pos (by omega)]
      rw [this, hr]
      simp [hr]
    · obtain ⟨r, hr, ho⟩ := h3 i hi
      have : xs.getD i undef = r := by simp [hr]
      show RdInts w (xs.getD i undef) _
      rw [this]
      obtain ⟨_, _, _, _, h⟩ := ho.form
      exact h

theorem OwnInts.grown {base n size : Nat} {w w' : World} {r v : Value} {l : List Int} {xs : List Value} (h : OwnInts w r l) (hv : w.ownsRow base 36 size v n xs) (hg : w.grownBy w' v.ownBlock) : OwnInts w' r l := by
  obtain ⟨⟨b, o⟩, hsm⟩ := h
  refine ⟨⟨b, owns_chg o (Chg.of_grown (S := fun k => v.ownBlock = some k) hg fun k h => h) fun k hk hv' => ?_⟩, hsm⟩
  rcases o.2 with ⟨rfl, _⟩ | ⟨g, cap, cur, rfl, _, hgb, _⟩
  · simp [Value.ownBlock] at hk
  · rcases hv.2 with ⟨rfl, _⟩ | ⟨g2, cap2, cur2, rfl, _, hgb2, _⟩
    · simp [Value.ownBlock] at hv'
    · simp [Value.ownBlock] at hk hv'
      subst hk; subst hv'
      rw [hgb] at hgb2
      simp at hgb2

set_option maxRecDepth 100000 in
/-- append(v, r) of a row. -/
theorem r_pushRow {base : Nat} {ty : TypeId} {v r : Value} {rows : List (List Int)} {row : List Int} {w w0 : World} {K : Value → World → Prop} (h : IntRows base w v rows) (hr : OwnInts w r row) (hn : rows.length + 1 ≤ 1000000) (hb : base ≤ w.heap.size)
    (h0 : Kp w0 w) (hb0 : w0.heap.size ≤ base) (hk : ∀ v' w', IntRows base w' v' (rows ++ [row]) → Kp w0 w' → K v' w') : bsW Try.prog 26 1 [(0, r)] w fun s w => semW Try.prog (apS [26, 26] ty [v, s]) w K := by
  obtain ⟨xs, h1, h2⟩ := h
  obtain ⟨a, cap, e, _, _⟩ := hr.form
  subst e
  have key : ∀ v' w', w'.ownsRow base 36 1 v' (rows.length + 1) (xs ++ [Value.slice a row.length cap]) → w.grownBy w' v.ownBlock → K v' w' := by
    intro v' w' ho hg
    refine hk v' w' ⟨xs ++ [.slice a row.length cap], by simpa using ho, fun i hi => ?_⟩ (Below.grown h0 hg h0.size fun k hk' => Nat.le_trans hb0 (h1.lt k hk').1)
    have hl : xs.length = rows.length := by have := h1.1; omega
    by_cases hir : i < rows.length
    · obtain ⟨r, e1, e2⟩ := h2 i hir
      refine ⟨r, by rw [List.getElem?_append_left (by omega), e1], ?_⟩
      have : (rows ++ [row]).getD i [] = rows.getD i [] := by simp [List.getD_eq_getElem?_getD, List.getElem?_append_left hir]
      rw [this]
      exact e2.grown h1 hg
    · have hi' : i = rows.length := by simp at hi; omega
      subst hi'
      refine ⟨.slice a row.length cap, by rw [List.getElem?_append_right (by omega), hl, Nat.sub_self]; rfl, ?_⟩
      have : (rows ++ [row]).getD rows.length [] = row := by simp [List.getD_eq_getElem?_getD]
      rw [this]
      exact hr.grown h1 hg
  exact r_push slt26 (bs26 _ _ _ _) rfl (by intro u hu; simp [Value.cells] at hu; subst hu; rfl) h1 (by omega) (by omega) hb fun v' w' ho hg => key v' w' (by simpa [Value.cells] using ho) hg

set_option maxRecDepth 100000 in
/-- The same where the new element's block is asked to keep what is there. -/
theorem r_pushRowK {base : Nat} {ty : TypeId} {v r : Value} {rows : List (List Int)} {row : List Int} {w w0 : World} {K : Value → World → Prop} (h : IntRows base w v rows) (hr : OwnInts w r row) (hn : rows.length + 1 ≤ 1000000) (hb : base ≤ w.heap.size)
    (h0 : Kp w0 w) (hb0 : w0.heap.size ≤ base) (hk : ∀ v' w', IntRows base w' v' (rows ++ [row]) → Kp w0 w' → K v' w') : bsW Try.prog 26 1 [(0, r)] w (keepB w fun s w => semW Try.prog (apS [26, 26] ty [v, s]) w K) := by
  have := r_pushRow (ty := ty) h hr hn hb h0 hb0 hk
  obtain ⟨a, cap, e, _, _⟩ := hr.form
  subst e
  rw [bs26] at this ⊢
  exact ⟨below_alloc _, this⟩

set_option maxRecDepth 100000 in
/-- append(r, x) of an integer. -/
theorem r_pushInt {base : Nat} {ty : TypeId} {r : Value} {l : List Int} {x : Int} {w w0 : World} {K : Value → World → Prop} (h : w.ownsRow base 3 1 r l.length (intCells l)) (hn : l.length + 1 ≤ 1000000) (hb : base ≤ w.heap.size)
    (h0 : Kp w0 w) (hb0 : w0.heap.size ≤ base) (hk : ∀ v' w', w'.ownsRow base 3 1 v' (l ++ [x]).length (intCells (l ++ [x])) → Kp w0 w' → K v' w') : bsW Try.prog 36 1 [(0, .int .i64 x)] w fun s w => semW Try.prog (apS [36, 36] ty [r, s]) w K :=
  r_push slt36 (bs36 _ _ _) rfl (by intro u hu; simp [Value.cells] at hu; subst hu; rfl) h (by omega) (by omega) hb fun v' w' ho hg => hk v' w' (by simpa [Value.cells, intCells] using ho) (Below.grown h0 hg h0.size fun k hk' => Nat.le_trans hb0 (h.lt k hk').1)

theorem addr_add0 (a : Addr) : a.add 0 = a := by
  cases a with
  | mk b o h => cases h <;> rfl

/-- s[:j] -/
theorem r_slTo {a : Option Addr} {n c : Nat} {j : Int} {k : IntKind} {K : Value → Prop} (h0 : 0 ≤ j) (h1 : j ≤ c) : slS 1 (.slice a n c) none (some (.int k j)) K = K (.slice a j.toNat c) := by
  have e : (if c = 0 then a else a.map fun x => x.add (0 * 1)) = a := by
    split
    · rfl
    · cases a with
      | none => rfl
      | some x => simp [addr_add0]
  simp only [slS, cutQ, bnd, h0, h1, and_self, if_true, Nat.sub_zero, e]

/-- s[j:] -/
theorem r_slFrom {a : Option Addr} {n c : Nat} {j : Int} {k : IntKind} {K : Value → Prop} (h0 : 0 ≤ j) (h1 : j ≤ n) : slS 1 (.slice a n c) (some (.int k j)) none K = K (.slice (if c = j.toNat then a else a.map fun x => x.add j.toNat) (n - j.toNat) (c - j.toNat)) := by
  simp only [slS, cutQ, bnd, h0, h1, and_self, if_true, Nat.mul_one]

theorem rd_to {w : World} {a : Option Addr} {n c c' j : Nat} {l : List Int} (h : RdInts w (.slice a n c) l) (hj : j ≤ n) : RdInts w (.slice a j c') (l.take j) := by
  obtain ⟨a', cap, e, hl, hc⟩ := h
  simp only [Value.slice.injEq] at e
  obtain ⟨rfl, rfl, rfl⟩ := e
  have e2 : (l.take j).length = j := by simp; omega
  refine ⟨a, c', by rw [e2], by omega, fun h0 => ?_⟩
  obtain ⟨b, off, rfl, hcell⟩ := hc (by omega)
  refine ⟨b, off, rfl, fun i hi => ?_⟩
  rw [hcell i (by omega)]
  simp [List.getD_eq_getElem?_getD, List.getElem?_take, show i < j by omega]

theorem rd_from {w : World} {a : Option Addr} {n c c' j : Nat} {l : List Int} (h : RdInts w (.slice a n c) l) (hj : j ≤ n) (hnc : n ≤ c) : RdInts w (.slice (if c = j then a else a.map fun x => x.add j) (n - j) c') (l.drop j) := by
  obtain ⟨a', cap, e, hl, hc⟩ := h
  simp only [Value.slice.injEq] at e
  obtain ⟨rfl, rfl, rfl⟩ := e
  have e2 : (l.drop j).length = l.length - j := by simp
  refine ⟨_, c', by rw [e2], by omega, fun h0 => ?_⟩
  obtain ⟨b, off, rfl, hcell⟩ := hc (by omega)
  refine ⟨b, off + j, by rw [if_neg (by omega)]; simp [r_addr], fun i hi => ?_⟩
  rw [Nat.add_assoc, hcell (j + i) (by omega)]
  simp [List.getD_eq_getElem?_getD]

theorem bs26_2 (a a' : Option Addr) (n c n' c' : Nat) (w : World) (K : Value → World → Prop) : bsW Try.prog 26 2 [(0, .slice a n c), (1, .slice a' n' c')] w K = K (.slice (some ⟨w.heap.size, 0, none⟩) 2 2) (w.alloc (.cells #[.slice a n c, .slice a' n' c'] 36)) := by kernel_rfl

theorem rd_two {w w' : World} {a a' : Option Addr} {n c n' c' : Nat} {l l' : List Int} (h : RdInts w (.slice a n c) l) (h' : RdInts w (.slice a' n' c') l') (e : w' = w.alloc (.cells #[.slice a n c, .slice a' n' c'] 36)) :
    RdRows w' (.slice (some ⟨w.heap.size, 0, none⟩) 2 2) [l, l'] := by
  have hk : Kp w w' := by subst e; exact below_alloc _
  have hb : w'.heap[w.heap.size]? = some (.cells #[.slice a n c, .slice a' n' c'] 36 (0, 0)) := by subst e; exact heap_alloc_new _ _
  refine ⟨_, 2, fun i => if i = 0 then .slice a n c else .slice a' n' c', rfl, by simp, fun _ => ⟨_, 0, rfl, fun i hi => ?_⟩, fun i hi => ?_⟩
  · rw [cell_row hb]
    match i, hi with
    | 0, _ => rfl
    | 1, _ => rfl
  · match i, hi with
    | 0, _ => exact h.below hk
    | 1, _ => exact h'.below hk

end Go.Proofs.Ytaephdjmpmbfpaa

/- Contracts: determinant, Paths. -/
namespace Go.Proofs.Ytaephdjmpmbfpaa
open Go.Lf Go.RowKit Go.Hp

theorem row_two (r : List Int) (j : Nat) : [r.take j, r.drop (j + 1)].flatten = r.take j ++ r.drop (j + 1) := by simp

theorem minor_take {n j i : Nat} {m : List (List Int)} (hs : Sized (n + 1) (n + 1) m) (hi : i < n) : (minorM j m).take (i + 1) = (minorM j m).take i ++ [(m.getD (i + 1) []).take j ++ (m.getD (i + 1) []).drop (j + 1)] := by
  have hl : (minorM j m).length = n := by simp [minorM, hs.1]
  rw [List.take_succ_eq_append_getElem (by omega), ← getD_lt _ _ [] (by omega), minor_row hs hi]

set_option maxRecDepth 100000 in
theorem det_calls : ∀ (n : Nat) (m : List (List Int)) (v : Value) (base : Nat) (w : World), n ≤ 4 → Sized n n m → Small m → IntRows base w v m →
    Calls Try.prog 61 #[v] w fun e w' => e = .returned (.int .i64 (detM n m)) ∧ Kp w w' := by
  intro n
  induction n with
  | zero =>
    intro m v base w hn hs hsm hr
    refine lift61 ?_
    unfold S61
    obtain ⟨a, cap, rfl, _⟩ := hr.len
    have h0 := hs.1
    simp (disch := omega) only [r_ln, r_pick, r_pickT, r_pickF, r_condT, r_condF, r_gdTT, r_gdFF, r_gdTF, r_gdFT, r_gqTT, r_gqFF, r_gqTF, r_gqFT, r_not, r_lss, r_leq, r_gtr, r_geq, r_eql, r_neq, r_add, r_sub, r_min2, r_max2, r_min3, r_max3, r_fa, r_iaS, r_iaA, r_ex2a, r_ex2b, r_ex3a, r_ex3b, r_ex3c, r_nc, r_keepE, Nat.zero_add, Nat.add_zero, Nat.mul_one, Int.toNat_natCast, toNat_sub1, toNat_add1, decide_true, decide_false, Bool.not_true, Bool.not_false, if_true, if_false, Bool.false_eq_true, reduceCtorEq, h0]
    exact ⟨rfl, Kp.refl _⟩
  | succ n ih =>
    intro m v base w hn hs hsm hr
    refine lift61 ?_
    unfold S61
    have hl := hs.1
    obtain ⟨g, cap, r0, rfl, hcap, hc0, ho0⟩ := hr.at (i := 0) (by omega)
    obtain ⟨a0, cap0, rfl, hcap0, hrd0⟩ := ho0.form
    have hl0 := hs.2 0 (by omega)
    have hne : ¬ ((m.length : Int) = 0) := by omega
    have e00 : 0 + 0 * 1 = 0 := rfl
    simp (disch := omega) only [r_ln, r_pick, r_pickT, r_pickF, r_condT, r_condF, r_gdTT, r_gdFF, r_gdTF, r_gdFT, r_gqTT, r_gqFF, r_gqTF, r_gqFT, r_not, r_lss, r_leq, r_gtr, r_geq, r_eql, r_neq, r_add, r_sub, r_min2, r_max2, r_min3, r_max3, r_fa, r_iaS, r_iaA, r_ex2a, r_ex2b, r_ex3a, r_ex3b, r_ex3c, r_nc, r_keepE, Nat.zero_add, Nat.add_zero, Nat.mul_one, Int.toNat_natCast, toNat_sub1, toNat_add1, decide_true, decide_false, Bool.not_true, Bool.not_false, if_true, if_false, Bool.false_eq_true, reduceCtorEq, hne, Int.toNat_zero, Nat.zero_mul, r_ld hc0]
    refine ⟨fun t3 t4 t17 wr => ∃ j : Nat, j ≤ n + 1 ∧ t17 = .int .i64 j ∧ t3 = .int .i64 (sumTo (fun j => sg j * hat m 0 j * detM n (minorM j m)) j) ∧ t4 = .int .i64 (sg j) ∧ Kp w wr, fun _ _ t17 _ => n + 1 - (intOf t17).toNat, ⟨0, by omega, rfl, rfl, rfl, Kp.refl _⟩, ?_⟩
    rintro _ _ _ _ wr ⟨j, hj, rfl, rfl, rfl, hk⟩
    rw [hl0]
    by_cases hlt : j < n + 1
    case neg =>
      have hlt' : ¬ (j : Int) < ((n + 1 : Nat) : Int) := by omega
      have e : j = n + 1 := by omega
      subst e
      simp (disch := omega) only [r_ln, r_pick, r_pickT, r_pickF, r_condT, r_condF, r_gdTT, r_gdFF, r_gdTF, r_gdFT, r_gqTT, r_gqFF, r_gqTF, r_gqFT, r_not, r_lss, r_leq, r_gtr, r_geq, r_eql, r_neq, r_add, r_sub, r_min2, r_max2, r_min3, r_max3, r_fa, r_iaS, r_iaA, r_ex2a, r_ex2b, r_ex3a, r_ex3b, r_ex3c, r_nc, r_keepE, Nat.zero_add, Nat.add_zero, Nat.mul_one, Int.toNat_natCast, toNat_sub1, toNat_add1, decide_true, decide_false, Bool.not_true, Bool.not_false, if_true, if_false, Bool.false_eq_true, reduceCtorEq, hlt']
      exact ⟨rfl, hk⟩
    have hlt' : (j : Int) < ((n + 1 : Nat) : Int) := by omega
    obtain ⟨b, off, _, e1, hcj⟩ := hrd0.at (j := j) (by omega)
    cases e1
    have hcj' := cell_later hk hcj
    have hrest : 1 < cap ∨ n = 0 := by omega
    simp (disch := omega) only [r_ln, r_pick, r_pickT, r_pickF, r_condT, r_condF, r_gdTT, r_gdFF, r_gdTF, r_gdFT, r_gqTT, r_gqFF, r_gqTF, r_gqFT, r_not, r_lss, r_leq, r_gtr, r_geq, r_eql, r_neq, r_add, r_sub, r_min2, r_max2, r_min3, r_max3, r_fa, r_iaS, r_iaA, r_ex2a, r_ex2b, r_ex3a, r_ex3b, r_ex3c, r_nc, r_keepE, Nat.zero_add, Nat.add_zero, Nat.mul_one, Int.toNat_natCast, toNat_sub1, toNat_add1, decide_true, decide_false, Bool.not_true, Bool.not_false, if_true, if_false, Bool.false_eq_true, reduceCtorEq, hlt', r_ld hcj', r_slFrom]
    have e1 : (1 : Int).toNat = 1 := rfl
    have e2 : m.length - 1 = n := by omega
    simp only [e1, e2]
    refine ⟨fun t7 t25 w2 => ∃ i : Nat, i ≤ n ∧ t25 = .int .i64 i ∧ Kp wr w2 ∧ IntRows wr.heap.size w2 t7 ((minorM j m).take i), fun _ t25 _ => n - (intOf t25).toNat, ⟨0, by omega, rfl, Kp.refl _, by rw [List.take_zero]; exact IntRows.nil _ _⟩, ?_⟩
    rintro _ t7 _ w2 ⟨i, hi, rfl, hk2, hir⟩
    have hkw2 := Kp.trans hk hk2
    have hml : (minorM j m).length = n := by simp [minorM, hl]
    by_cases hin : i < n
    case neg =>
      have hin' : ¬ (i : Int) < (n : Int) := by omega
      have e : i = n := by omega
      subst e
      rw [List.take_of_length_le (by omega)] at hir
      obtain ⟨d1, d2, d3, d4⟩ := det_step (n := i) (by omega) hs hsm hlt
      have hsg := sg_small j
      have hat0 : (m.getD 0 []).getD j 0 = hat m 0 j := rfl
      simp (disch := omega) only [r_ln, r_pick, r_pickT, r_pickF, r_condT, r_condF, r_gdTT, r_gdFF, r_gdTF, r_gdFT, r_gqTT, r_gqFF, r_gqTF, r_gqFT, r_not, r_lss, r_leq, r_gtr, r_geq, r_eql, r_neq, r_add, r_sub, r_min2, r_max2, r_min3, r_max3, r_fa, r_iaS, r_iaA, r_ex2a, r_ex2b, r_ex3a, r_ex3b, r_ex3c, r_nc, r_keepE, Nat.zero_add, Nat.add_zero, Nat.mul_one, Int.toNat_natCast, toNat_sub1, toNat_add1, decide_true, decide_false, Bool.not_true, Bool.not_false, if_true, if_false, Bool.false_eq_true, reduceCtorEq, hin', hat0, r_mul]
      refine r_use fok61 (ih (minorM j m) t7 _ w2 (by omega) (minor_sized hs hlt) (minor_small hs hsm) hir) rfl ?_
      rintro _ w3 ⟨rfl, hk3⟩
      refine ⟨_, rfl, ?_⟩
      simp (disch := omega) only [r_ln, r_pick, r_pickT, r_pickF, r_condT, r_condF, r_gdTT, r_gdFF, r_gdTF, r_gdFT, r_gqTT, r_gqFF, r_gqTF, r_gqFT, r_not, r_lss, r_leq, r_gtr, r_geq, r_eql, r_neq, r_add, r_sub, r_min2, r_max2, r_min3, r_max3, r_fa, r_iaS, r_iaA, r_ex2a, r_ex2b, r_ex3a, r_ex3b, r_ex3c, r_nc, r_keepE, Nat.zero_add, Nat.add_zero, Nat.mul_one, Int.toNat_natCast, toNat_sub1, toNat_add1, decide_true, decide_false, Bool.not_true, Bool.not_false, if_true, if_false, Bool.false_eq_true, reduceCtorEq, r_mul, r_neg]
      refine ⟨⟨j + 1, by omega, by go_num, rfl, by rw [sg_succ], Kp.trans hkw2 hk3⟩, by simp only [intOf]; omega⟩
    have hin' : (i : Int) < (n : Int) := by omega
    have hcap1 : ¬ cap = 1 := by omega
    obtain ⟨_, _, ri, e5, _, hci, hoi⟩ := hr.at (i := i + 1) (by omega)
    cases e5
    have hci2 := cell_later hkw2 hci
    obtain ⟨ai, capi, rfl, hcapi, hrdi⟩ := (hoi.kp hkw2).form
    have hli := hs.2 (i + 1) (by omega)
    have e6 : (1 * 1 + i * 1) = i + 1 := by omega
    simp (disch := omega) only [r_ln, r_pick, r_pickT, r_pickF, r_condT, r_condF, r_gdTT, r_gdFF, r_gdTF, r_gdFT, r_gqTT, r_gqFF, r_gqTF, r_gqFT, r_not, r_lss, r_leq, r_gtr, r_geq, r_eql, r_neq, r_add, r_sub, r_min2, r_max2, r_min3, r_max3, r_fa, r_iaS, r_iaA, r_ex2a, r_ex2b, r_ex3a, r_ex3b, r_ex3c, r_nc, r_keepE, Nat.zero_add, Nat.add_zero, Nat.mul_one, Int.toNat_natCast, toNat_sub1, toNat_add1, decide_true, decide_false, Bool.not_true, Bool.not_false, if_true, if_false, Bool.false_eq_true, reduceCtorEq, hin', hcap1, Option.map_some, r_addr, e6, r_ld hci2]
    have e7 : 1 + i = i + 1 := by omega
    rw [e7]
    simp (disch := omega) only [r_ln, r_pick, r_pickT, r_pickF, r_condT, r_condF, r_gdTT, r_gdFF, r_gdTF, r_gdFT, r_gqTT, r_gqFF, r_gqTF, r_gqFT, r_not, r_lss, r_leq, r_gtr, r_geq, r_eql, r_neq, r_add, r_sub, r_min2, r_max2, r_min3, r_max3, r_fa, r_iaS, r_iaA, r_ex2a, r_ex2b, r_ex3a, r_ex3b, r_ex3c, r_nc, r_keepE, Nat.zero_add, Nat.add_zero, Nat.mul_one, Int.toNat_natCast, toNat_sub1, toNat_add1, decide_true, decide_false, Bool.not_true, Bool.not_false, if_true, if_false, Bool.false_eq_true, reduceCtorEq, r_ld hci2]
    refine r_drew fun w3 hk3 _ => ?_
    have hrd3 := hrdi.below hk3
    simp (disch := omega) only [r_ln, r_pick, r_pickT, r_pickF, r_condT, r_condF, r_gdTT, r_gdFF, r_gdTF, r_gdFT, r_gqTT, r_gqFF, r_gqTF, r_gqFT, r_not, r_lss, r_leq, r_gtr, r_geq, r_eql, r_neq, r_add, r_sub, r_min2, r_max2, r_min3, r_max3, r_fa, r_iaS, r_iaA, r_ex2a, r_ex2b, r_ex3a, r_ex3b, r_ex3c, r_nc, r_keepE, Nat.zero_add, Nat.add_zero, Nat.mul_one, Int.toNat_natCast, toNat_sub1, toNat_add1, decide_true, decide_false, Bool.not_true, Bool.not_false, if_true, if_false, Bool.false_eq_true, reduceCtorEq, r_slTo, r_slFrom]
    have e8 : ((j : Int) + 1).toNat = j + 1 := by omega
    rw [bs26_2]
    refine ⟨below_alloc _, ?_⟩
    have hrr := rd_two (rd_to (c' := capi) (j := j) hrd3 (by omega)) (rd_from (c' := capi - (j + 1)) (j := j + 1) hrd3 (by omega) (by omega)) rfl
    refine r_use fok85 (concat_calls _ _ _ hrr ?_ ?_) rfl ?_
    · rw [row_two]; simp only [List.length_append, List.length_take, List.length_drop]; omega
    · rw [row_two]; simp only [List.length_append, List.length_take, List.length_drop]; omega
    rintro _ w4 ⟨v4, rfl, hk4, ho4⟩
    refine ⟨_, rfl, hk4, ?_⟩
    have hk24 := Kp.trans (Kp.trans hk3 (below_alloc _)) hk4
    rw [row_two] at ho4
    refine r_pushRowK (hir.kp hk24) ⟨⟨_, ho4⟩, by simp only [List.length_append, List.length_take, List.length_drop]; omega⟩ (by rw [List.length_take]; omega) (by have := hk2.size; have := hk24.size; omega) (Kp.trans hk2 hk24) (Nat.le_refl _) fun v5 w5 hir5 hk5 => ?_
    refine ⟨⟨i + 1, by omega, by go_num, hk5, by rw [minor_take hs hin]; exact hir5⟩, by simp only [intOf]; omega⟩

set_option maxRecDepth 100000 in
theorem refdet_calls : ∀ (n : Nat) (m : List (List Int)) (v : Value) (base : Nat) (w : World), n ≤ 4 → Sized n n m → Small m → IntRows base w v m →
    Calls Try.prog 64 #[v] w fun e w' => e = .returned (.int .i64 (detM n m)) ∧ Kp w w' := by
  intro n
  induction n with
  | zero =>
    intro m v base w hn hs hsm hr
    refine lift64 ?_
    unfold S64
    obtain ⟨a, cap, rfl, _⟩ := hr.len
    have h0 := hs.1
    simp (disch := omega) only [r_ln, r_pick, r_pickT, r_pickF, r_condT, r_condF, r_gdTT, r_gdFF, r_gdTF, r_gdFT, r_gqTT, r_gqFF, r_gqTF, r_gqFT, r_not, r_lss, r_leq, r_gtr, r_geq, r_eql, r_neq, r_add, r_sub, r_min2, r_max2, r_min3, r_max3, r_fa, r_iaS, r_iaA, r_ex2a, r_ex2b, r_ex3a, r_ex3b, r_ex3c, r_nc, r_keepE, Nat.zero_add, Nat.add_zero, Nat.mul_one, Int.toNat_natCast, toNat_sub1, toNat_add1, decide_true, decide_false, Bool.not_true, Bool.not_false, if_true, if_false, Bool.false_eq_true, reduceCtorEq, h0]
    exact ⟨rfl, Kp.refl _⟩
  | succ n ih =>
    intro m v base w hn hs hsm hr
    refine lift64 ?_
    unfold S64
    have hl := hs.1
    obtain ⟨g, cap, r0, rfl, hcap, hc0, ho0⟩ := hr.at (i := 0) (by omega)
    obtain ⟨a0, cap0, rfl, hcap0, hrd0⟩ := ho0.form
    have hl0 := hs.2 0 (by omega)
    have hne : ¬ ((m.length : Int) = 0) := by omega
    simp (disch := omega) only [r_ln, r_pick, r_pickT, r_pickF, r_condT, r_condF, r_gdTT, r_gdFF, r_gdTF, r_gdFT, r_gqTT, r_gqFF, r_gqTF, r_gqFT, r_not, r_lss, r_leq, r_gtr, r_geq, r_eql, r_neq, r_add, r_sub, r_min2, r_max2, r_min3, r_max3, r_fa, r_iaS, r_iaA, r_ex2a, r_ex2b, r_ex3a, r_ex3b, r_ex3c, r_nc, r_keepE, Nat.zero_add, Nat.add_zero, Nat.mul_one, Int.toNat_natCast, toNat_sub1, toNat_add1, decide_true, decide_false, Bool.not_true, Bool.not_false, if_true, if_false, Bool.false_eq_true, reduceCtorEq, hne]
    refine ⟨fun t3 t4 t17 wr => ∃ j : Nat, j ≤ n + 1 ∧ t17 = .int .i64 j ∧ t3 = .int .i64 (sumTo (fun j => sg j * hat m 0 j * detM n (minorM j m)) j) ∧ t4 = .int .i64 (sg j) ∧ Kp w wr, fun _ _ t17 _ => n + 1 - (intOf t17).toNat, ⟨0, by omega, rfl, rfl, rfl, Kp.refl _⟩, ?_⟩
    rintro _ _ _ _ wr ⟨j, hj, rfl, rfl, rfl, hk⟩
    rw [hl]
    by_cases hlt : j < n + 1
    case neg =>
      have hlt' : ¬ (j : Int) < ((n + 1 : Nat) : Int) := by omega
      have e : j = n + 1 := by omega
      subst e
      simp (disch := omega) only [r_ln, r_pick, r_pickT, r_pickF, r_condT, r_condF, r_gdTT, r_gdFF, r_gdTF, r_gdFT, r_gqTT, r_gqFF, r_gqTF, r_gqFT, r_not, r_lss, r_leq, r_gtr, r_geq, r_eql, r_neq, r_add, r_sub, r_min2, r_max2, r_min3, r_max3, r_fa, r_iaS, r_iaA, r_ex2a, r_ex2b, r_ex3a, r_ex3b, r_ex3c, r_nc, r_keepE, Nat.zero_add, Nat.add_zero, Nat.mul_one, Int.toNat_natCast, toNat_sub1, toNat_add1, decide_true, decide_false, Bool.not_true, Bool.not_false, if_true, if_false, Bool.false_eq_true, reduceCtorEq, hlt']
      exact ⟨rfl, hk⟩
    have hlt' : (j : Int) < ((n + 1 : Nat) : Int) := by omega
    obtain ⟨b, off, _, e1, hcj⟩ := hrd0.at (j := j) (by omega)
    cases e1
    simp (disch := omega) only [r_ln, r_pick, r_pickT, r_pickF, r_condT, r_condF, r_gdTT, r_gdFF, r_gdTF, r_gdFT, r_gqTT, r_gqFF, r_gqTF, r_gqFT, r_not, r_lss, r_leq, r_gtr, r_geq, r_eql, r_neq, r_add, r_sub, r_min2, r_max2, r_min3, r_max3, r_fa, r_iaS, r_iaA, r_ex2a, r_ex2b, r_ex3a, r_ex3b, r_ex3c, r_nc, r_keepE, Nat.zero_add, Nat.add_zero, Nat.mul_one, Int.toNat_natCast, toNat_sub1, toNat_add1, decide_true, decide_false, Bool.not_true, Bool.not_false, if_true, if_false, Bool.false_eq_true, reduceCtorEq, hlt']
    refine ⟨fun t7 t25 w2 => ∃ i : Nat, i ≤ n ∧ t25 = .int .i64 (i + 1 : Nat) ∧ Kp wr w2 ∧ IntRows wr.heap.size w2 t7 ((minorM j m).take i), fun _ t25 _ => n + 1 - (intOf t25).toNat, ⟨0, by omega, rfl, Kp.refl _, by rw [List.take_zero]; exact IntRows.nil _ _⟩, ?_⟩
    rintro _ t7 _ w2 ⟨i, hi, rfl, hk2, hir⟩
    have hkw2 := Kp.trans hk hk2
    have hml : (minorM j m).length = n := by simp [minorM, hl]
    by_cases hin : i < n
    case neg =>
      have e : i = n := by omega
      subst e
      have hin' : ¬ ((i + 1 : Nat) : Int) < ((i + 1 : Nat) : Int) := by omega
      rw [List.take_of_length_le (by omega)] at hir
      obtain ⟨d1, d2, d3, d4⟩ := det_step (n := i) (by omega) hs hsm hlt
      have hsg := sg_small j
      have hat0 : (m.getD 0 []).getD j 0 = hat m 0 j := rfl
      simp (disch := omega) only [r_ln, r_pick, r_pickT, r_pickF, r_condT, r_condF, r_gdTT, r_gdFF, r_gdTF, r_gdFT, r_gqTT, r_gqFF, r_gqTF, r_gqFT, r_not, r_lss, r_leq, r_gtr, r_geq, r_eql, r_neq, r_add, r_sub, r_min2, r_max2, r_min3, r_max3, r_fa, r_iaS, r_iaA, r_ex2a, r_ex2b, r_ex3a, r_ex3b, r_ex3c, r_nc, r_keepE, Nat.zero_add, Nat.add_zero, Nat.mul_one, Int.toNat_natCast, toNat_sub1, toNat_add1, decide_true, decide_false, Bool.not_true, Bool.not_false, if_true, if_false, Bool.false_eq_true, reduceCtorEq, hin']
      refine r_drew fun w3 hk3 _ => ?_
      have hkw3 := Kp.trans hkw2 hk3
      have hc03 := cell_later hkw3 hc0
      have hcj3 := cell_later hkw3 hcj
      simp (disch := omega) only [r_ln, r_pick, r_pickT, r_pickF, r_condT, r_condF, r_gdTT, r_gdFF, r_gdTF, r_gdFT, r_gqTT, r_gqFF, r_gqTF, r_gqFT, r_not, r_lss, r_leq, r_gtr, r_geq, r_eql, r_neq, r_add, r_sub, r_min2, r_max2, r_min3, r_max3, r_fa, r_iaS, r_iaA, r_ex2a, r_ex2b, r_ex3a, r_ex3b, r_ex3c, r_nc, r_keepE, Nat.zero_add, Nat.add_zero, Nat.mul_one, Int.toNat_natCast, toNat_sub1, toNat_add1, decide_true, decide_false, Bool.not_true, Bool.not_false, if_true, if_false, Bool.false_eq_true, reduceCtorEq, Int.toNat_zero, Nat.zero_mul, r_ld hc03, hl, r_ld hcj3, hat0, r_mul]
      refine r_use fok64 (ih (minorM j m) t7 _ w3 (by omega) (minor_sized hs hlt) (minor_small hs hsm) (hir.kp hk3)) rfl ?_
      rintro _ w4 ⟨rfl, hk4⟩
      refine ⟨_, rfl, hk4, ?_⟩
      simp (disch := omega) only [r_ln, r_pick, r_pickT, r_pickF, r_condT, r_condF, r_gdTT, r_gdFF, r_gdTF, r_gdFT, r_gqTT, r_gqFF, r_gqTF, r_gqFT, r_not, r_lss, r_leq, r_gtr, r_geq, r_eql, r_neq, r_add, r_sub, r_min2, r_max2, r_min3, r_max3, r_fa, r_iaS, r_iaA, r_ex2a, r_ex2b, r_ex3a, r_ex3b, r_ex3c, r_nc, r_keepE, Nat.zero_add, Nat.add_zero, Nat.mul_one, Int.toNat_natCast, toNat_sub1, toNat_add1, decide_true, decide_false, Bool.not_true, Bool.not_false, if_true, if_false, Bool.false_eq_true, reduceCtorEq, r_mul, r_neg]
      refine ⟨⟨j + 1, by omega, by go_num, rfl, by rw [sg_succ], Kp.trans hkw3 hk4⟩, by simp only [intOf]; omega⟩
    have hin' : ((i + 1 : Nat) : Int) < ((n + 1 : Nat) : Int) := by omega
    obtain ⟨_, _, ri, e5, _, hci, hoi⟩ := hr.at (i := i + 1) (by omega)
    cases e5
    have hci2 := cell_later hkw2 hci
    obtain ⟨ai, capi, rfl, hcapi, hrdi⟩ := (hoi.kp hkw2).form
    have hli := hs.2 (i + 1) (by omega)
    simp (disch := omega) only [r_ln, r_pick, r_pickT, r_pickF, r_condT, r_condF, r_gdTT, r_gdFF, r_gdTF, r_gdFT, r_gqTT, r_gqFF, r_gqTF, r_gqFT, r_not, r_lss, r_leq, r_gtr, r_geq, r_eql, r_neq, r_add, r_sub, r_min2, r_max2, r_min3, r_max3, r_fa, r_iaS, r_iaA, r_ex2a, r_ex2b, r_ex3a, r_ex3b, r_ex3c, r_nc, r_keepE, Nat.zero_add, Nat.add_zero, Nat.mul_one, Int.toNat_natCast, toNat_sub1, toNat_add1, decide_true, decide_false, Bool.not_true, Bool.not_false, if_true, if_false, Bool.false_eq_true, reduceCtorEq, hin', r_ld hci2, r_slTo]
    have h1 := rd_to (c' := capi) (j := j) hrdi (by omega)
    refine r_apInts (base := w2.heap.size) (xs := []) (n := 0) (by simpa [intCells] using World.ownsRow_nil w2 w2.heap.size 3 1) h1 (by simp; omega) (Nat.le_refl _) fun v4 w4 ho4 hg4 => ?_
    have hk4 : Kp w2 w4 := Below.grown (Kp.refl _) hg4 (Nat.le_refl _) fun k hk' => by simp [Value.ownBlock] at hk'
    have hci4 := cell_later hk4 hci2
    simp (disch := omega) only [r_ln, r_pick, r_pickT, r_pickF, r_condT, r_condF, r_gdTT, r_gdFF, r_gdTF, r_gdFT, r_gqTT, r_gqFF, r_gqTF, r_gqFT, r_not, r_lss, r_leq, r_gtr, r_geq, r_eql, r_neq, r_add, r_sub, r_min2, r_max2, r_min3, r_max3, r_fa, r_iaS, r_iaA, r_ex2a, r_ex2b, r_ex3a, r_ex3b, r_ex3c, r_nc, r_keepE, Nat.zero_add, Nat.add_zero, Nat.mul_one, Int.toNat_natCast, toNat_sub1, toNat_add1, decide_true, decide_false, Bool.not_true, Bool.not_false, if_true, if_false, Bool.false_eq_true, reduceCtorEq, r_ld hci4, r_slFrom]
    have h2 := rd_from (c' := capi - (j + 1)) (j := j + 1) (hrdi.below hk4) (by omega) (by omega)
    refine r_apInts ho4 h2 (by simp only [List.length_drop, List.length_append, List.length_take, List.length_nil]; omega) hk4.size fun v5 w5 ho5 hg5 => ?_
    have hk5 : Kp w2 w5 := Below.grown hk4 hg5 hk4.size fun k hk' => (ho4.lt k hk').1
    refine r_pushRow (row := (m.getD (i + 1) []).take j ++ (m.getD (i + 1) []).drop (j + 1)) (hir.kp hk5) ⟨⟨w2.heap.size, ?_⟩, by simp only [List.length_append, List.length_take, List.length_drop]; omega⟩ (by rw [List.length_take]; omega) (by have := hk2.size; have := hk5.size; omega) (Kp.trans hk2 hk5) (Nat.le_refl _) fun v6 w6 hir6 hk6 => ?_
    · simpa using ho5
    refine ⟨⟨i + 1, by omega, by go_num, hk6, by rw [minor_take hs hin]; exact hir6⟩, by simp only [intOf]; omega⟩

theorem pathsM_take {A B C i : Nat} (hi : i < A) : (pathsM A B C).take (i + 1) = (pathsM A B C).take i ++ [(pathsM A B C).getD i []] := by
  have hl : (pathsM A B C).length = A := by simp [pathsM]
  rw [List.take_succ_eq_append_getElem (by omega), ← getD_lt _ _ [] (by omega)]

theorem pathsM_rowTake {A B C i j : Nat} (hi : i < A) (hj : j < A) : ((pathsM A B C).getD i []).take (j + 1) = ((pathsM A B C).getD i []).take j ++ [chZ (B + C) ((B : Int) - (i : Nat) + (j : Nat))] := by
  rw [pathsM_row hi, List.take_succ_eq_append_getElem (by simp; omega)]
  simp

/-- What Paths hands back. -/
def pathsN (A B C : Int) : Int := if validB A B C = true then detM A.toNat (pathsM A.toNat B.toNat C.toNat) else 0
def boxErr (A B C : Int) : Int := if validB A B C = true then 0 else 2

theorem validB_nat {A B C : Int} (h : validB A B C = true) : ∃ a b c : Nat, A = a ∧ B = b ∧ C = c ∧ 1 ≤ a ∧ a ≤ 4 ∧ 1 ≤ b ∧ b ≤ 4 ∧ 1 ≤ c ∧ c ≤ 4 := by
  simp only [validB, decide_eq_true_eq] at h
  exact ⟨A.toNat, B.toNat, C.toNat, by omega⟩

set_option maxRecDepth 100000 in
theorem paths_calls (A B C : Int) (w : World) : Calls Try.prog 25 #[boxV A B C] w fun e w' => e = .returned (.tuple #[.int .i64 (pathsN A B C), .int .i64 (boxErr A B C)]) ∧ Kp w w' := by
  refine lift25 ?_
  unfold S25
  refine r_box fun b w1 hbw hsz hb hk => ?_
  simp (disch := omega) only [r_ln, r_pick, r_pickT, r_pickF, r_condT, r_condF, r_gdTT, r_gdFF, r_gdTF, r_gdFT, r_gqTT, r_gqFF, r_gqTF, r_gqFT, r_not, r_lss, r_leq, r_gtr, r_geq, r_eql, r_neq, r_add, r_sub, r_min2, r_max2, r_min3, r_max3, r_fa, r_iaS, r_iaA, r_ex2a, r_ex2b, r_ex3a, r_ex3b, r_ex3c, r_nc, r_keepE, Nat.zero_add, Nat.add_zero, Nat.mul_one, Int.toNat_natCast, toNat_sub1, toNat_add1, decide_true, decide_false, Bool.not_true, Bool.not_false, if_true, if_false, Bool.false_eq_true, reduceCtorEq, r_ldRow (n := 3) hb rfl]
  refine r_use fok58 (valid_calls A B C w1) rfl ?_
  rintro e w2 ⟨rfl, hk2⟩
  refine ⟨_, rfl, ?_⟩
  have hkw2 := Kp.trans hk hk2
  have hb2 := block_below hb hk2
  by_cases hv : validB A B C = true
  case neg =>
    have hv' : validB A B C = false := by simpa using hv
    simp (disch := omega) only [r_ln, r_pick, r_pickT, r_pickF, r_condT, r_condF, r_gdTT, r_gdFF, r_gdTF, r_gdFT, r_gqTT, r_gqFF, r_gqTF, r_gqFT, r_not, r_lss, r_leq, r_gtr, r_geq, r_eql, r_neq, r_add, r_sub, r_min2, r_max2, r_min3, r_max3, r_fa, r_iaS, r_iaA, r_ex2a, r_ex2b, r_ex3a, r_ex3b, r_ex3c, r_nc, r_keepE, Nat.zero_add, Nat.add_zero, Nat.mul_one, Int.toNat_natCast, toNat_sub1, toNat_add1, decide_true, decide_false, Bool.not_true, Bool.not_false, if_true, if_false, Bool.false_eq_true, reduceCtorEq, hv']
    exact ⟨by simp [pathsN, boxErr, hv'], hkw2⟩
  obtain ⟨a, b', c, rfl, rfl, rfl, h1, h2, h3, h4, h5, h6⟩ := validB_nat hv
  obtain ⟨c0, c1, c2⟩ := box3 hb2
  simp (disch := omega) only [r_ln, r_pick, r_pickT, r_pickF, r_condT, r_condF, r_gdTT, r_gdFF, r_gdTF, r_gdFT, r_gqTT, r_gqFF, r_gqTF, r_gqFT, r_not, r_lss, r_leq, r_gtr, r_geq, r_eql, r_neq, r_add, r_sub, r_min2, r_max2, r_min3, r_max3, r_fa, r_iaS, r_iaA, r_ex2a, r_ex2b, r_ex3a, r_ex3b, r_ex3c, r_nc, r_keepE, Nat.zero_add, Nat.add_zero, Nat.mul_one, Int.toNat_natCast, toNat_sub1, toNat_add1, decide_true, decide_false, Bool.not_true, Bool.not_false, if_true, if_false, Bool.false_eq_true, reduceCtorEq, hv, r_ld c0]
  have hpl : (pathsM a b' c).length = a := by simp [pathsM]
  refine ⟨fun t4 t13 wr => ∃ i : Nat, i ≤ a ∧ t13 = .int .i64 i ∧ Kp w2 wr ∧ IntRows w2.heap.size wr t4 ((pathsM a b' c).take i), fun _ t13 _ => a - (intOf t13).toNat, ⟨0, by omega, rfl, Kp.refl _, by rw [List.take_zero]; exact IntRows.nil _ _⟩, ?_⟩
  rintro _ t4 _ wr ⟨i, hi, rfl, hkr, hir⟩
  have hkwr := Kp.trans hkw2 hkr
  by_cases hlt : i < a
  case neg =>
    have hlt' : ¬ (i : Int) < (a : Int) := by omega
    have e : i = a := by omega
    subst e
    rw [List.take_of_length_le (by omega)] at hir
    simp (disch := omega) only [r_ln, r_pick, r_pickT, r_pickF, r_condT, r_condF, r_gdTT, r_gdFF, r_gdTF, r_gdFT, r_gqTT, r_gqFF, r_gqTF, r_gqFT, r_not, r_lss, r_leq, r_gtr, r_geq, r_eql, r_neq, r_add, r_sub, r_min2, r_max2, r_min3, r_max3, r_fa, r_iaS, r_iaA, r_ex2a, r_ex2b, r_ex3a, r_ex3b, r_ex3c, r_nc, r_keepE, Nat.zero_add, Nat.add_zero, Nat.mul_one, Int.toNat_natCast, toNat_sub1, toNat_add1, decide_true, decide_false, Bool.not_true, Bool.not_false, if_true, if_false, Bool.false_eq_true, reduceCtorEq, hlt']
    refine r_use fok61 (det_calls i _ t4 _ wr (by omega) (pathsM_sized _ _ _) (pathsM_small (by omega)) hir) rfl ?_
    rintro _ w3 ⟨rfl, hk3⟩
    refine ⟨_, rfl, ?_⟩
    exact ⟨by simp [pathsN, boxErr, hv], Kp.trans hkwr hk3⟩
  have hlt' : (i : Int) < (a : Int) := by omega
  have d0 := cell_later hkr c0
  simp (disch := omega) only [r_ln, r_pick, r_pickT, r_pickF, r_condT, r_condF, r_gdTT, r_gdFF, r_gdTF, r_gdFT, r_gqTT, r_gqFF, r_gqTF, r_gqFT, r_not, r_lss, r_leq, r_gtr, r_geq, r_eql, r_neq, r_add, r_sub, r_min2, r_max2, r_min3, r_max3, r_fa, r_iaS, r_iaA, r_ex2a, r_ex2b, r_ex3a, r_ex3b, r_ex3c, r_nc, r_keepE, Nat.zero_add, Nat.add_zero, Nat.mul_one, Int.toNat_natCast, toNat_sub1, toNat_add1, decide_true, decide_false, Bool.not_true, Bool.not_false, if_true, if_false, Bool.false_eq_true, reduceCtorEq, hlt', r_ld d0]
  have hrl : ((pathsM a b' c).getD i []).length = a := by rw [pathsM_row hlt]; simp
  refine ⟨fun t6 t18 w4 => ∃ j : Nat, j ≤ a ∧ t18 = .int .i64 j ∧ Kp wr w4 ∧ w4.ownsRow wr.heap.size 3 1 t6 (((pathsM a b' c).getD i []).take j).length (intCells (((pathsM a b' c).getD i []).take j)), fun _ t18 _ => a - (intOf t18).toNat, ⟨0, by omega, rfl, Kp.refl _, by simpa [intCells] using World.ownsRow_nil wr wr.heap.size 3 1⟩, ?_⟩
  rintro _ t6 _ w4 ⟨j, hj, rfl, hk4, ho4⟩
  by_cases hjt : j < a
  case neg =>
    have hjt' : ¬ (j : Int) < (a : Int) := by omega
    have e : j = a := by omega
    subst e
    rw [List.take_of_length_le (by omega)] at ho4
    simp (disch := omega) only [r_ln, r_pick, r_pickT, r_pickF, r_condT, r_condF, r_gdTT, r_gdFF, r_gdTF, r_gdFT, r_gqTT, r_gqFF, r_gqTF, r_gqFT, r_not, r_lss, r_leq, r_gtr, r_geq, r_eql, r_neq, r_add, r_sub, r_min2, r_max2, r_min3, r_max3, r_fa, r_iaS, r_iaA, r_ex2a, r_ex2b, r_ex3a, r_ex3b, r_ex3c, r_nc, r_keepE, Nat.zero_add, Nat.add_zero, Nat.mul_one, Int.toNat_natCast, toNat_sub1, toNat_add1, decide_true, decide_false, Bool.not_true, Bool.not_false, if_true, if_false, Bool.false_eq_true, reduceCtorEq, hjt']
    refine r_pushRow (hir.kp hk4) ⟨⟨_, ho4⟩, by omega⟩ (by rw [List.length_take]; omega) (by have := hkr.size; have := hk4.size; omega) (Kp.trans hkr hk4) (Nat.le_refl _) fun v5 w5 hir5 hk5 => ?_
    exact ⟨⟨i + 1, by omega, by go_num, hk5, by rw [pathsM_take hlt]; exact hir5⟩, by simp only [intOf]; omega⟩
  have hjt' : (j : Int) < (a : Int) := by omega
  have d1 := cell_later (Kp.trans hkr hk4) c1
  have d2 := cell_later (Kp.trans hkr hk4) c2
  simp (disch := omega) only [r_ln, r_pick, r_pickT, r_pickF, r_condT, r_condF, r_gdTT, r_gdFF, r_gdTF, r_gdFT, r_gqTT, r_gqFF, r_gqTF, r_gqFT, r_not, r_lss, r_leq, r_gtr, r_geq, r_eql, r_neq, r_add, r_sub, r_min2, r_max2, r_min3, r_max3, r_fa, r_iaS, r_iaA, r_ex2a, r_ex2b, r_ex3a, r_ex3b, r_ex3c, r_nc, r_keepE, Nat.zero_add, Nat.add_zero, Nat.mul_one, Int.toNat_natCast, toNat_sub1, toNat_add1, decide_true, decide_false, Bool.not_true, Bool.not_false, if_true, if_false, Bool.false_eq_true, reduceCtorEq, hjt', r_ld d1, r_ld d2]
  have en : (b' : Int) + (c : Int) = ((b' + c : Nat) : Int) := by omega
  rw [en]
  refine r_use fok60 (choose_calls (b' + c) _ w4 (by omega) (by omega)) rfl ?_
  rintro _ _ ⟨rfl, rfl⟩
  refine ⟨_, rfl, ?_⟩
  refine r_pushInt ho4 (by rw [List.length_take]; omega) hk4.size hk4 (Nat.le_refl _) fun v5 w5 ho5 hk5 => ?_
  exact ⟨⟨j + 1, by omega, by go_num, hk5, by rw [pathsM_rowTake hlt hjt]; exact ho5⟩, by simp only [intOf]; omega⟩

set_option maxRecDepth 100000 in
theorem refpaths_calls (A B C : Int) (w : World) : Calls Try.prog 26 #[boxV A B C] w fun e w' => e = .returned (.tuple #[.int .i64 (pathsN A B C), .int .i64 (boxErr A B C)]) ∧ Kp w w' := by
  refine lift26 ?_
  unfold S26
  refine r_box fun b w1 hbw hsz hb hk => ?_
  simp (disch := omega) only [r_ln, r_pick, r_pickT, r_pickF, r_condT, r_condF, r_gdTT, r_gdFF, r_gdTF, r_gdFT, r_gqTT, r_gqFF, r_gqTF, r_gqFT, r_not, r_lss, r_leq, r_gtr, r_geq, r_eql, r_neq, r_add, r_sub, r_min2, r_max2, r_min3, r_max3, r_fa, r_iaS, r_iaA, r_ex2a, r_ex2b, r_ex3a, r_ex3b, r_ex3c, r_nc, r_keepE, Nat.zero_add, Nat.add_zero, Nat.mul_one, Int.toNat_natCast, toNat_sub1, toNat_add1, decide_true, decide_false, Bool.not_true, Bool.not_false, if_true, if_false, Bool.false_eq_true, reduceCtorEq, r_ldRow (n := 3) hb rfl]
  refine r_use fok62 (good_calls A B C w1) rfl ?_
  rintro e w2 ⟨rfl, hk2⟩
  refine ⟨_, rfl, ?_⟩
  have hkw2 := Kp.trans hk hk2
  have hb2 := block_below hb hk2
  by_cases hv : validB A B C = true
  case neg =>
    have hv' : validB A B C = false := by simpa using hv
    simp (disch := omega) only [r_ln, r_pick, r_pickT, r_pickF, r_condT, r_condF, r_gdTT, r_gdFF, r_gdTF, r_gdFT, r_gqTT, r_gqFF, r_gqTF, r_gqFT, r_not, r_lss, r_leq, r_gtr, r_geq, r_eql, r_neq, r_add, r_sub, r_min2, r_max2, r_min3, r_max3, r_fa, r_iaS, r_iaA, r_ex2a, r_ex2b, r_ex3a, r_ex3b, r_ex3c, r_nc, r_keepE, Nat.zero_add, Nat.add_zero, Nat.mul_one, Int.toNat_natCast, toNat_sub1, toNat_add1, decide_true, decide_false, Bool.not_true, Bool.not_false, if_true, if_false, Bool.false_eq_true, reduceCtorEq, hv']
    exact ⟨by simp [pathsN, boxErr, hv'], hkw2⟩
  obtain ⟨a, b', c, rfl, rfl, rfl, h1, h2, h3, h4, h5, h6⟩ := validB_nat hv
  obtain ⟨c0, c1, c2⟩ := box3 hb2
  simp (disch := omega) only [r_ln, r_pick, r_pickT, r_pickF, r_condT, r_condF, r_gdTT, r_gdFF, r_gdTF, r_gdFT, r_gqTT, r_gqFF, r_gqTF, r_gqFT, r_not, r_lss, r_leq, r_gtr, r_geq, r_eql, r_neq, r_add, r_sub, r_min2, r_max2, r_min3, r_max3, r_fa, r_iaS, r_iaA, r_ex2a, r_ex2b, r_ex3a, r_ex3b, r_ex3c, r_nc, r_keepE, Nat.zero_add, Nat.add_zero, Nat.mul_one, Int.toNat_natCast, toNat_sub1, toNat_add1, decide_true, decide_false, Bool.not_true, Bool.not_false, if_true, if_false, Bool.false_eq_true, reduceCtorEq, hv]
  have hpl : (pathsM a b' c).length = a := by simp [pathsM]
  refine ⟨fun t4 t13 wr => ∃ i : Nat, i ≤ a ∧ t13 = .int .i64 i ∧ Kp w2 wr ∧ IntRows w2.heap.size wr t4 ((pathsM a b' c).take i), fun _ t13 _ => a - (intOf t13).toNat, ⟨0, by omega, rfl, Kp.refl _, by rw [List.take_zero]; exact IntRows.nil _ _⟩, ?_⟩
  rintro _ t4 _ wr ⟨i, hi, rfl, hkr, hir⟩
  have hkwr := Kp.trans hkw2 hkr
  have d0 := cell_later hkr c0
  by_cases hlt : i < a
  case neg =>
    have hlt' : ¬ (i : Int) < (a : Int) := by omega
    have e : i = a := by omega
    subst e
    rw [List.take_of_length_le (by omega)] at hir
    simp (disch := omega) only [r_ln, r_pick, r_pickT, r_pickF, r_condT, r_condF, r_gdTT, r_gdFF, r_gdTF, r_gdFT, r_gqTT, r_gqFF, r_gqTF, r_gqFT, r_not, r_lss, r_leq, r_gtr, r_geq, r_eql, r_neq, r_add, r_sub, r_min2, r_max2, r_min3, r_max3, r_fa, r_iaS, r_iaA, r_ex2a, r_ex2b, r_ex3a, r_ex3b, r_ex3c, r_nc, r_keepE, Nat.zero_add, Nat.add_zero, Nat.mul_one, Int.toNat_natCast, toNat_sub1, toNat_add1, decide_true, decide_false, Bool.not_true, Bool.not_false, if_true, if_false, Bool.false_eq_true, reduceCtorEq, hlt', r_ld d0]
    refine r_use fok64 (refdet_calls i _ t4 _ wr (by omega) (pathsM_sized _ _ _) (pathsM_small (by omega)) hir) rfl ?_
    rintro _ w3 ⟨rfl, hk3⟩
    refine ⟨_, rfl, ?_⟩
    exact ⟨by simp [pathsN, boxErr, hv], Kp.trans hkwr hk3⟩
  have hlt' : (i : Int) < (a : Int) := by omega
  simp (disch := omega) only [r_ln, r_pick, r_pickT, r_pickF, r_condT, r_condF, r_gdTT, r_gdFF, r_gdTF, r_gdFT, r_gqTT, r_gqFF, r_gqTF, r_gqFT, r_not, r_lss, r_leq, r_gtr, r_geq, r_eql, r_neq, r_add, r_sub, r_min2, r_max2, r_min3, r_max3, r_fa, r_iaS, r_iaA, r_ex2a, r_ex2b, r_ex3a, r_ex3b, r_ex3c, r_nc, r_keepE, Nat.zero_add, Nat.add_zero, Nat.mul_one, Int.toNat_natCast, toNat_sub1, toNat_add1, decide_true, decide_false, Bool.not_true, Bool.not_false, if_true, if_false, Bool.false_eq_true, reduceCtorEq, hlt', r_ld d0]
  have hrl : ((pathsM a b' c).getD i []).length = a := by rw [pathsM_row hlt]; simp
  refine ⟨fun t6 t18 w4 => ∃ j : Nat, j ≤ a ∧ t18 = .int .i64 j ∧ Kp wr w4 ∧ w4.ownsRow wr.heap.size 3 1 t6 (((pathsM a b' c).getD i []).take j).length (intCells (((pathsM a b' c).getD i []).take j)), fun _ t18 _ => a - (intOf t18).toNat, ⟨0, by omega, rfl, Kp.refl _, by simpa [intCells] using World.ownsRow_nil wr wr.heap.size 3 1⟩, ?_⟩
  rintro _ t6 _ w4 ⟨j, hj, rfl, hk4, ho4⟩
  have f0 := cell_later hk4 d0
  by_cases hjt : j < a
  case neg =>
    have hjt' : ¬ (j : Int) < (a : Int) := by omega
    have e : j = a := by omega
    subst e
    rw [List.take_of_length_le (by omega)] at ho4
    simp (disch := omega) only [r_ln, r_pick, r_pickT, r_pickF, r_condT, r_condF, r_gdTT, r_gdFF, r_gdTF, r_gdFT, r_gqTT, r_gqFF, r_gqTF, r_gqFT, r_not, r_lss, r_leq, r_gtr, r_geq, r_eql, r_neq, r_add, r_sub, r_min2, r_max2, r_min3, r_max3, r_fa, r_iaS, r_iaA, r_ex2a, r_ex2b, r_ex3a, r_ex3b, r_ex3c, r_nc, r_keepE, Nat.zero_add, Nat.add_zero, Nat.mul_one, Int.toNat_natCast, toNat_sub1, toNat_add1, decide_true, decide_false, Bool.not_true, Bool.not_false, if_true, if_false, Bool.false_eq_true, reduceCtorEq, hjt', r_ld f0]
    refine r_pushRow (hir.kp hk4) ⟨⟨_, ho4⟩, by omega⟩ (by rw [List.length_take]; omega) (by have := hkr.size; have := hk4.size; omega) (Kp.trans hkr hk4) (Nat.le_refl _) fun v5 w5 hir5 hk5 => ?_
    exact ⟨⟨i + 1, by omega, by go_num, hk5, by rw [pathsM_take hlt]; exact hir5⟩, by simp only [intOf]; omega⟩
  have hjt' : (j : Int) < (a : Int) := by omega
  have d1 := cell_later (Kp.trans hkr hk4) c1
  have d2 := cell_later (Kp.trans hkr hk4) c2
  simp (disch := omega) only [r_ln, r_pick, r_pickT, r_pickF, r_condT, r_condF, r_gdTT, r_gdFF, r_gdTF, r_gdFT, r_gqTT, r_gqFF, r_gqTF, r_gqFT, r_not, r_lss, r_leq, r_gtr, r_geq, r_eql, r_neq, r_add, r_sub, r_min2, r_max2, r_min3, r_max3, r_fa, r_iaS, r_iaA, r_ex2a, r_ex2b, r_ex3a, r_ex3b, r_ex3c, r_nc, r_keepE, Nat.zero_add, Nat.add_zero, Nat.mul_one, Int.toNat_natCast, toNat_sub1, toNat_add1, decide_true, decide_false, Bool.not_true, Bool.not_false, if_true, if_false, Bool.false_eq_true, reduceCtorEq, hjt', r_ld d1, r_ld d2, r_ld f0]
  have en : (b' : Int) + (c : Int) = ((b' + c : Nat) : Int) := by omega
  rw [en]
  refine r_use fok63 (refchoose_calls (b' + c) _ w4 (by omega) (by omega)) rfl ?_
  rintro _ _ ⟨rfl, rfl⟩
  refine ⟨_, rfl, ?_⟩
  refine r_pushInt ho4 (by rw [List.length_take]; omega) hk4.size hk4 (Nat.le_refl _) fun v5 w5 ho5 hk5 => ?_
  exact ⟨⟨j + 1, by omega, by go_num, hk5, by rw [pathsM_rowTake hlt hjt]; exact ho5⟩, by simp only [intOf]; omega⟩

end Go.Proofs.Ytaephdjmpmbfpaa
