/- Lifted texts, printed by program (gen.py): what each function's code asks. The ties are by the kernel. -/
import Derived.Test.YtaephdjmpmbfpaaBase
set_option linter.all false
namespace Go.Proofs.Ytaephdjmpmbfpaa
open Go.Lf Go.RowKit

def S30 (t0 : Value) (w : World) (R : Ending → World → Prop) : Prop :=
  Loop1 (.int .i64 0) w fun _ t3 w next =>
    ln1 t0 fun t6 =>
    binQ Try.prog w .lss 3 false t3 t6 fun t7 =>
    condW t7 (
      binQ Try.prog w .geq 3 true t3 (.int .i64 10) fun t11 =>
      gd t11 false (fun k => k t0 w) w fun t13 w =>
      gd t11 false (fun k => k t3 w) w fun t14 w =>
      gd t11 false (fun k => iaS 1 t13 t14 fun v => k v w) w fun t15 w =>
      gd t11 false (fun k => ld1 w t15 fun v => k v w) w fun t16 w =>
      gd t11 false (fun k => ln1 t16 fun v => k v w) w fun t17 w =>
      gd t11 false (fun k => binQ Try.prog w .gtr 3 true t17 (.int .i64 10) fun v => k v w) w fun t18 w =>
      pickQ t11 (.bool true) t18 fun t19 =>
      condW t19 (
        R (.returned (.bool false)) w
      ) (
        binQ Try.prog w .add 3 true t3 (.int .i64 1) fun t9 =>
        next t9 w
      )
    ) (
      R (.returned (.bool true)) w
    )

def A30 : Ann where
  live := fun
    | 0 => [3]
    | _ => []
  wr := fun
    | 0 => fun i => (Nat.ble 2 i && Nat.ble i 19)
    | _ => fun _ => false
  sched := fun _ => .done

set_option maxRecDepth 100000 in
theorem ok30 : (codeOk Try.f30.ntmps A30 (Try.f30.body.getD .skip) 0 && Nat.ble 1 Try.f30.ntmps) = true := by kernel_rfl
set_option maxRecDepth 100000 in
theorem lift30 {t0 : Value} {w : World} {R : Ending → World → Prop} (h : S30 t0 w R) : Calls Try.prog 30 #[t0] w R :=
  calls_of_cw (fn := Try.f30) (c := Try.f30.body.getD .skip) A30 mixes Try.func30 (by kernel_rfl) ok30
    ((by kernel_rfl : (S30 t0 w R) = cw Try.prog A30 (Try.f30.body.getD .skip) 0 (bodyQ Try.prog Try.f30 R) (frOf #[t0]) w).mp h)

def S31 (t0 t1 : Value) (w : World) (R : Ending → World → Prop) : Prop :=
  boxW 25 t0 w fun t2 w =>
  ldN 3 w t2 fun t6 =>
  callW Try.prog (.func (.func 58) #[] #[]) [t6] w fun t7 w =>
  unQ .not t7 fun t8 =>
  condW t8 (
    R (.returned (.tuple #[(.bool false), (.int .i64 2)])) w
  ) (
    ldN 3 w t2 fun t9 =>
    callW Try.prog (.func (.func 67) #[] #[]) [t9, t1] w fun t11 w =>
    R (.returned (.tuple #[t11, (.int .i64 0)])) w
  )

def A31 : Ann where
  live := fun _ => []
  wr := fun _ _ => false
  sched := fun _ => .done

set_option maxRecDepth 100000 in
theorem ok31 : (codeOk Try.f31.ntmps A31 (Try.f31.body.getD .skip) 0 && Nat.ble 2 Try.f31.ntmps) = true := by kernel_rfl
set_option maxRecDepth 100000 in
theorem lift31 {t0 t1 : Value} {w : World} {R : Ending → World → Prop} (h : S31 t0 t1 w R) : Calls Try.prog 31 #[t0, t1] w R :=
  calls_of_cw (fn := Try.f31) (c := Try.f31.body.getD .skip) A31 mixes Try.func31 (by kernel_rfl) ok31
    ((by kernel_rfl : (S31 t0 t1 w R) = cw Try.prog A31 (Try.f31.body.getD .skip) 0 (bodyQ Try.prog Try.f31 R) (frOf #[t0, t1]) w).mp h)

def S32 (t0 t1 : Value) (w : World) (R : Ending → World → Prop) : Prop :=
  boxW 25 t0 w fun t2 w =>
  ldN 3 w t2 fun t6 =>
  callW Try.prog (.func (.func 62) #[] #[]) [t6] w fun t7 w =>
  unQ .not t7 fun t8 =>
  condW t8 (
    R (.returned (.tuple #[(.bool false), (.int .i64 2)])) w
  ) (
    ldN 3 w t2 fun t9 =>
    callW Try.prog (.func (.func 15) #[] #[]) [t9, t1] w fun t11 w =>
    R (.returned (.tuple #[t11, (.int .i64 0)])) w
  )

def A32 : Ann where
  live := fun _ => []
  wr := fun _ _ => false
  sched := fun _ => .done

set_option maxRecDepth 100000 in
theorem ok32 : (codeOk Try.f32.ntmps A32 (Try.f32.body.getD .skip) 0 && Nat.ble 2 Try.f32.ntmps) = true := by kernel_rfl
set_option maxRecDepth 100000 in
theorem lift32 {t0 t1 : Value} {w : World} {R : Ending → World → Prop} (h : S32 t0 t1 w R) : Calls Try.prog 32 #[t0, t1] w R :=
  calls_of_cw (fn := Try.f32) (c := Try.f32.body.getD .skip) A32 mixes Try.func32 (by kernel_rfl) ok32
    ((by kernel_rfl : (S32 t0 t1 w R) = cw Try.prog A32 (Try.f32.body.getD .skip) 0 (bodyQ Try.prog Try.f32 R) (frOf #[t0, t1]) w).mp h)

def S33 (t0 t1 : Value) (w : World) (R : Ending → World → Prop) : Prop :=
  boxW 25 t0 w fun t2 w =>
  ldN 3 w t2 fun t8 =>
  callW Try.prog (.func (.func 62) #[] #[]) [t8] w fun t9 w =>
  unQ .not t9 fun t10 =>
  gd t10 false (fun k => ldN 3 w t2 fun v => k v w) w fun t12 w =>
  gd t10 false (fun k => k t1 w) w fun t13 w =>
  gd t10 false (fun k => callW Try.prog (.func (.func 15) #[] #[]) [t12, t13] w k) w fun t14 w =>
  gd t10 false (fun k => unQ .not t14 fun v => k v w) w fun t15 w =>
  pickQ t10 (.bool true) t15 fun t16 =>
  condW t16 (
    R (.returned (.tuple #[(.int .i64 0), (.int .i64 2)])) w
  ) (
    ldN 3 w t2 fun t17 =>
    callW Try.prog (.func (.func 66) #[] #[]) [t17] w fun t18 w =>
    Loop1 (.int .i64 0) w fun _ t6 w next =>
      callW Try.prog (.func (.func 68) #[] #[]) [t18, t1] w fun t21 w =>
      condW t21 (
        binQ Try.prog w .add 3 true t6 (.int .i64 1) fun t23 =>
        ldN 3 w t2 fun t24 =>
        callW Try.prog (.func (.func 23) #[] #[]) [t24, t18] w fun t26 w =>
        next t23 w
      ) (
        R (.returned (.tuple #[t6, (.int .i64 0)])) w
      )
  )

def A33 : Ann where
  live := fun
    | 0 => [6]
    | _ => []
  wr := fun
    | 0 => fun i => Nat.beq i 6 || (Nat.ble 19 i && Nat.ble i 26)
    | _ => fun _ => false
  sched := fun _ => .done

set_option maxRecDepth 100000 in
theorem ok33 : (codeOk Try.f33.ntmps A33 (Try.f33.body.getD .skip) 0 && Nat.ble 2 Try.f33.ntmps) = true := by kernel_rfl
set_option maxRecDepth 100000 in
theorem lift33 {t0 t1 : Value} {w : World} {R : Ending → World → Prop} (h : S33 t0 t1 w R) : Calls Try.prog 33 #[t0, t1] w R :=
  calls_of_cw (fn := Try.f33) (c := Try.f33.body.getD .skip) A33 mixes Try.func33 (by kernel_rfl) ok33
    ((by kernel_rfl : (S33 t0 t1 w R) = cw Try.prog A33 (Try.f33.body.getD .skip) 0 (bodyQ Try.prog Try.f33 R) (frOf #[t0, t1]) w).mp h)

def S68 (t0 t1 : Value) (w : World) (R : Ending → World → Prop) : Prop :=
  Loop1 (.int .i64 0) w fun _ t5 w next =>
    ln1 t0 fun t9 =>
    binQ Try.prog w .lss 3 false t5 t9 fun t10 =>
    condW t10 (
      Loop1 (.int .i64 0) w fun _ t6 w next_2 =>
        iaS 1 t0 t5 fun t16 =>
        ld1 w t16 fun t17 =>
        ln1 t17 fun t18 =>
        binQ Try.prog w .lss 3 false t6 t18 fun t19 =>
        condW t19 (
          Drew w fun w =>
          iaS 1 t0 t5 fun t24 =>
          ld1 w t24 fun t25 =>
          iaS 1 t25 t6 fun t27 =>
          ld1 w t27 fun t28 =>
          iaS 1 t1 t5 fun t31 =>
          ld1 w t31 fun t32 =>
          iaS 1 t32 t6 fun t34 =>
          ld1 w t34 fun t35 =>
          binQ Try.prog w .neq 3 false t28 t35 fun t36 =>
          condW t36 (
            Drew w fun w =>
            iaS 1 t0 t5 fun t39 =>
            ld1 w t39 fun t40 =>
            iaS 1 t40 t6 fun t42 =>
            ld1 w t42 fun t43 =>
            iaS 1 t1 t5 fun t46 =>
            ld1 w t46 fun t47 =>
            iaS 1 t47 t6 fun t49 =>
            ld1 w t49 fun t50 =>
            binQ Try.prog w .lss 3 false t43 t50 fun t51 =>
            R (.returned t51) w
          ) (
            binQ Try.prog w .add 3 true t6 (.int .i64 1) fun t21 =>
            next_2 t21 w
          )
        ) (
          binQ Try.prog w .add 3 true t5 (.int .i64 1) fun t12 =>
          next t12 w
        )
    ) (
      R (.returned (.bool false)) w
    )

def A68 : Ann where
  live := fun
    | 0 => [5]
    | 2 => [6]
    | _ => []
  wr := fun
    | 0 => fun i => (Nat.ble 4 i && Nat.ble i 51)
    | 2 => fun i => Nat.beq i 4 || Nat.beq i 6 || (Nat.ble 13 i && Nat.ble i 51)
    | _ => fun _ => false
  sched := fun
    | 7 => (.take 0 (.take 1 (.take 2 (.take 3 (.take 4 (.take 5 (.take 6 (.take 7 (.take 8 (.take 9 (.take 10 (.take 11 (.take 12 (.take 13 (.take 14 .done)))))))))))))))
    | 8 => (.take 0 (.take 1 (.take 2 (.take 3 (.take 4 (.take 5 (.take 6 (.take 7 (.take 8 (.take 9 (.take 10 (.take 11 (.take 12 (.take 13 (.take 14 (.take 15 .done))))))))))))))))
    | _ => .done

set_option maxRecDepth 100000 in
theorem ok68 : (codeOk Try.f68.ntmps A68 (Try.f68.body.getD .skip) 0 && Nat.ble 2 Try.f68.ntmps) = true := by kernel_rfl
set_option maxRecDepth 100000 in
theorem lift68 {t0 t1 : Value} {w : World} {R : Ending → World → Prop} (h : S68 t0 t1 w R) : Calls Try.prog 68 #[t0, t1] w R :=
  calls_of_cw (fn := Try.f68) (c := Try.f68.body.getD .skip) A68 mixes Try.func68 (by kernel_rfl) ok68
    ((by kernel_rfl : (S68 t0 t1 w R) = cw Try.prog A68 (Try.f68.body.getD .skip) 0 (bodyQ Try.prog Try.f68 R) (frOf #[t0, t1]) w).mp h)

def S6 (t0 t1 t2 : Value) (w : World) (R : Ending → World → Prop) : Prop :=
  boxW 25 t0 w fun t3 w =>
  callW Try.prog (.func (.func 30) #[] #[]) [t1] w fun t21 w =>
  unQ .not t21 fun t22 =>
  condW t22 (
    callW Try.prog (.func (.func 17) #[] #[]) [] w fun t23 w =>
    R (.returned t23) w
  ) (
    callW Try.prog (.func (.func 22) #[] #[]) [t1] w fun t25 w =>
    ldN 3 w t3 fun t27 =>
    callW Try.prog (.func (.func 31) #[] #[]) [t27, t25] w fun t29 w =>
    exQ t29 0 fun t30 =>
    exQ t29 1 fun t31 =>
    ldN 3 w t3 fun t33 =>
    callW Try.prog (.func (.func 32) #[] #[]) [t33, t1] w fun t35 w =>
    exQ t35 0 fun t36 =>
    exQ t35 1 fun t37 =>
    binQ Try.prog w .neq 4 false t30 t36 fun t40 =>
    gd t40 false (fun k => k t31 w) w fun t42 w =>
    gd t40 false (fun k => k t37 w) w fun t43 w =>
    gd t40 false (fun k => binQ Try.prog w .neq 31 false t42 t43 fun v => k v w) w fun t44 w =>
    pickQ t40 (.bool true) t44 fun t45 =>
    condW t45 (
      R (.returned (.bool false)) w
    ) (
      ldN 3 w t3 fun t47 =>
      callW Try.prog (.func (.func 18) #[] #[]) [t47, t25] w fun t49 w =>
      exQ t49 0 fun t50 =>
      exQ t49 1 fun t51 =>
      ldN 3 w t3 fun t53 =>
      callW Try.prog (.func (.func 33) #[] #[]) [t53, t1] w fun t55 w =>
      exQ t55 0 fun t56 =>
      exQ t55 1 fun t57 =>
      binQ Try.prog w .neq 3 false t50 t56 fun t60 =>
      gd t60 false (fun k => k t51 w) w fun t62 w =>
      gd t60 false (fun k => k t57 w) w fun t63 w =>
      gd t60 false (fun k => binQ Try.prog w .neq 31 false t62 t63 fun v => k v w) w fun t64 w =>
      pickQ t60 (.bool true) t64 fun t65 =>
      gd t65 false (fun k => k t25 w) w fun t67 w =>
      gd t65 false (fun k => k t1 w) w fun t68 w =>
      gd t65 false (fun k => callW Try.prog (.func (.func 20) #[] #[]) [t67, t68] w k) w fun t69 w =>
      gd t65 false (fun k => unQ .not t69 fun v => k v w) w fun t70 w =>
      pickQ t65 (.bool true) t70 fun t71 =>
      condW t71 (
        R (.returned (.bool false)) w
      ) (
        ldN 3 w t3 fun t73 =>
        callW Try.prog (.func (.func 34) #[] #[]) [t73, t2] w fun t75 w =>
        exQ t75 0 fun t76 =>
        exQ t75 1 fun t77 =>
        Loop1 (.int .i64 0) w fun _ t15 w next =>
          binQ Try.prog w .lss 3 true t15 (.int .i64 2) fun t79 =>
          condW t79 (
            ldN 3 w t3 fun t83 =>
            callW Try.prog (.func (.func 19) #[] #[]) [t83, t2] w fun t85 w =>
            exQ t85 0 fun t86 =>
            exQ t85 1 fun t87 =>
            binQ Try.prog w .neq 31 false t87 t77 fun t90 =>
            gd t90 false (fun k => k t86 w) w fun t92 w =>
            gd t90 false (fun k => k t76 w) w fun t93 w =>
            gd t90 false (fun k => callW Try.prog (.func (.func 20) #[] #[]) [t92, t93] w k) w fun t94 w =>
            gd t90 false (fun k => unQ .not t94 fun v => k v w) w fun t95 w =>
            pickQ t90 (.bool true) t95 fun t96 =>
            condW t96 (
              R (.returned (.bool false)) w
            ) (
              Loop1 (.int .i64 0) w fun _ t18 w next_2 =>
                ln1 t86 fun t99 =>
                binQ Try.prog w .lss 3 false t18 t99 fun t100 =>
                condW t100 (
                  Loop1 (.int .i64 0) w fun _ t19 w next_3 =>
                    iaS 1 t86 t18 fun t106 =>
                    ld1 w t106 fun t107 =>
                    ln1 t107 fun t108 =>
                    binQ Try.prog w .lss 3 false t19 t108 fun t109 =>
                    condW t109 (
                      iaS 1 t86 t18 fun t114 =>
                      ld1 w t114 fun t115 =>
                      iaS 1 t115 t19 fun t117 =>
                      stW Try.prog 3 t117 (.int .i64 9) w fun w =>
                      binQ Try.prog w .add 3 true t19 (.int .i64 1) fun t111 =>
                      next_3 t111 w
                    ) (
                      binQ Try.prog w .add 3 true t18 (.int .i64 1) fun t102 =>
                      next_2 t102 w
                    )
                ) (
                  binQ Try.prog w .add 3 true t15 (.int .i64 1) fun t81 =>
                  next t81 w
                )
            )
          ) (
            callW Try.prog (.func (.func 17) #[] #[]) [] w fun t118 w =>
            R (.returned t118) w
          )
      )
    )
  )

def A6 : Ann where
  live := fun
    | 0 => [15]
    | 2 => [18]
    | 4 => [19]
    | _ => []
  wr := fun
    | 0 => fun i => Nat.beq i 6 || (Nat.ble 15 i && Nat.ble i 19) || (Nat.ble 78 i && Nat.ble i 117)
    | 2 => fun i => (Nat.ble 18 i && Nat.ble i 19) || (Nat.ble 97 i && Nat.ble i 117)
    | 4 => fun i => Nat.beq i 19 || (Nat.ble 103 i && Nat.ble i 117)
    | _ => fun _ => false
  sched := fun _ => .done

set_option maxRecDepth 100000 in
theorem ok6 : (codeOk Try.f6.ntmps A6 (Try.f6.body.getD .skip) 0 && Nat.ble 3 Try.f6.ntmps) = true := by kernel_rfl
set_option maxRecDepth 100000 in
theorem lift6 {t0 t1 t2 : Value} {w : World} {R : Ending → World → Prop} (h : S6 t0 t1 t2 w R) : Calls Try.prog 6 #[t0, t1, t2] w R :=
  calls_of_cw (fn := Try.f6) (c := Try.f6.body.getD .skip) A6 mixes Try.func6 (by kernel_rfl) ok6
    ((by kernel_rfl : (S6 t0 t1 t2 w R) = cw Try.prog A6 (Try.f6.body.getD .skip) 0 (bodyQ Try.prog Try.f6 R) (frOf #[t0, t1, t2]) w).mp h)

theorem fok30 : fnOk Try.prog 30 = true := by kernel_rfl
theorem fok31 : fnOk Try.prog 31 = true := by kernel_rfl
theorem fok32 : fnOk Try.prog 32 = true := by kernel_rfl
theorem fok33 : fnOk Try.prog 33 = true := by kernel_rfl
theorem fok68 : fnOk Try.prog 68 = true := by kernel_rfl
theorem fok6 : fnOk Try.prog 6 = true := by kernel_rfl
end Go.Proofs.Ytaephdjmpmbfpaa
