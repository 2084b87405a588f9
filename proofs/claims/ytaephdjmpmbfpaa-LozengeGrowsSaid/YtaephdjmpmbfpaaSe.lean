/- Lifted texts, printed by program (gen.py): what each function's code asks. The ties are by the kernel. -/
import Derived.Test.YtaephdjmpmbfpaaBase
set_option linter.all false
namespace Go.Proofs.Ytaephdjmpmbfpaa
open Go.Lf Go.RowKit

def S24 (t0 : Value) (w : World) (R : Ending → World → Prop) : Prop :=
  boxW 25 t0 w fun t1 w =>
  ldN 3 w t1 fun t9 =>
  callW Try.prog (.func (.func 28) #[] #[]) [t9] w fun t10 w =>
  exQ t10 0 fun t11 =>
  exQ t10 1 fun t12 =>
  Loop2 (.int .i64 0) (.int .i64 0) w fun _ t6 t7 w next =>
    ln1 t11 fun t15 =>
    binQ Try.prog w .lss 3 false t7 t15 fun t16 =>
    condW t16 (
      iaS 1 t11 t7 fun t22 =>
      ld1 w t22 fun t23 =>
      binQ Try.prog w .add 3 false t6 t23 fun t24 =>
      binQ Try.prog w .add 3 true t7 (.int .i64 1) fun t18 =>
      next t24 t18 w
    ) (
      R (.returned (.tuple #[t6, t12])) w
    )

def A24 : Ann where
  live := fun
    | 0 => [6, 7]
    | _ => []
  wr := fun
    | 0 => fun i => (Nat.ble 6 i && Nat.ble i 7) || (Nat.ble 13 i && Nat.ble i 24)
    | _ => fun _ => false
  sched := fun _ => .done

set_option maxRecDepth 100000 in
theorem ok24 : (codeOk Try.f24.ntmps A24 (Try.f24.body.getD .skip) 0 && Nat.ble 1 Try.f24.ntmps) = true := by kernel_rfl
set_option maxRecDepth 100000 in
theorem lift24 {t0 : Value} {w : World} {R : Ending → World → Prop} (h : S24 t0 w R) : Calls Try.prog 24 #[t0] w R :=
  calls_of_cw (fn := Try.f24) (c := Try.f24.body.getD .skip) A24 mixes Try.func24 (by kernel_rfl) ok24
    ((by kernel_rfl : (S24 t0 w R) = cw Try.prog A24 (Try.f24.body.getD .skip) 0 (bodyQ Try.prog Try.f24 R) (frOf #[t0]) w).mp h)

def S27 (t0 : Value) (w : World) (R : Ending → World → Prop) : Prop :=
  boxW 25 t0 w fun t1 w =>
  ldN 3 w t1 fun t4 =>
  callW Try.prog (.func (.func 58) #[] #[]) [t4] w fun t5 w =>
  unQ .not t5 fun t6 =>
  condW t6 (
    R (.returned (.tuple #[(.slice none 0 0), (.int .i64 2)])) w
  ) (
    Drew w fun w =>
    Join (fun (k_2 : Value → Value → World → Prop) =>
      ldN 3 w t1 fun t7 =>
      fa1 t1 0 fun t8 =>
      ld1 w t8 fun t9 =>
      ldN 3 w t1 fun t10 =>
      And (
        callW Try.prog (.func (.func 53) #[] #[]) [t10] w <| keepB w fun t11 w =>
        bdQ Try.prog 88 [(0, t9), (1, t11)] fun t12 =>
        mmW w <| keepB w fun t13 w =>
        callW Try.prog (.func (.func 65) #[] #[]) [t7, t12, t13] w fun t14 w =>
        callW Try.prog (.func (.func 59) #[] #[]) [t14] w fun t15 w =>
        k_2 t15 (.int .i64 0) w
      ) <|
      And (
        mmW w <| keepB w fun t13_2 w =>
        callW Try.prog (.func (.func 53) #[] #[]) [t10] w <| keepB w fun t11_2 w =>
        bdQ Try.prog 88 [(0, t9), (1, t11_2)] fun t12_2 =>
        callW Try.prog (.func (.func 65) #[] #[]) [t7, t12_2, t13_2] w fun t14_2 w =>
        callW Try.prog (.func (.func 59) #[] #[]) [t14_2] w fun t15_2 w =>
        k_2 t15_2 (.int .i64 0) w
      ) <|
      True
    ) fun t2 t3 w =>
    R (.returned (.tuple #[t2, t3])) w
  )

def A27 : Ann where
  live := fun _ => []
  wr := fun _ _ => false
  sched := fun
    | 3 => (.take 0 (.take 1 (.take 2 (.take 3 (.alt 4 (.take 5 (.eff 6 (.bar 7 (.bar 8 (.take 9 (.take 10 .done)))))) (.alt 6 (.eff 4 (.take 5 (.bar 7 (.bar 8 (.take 9 (.take 10 .done)))))) .nomore))))))
    | _ => .done

set_option maxRecDepth 100000 in
theorem ok27 : (codeOk Try.f27.ntmps A27 (Try.f27.body.getD .skip) 0 && Nat.ble 1 Try.f27.ntmps) = true := by kernel_rfl
set_option maxRecDepth 100000 in
theorem lift27 {t0 : Value} {w : World} {R : Ending → World → Prop} (h : S27 t0 w R) : Calls Try.prog 27 #[t0] w R :=
  calls_of_cw (fn := Try.f27) (c := Try.f27.body.getD .skip) A27 mixes Try.func27 (by kernel_rfl) ok27
    ((by kernel_rfl : (S27 t0 w R) = cw Try.prog A27 (Try.f27.body.getD .skip) 0 (bodyQ Try.prog Try.f27 R) (frOf #[t0]) w).mp h)

def S28 (t0 : Value) (w : World) (R : Ending → World → Prop) : Prop :=
  boxW 25 t0 w fun t1 w =>
  ldN 3 w t1 fun t6 =>
  callW Try.prog (.func (.func 62) #[] #[]) [t6] w fun t7 w =>
  unQ .not t7 fun t8 =>
  condW t8 (
    R (.returned (.tuple #[(.slice none 0 0), (.int .i64 2)])) w
  ) (
    fa1 t1 0 fun t9 =>
    ld1 w t9 fun t10 =>
    fa1 t1 1 fun t11 =>
    ld1 w t11 fun t12 =>
    binQ Try.prog w .mul 3 false t10 t12 fun t13 =>
    fa1 t1 2 fun t14 =>
    ld1 w t14 fun t15 =>
    binQ Try.prog w .mul 3 false t13 t15 fun t16 =>
    binQ Try.prog w .add 3 true t16 (.int .i64 1) fun t17 =>
    mkW Try.prog 36 t17 t17 w fun t18 w =>
    ldN 3 w t1 fun t19 =>
    callW Try.prog (.func (.func 66) #[] #[]) [t19] w fun t20 w =>
    iaS 1 t18 (.int .i64 0) fun t22 =>
    ld1 w t22 fun t23 =>
    binQ Try.prog w .add 3 true t23 (.int .i64 1) fun t24 =>
    iaS 1 t18 (.int .i64 0) fun t25 =>
    stW Try.prog 3 t25 t24 w fun w =>
    Loop0 w fun _ w next =>
      ldN 3 w t1 fun t26 =>
      callW Try.prog (.func (.func 23) #[] #[]) [t26, t20] w fun t28 w =>
      condW t28 (
        callW Try.prog (.func (.func 13) #[] #[]) [t20] w fun t31 w =>
        iaS 1 t18 t31 fun t32 =>
        ld1 w t32 fun t33 =>
        binQ Try.prog w .add 3 true t33 (.int .i64 1) fun t34 =>
        iaS 1 t18 t31 fun t35 =>
        stW Try.prog 3 t35 t34 w fun w =>
        next w
      ) (
        R (.returned (.tuple #[t18, (.int .i64 0)])) w
      )
  )

def A28 : Ann where
  live := fun
    | 0 => []
    | _ => []
  wr := fun
    | 0 => fun i => (Nat.ble 26 i && Nat.ble i 35)
    | _ => fun _ => false
  sched := fun _ => .done

set_option maxRecDepth 100000 in
theorem ok28 : (codeOk Try.f28.ntmps A28 (Try.f28.body.getD .skip) 0 && Nat.ble 1 Try.f28.ntmps) = true := by kernel_rfl
set_option maxRecDepth 100000 in
theorem lift28 {t0 : Value} {w : World} {R : Ending → World → Prop} (h : S28 t0 w R) : Calls Try.prog 28 #[t0] w R :=
  calls_of_cw (fn := Try.f28) (c := Try.f28.body.getD .skip) A28 mixes Try.func28 (by kernel_rfl) ok28
    ((by kernel_rfl : (S28 t0 w R) = cw Try.prog A28 (Try.f28.body.getD .skip) 0 (bodyQ Try.prog Try.f28 R) (frOf #[t0]) w).mp h)

def S29 (t0 t1 : Value) (w : World) (R : Ending → World → Prop) : Prop :=
  ln1 t0 fun t7 =>
  ln1 t1 fun t9 =>
  binQ Try.prog w .neq 3 false t7 t9 fun t10 =>
  condW t10 (
    R (.returned (.bool false)) w
  ) (
    Loop1 (.int .i64 0) w fun _ t5 w next =>
      ln1 t0 fun t13 =>
      binQ Try.prog w .lss 3 false t5 t13 fun t14 =>
      condW t14 (
        Drew w fun w =>
        iaS 1 t0 t5 fun t19 =>
        ld1 w t19 fun t20 =>
        iaS 1 t1 t5 fun t23 =>
        ld1 w t23 fun t24 =>
        binQ Try.prog w .neq 3 false t20 t24 fun t25 =>
        condW t25 (
          R (.returned (.bool false)) w
        ) (
          binQ Try.prog w .add 3 true t5 (.int .i64 1) fun t16 =>
          next t16 w
        )
      ) (
        R (.returned (.bool true)) w
      )
  )

def A29 : Ann where
  live := fun
    | 0 => [5]
    | _ => []
  wr := fun
    | 0 => fun i => (Nat.ble 4 i && Nat.ble i 5) || (Nat.ble 11 i && Nat.ble i 25)
    | _ => fun _ => false
  sched := fun
    | 6 => (.take 0 (.take 1 (.take 2 (.take 3 (.take 4 (.take 5 (.take 6 (.take 7 (.take 8 .done)))))))))
    | _ => .done

set_option maxRecDepth 100000 in
theorem ok29 : (codeOk Try.f29.ntmps A29 (Try.f29.body.getD .skip) 0 && Nat.ble 2 Try.f29.ntmps) = true := by kernel_rfl
set_option maxRecDepth 100000 in
theorem lift29 {t0 t1 : Value} {w : World} {R : Ending → World → Prop} (h : S29 t0 t1 w R) : Calls Try.prog 29 #[t0, t1] w R :=
  calls_of_cw (fn := Try.f29) (c := Try.f29.body.getD .skip) A29 mixes Try.func29 (by kernel_rfl) ok29
    ((by kernel_rfl : (S29 t0 t1 w R) = cw Try.prog A29 (Try.f29.body.getD .skip) 0 (bodyQ Try.prog Try.f29 R) (frOf #[t0, t1]) w).mp h)

def S65 (t0 t1 t2 : Value) (w : World) (R : Ending → World → Prop) : Prop :=
  boxW 25 t0 w fun t3 w =>
  boxW 88 t1 w fun t4 w =>
  ldN 5 w t4 fun t19 =>
  semW Try.prog (lkS 91 t2 t19 true) w fun t20 w =>
  exQ t20 0 fun t21 =>
  exQ t20 1 fun t22 =>
  condW t22 (
    R (.returned t21) w
  ) (
    fa1 t4 0 fun t25 =>
    ld1 w t25 fun t26 =>
    fa1 t3 1 fun t27 =>
    ld1 w t27 fun t28 =>
    binQ Try.prog w .mul 3 false t26 t28 fun t29 =>
    fa1 t3 2 fun t30 =>
    ld1 w t30 fun t31 =>
    binQ Try.prog w .mul 3 false t29 t31 fun t32 =>
    binQ Try.prog w .add 3 true t32 (.int .i64 1) fun t33 =>
    mkW Try.prog 36 t33 t33 w fun t34 w =>
    fa1 t4 0 fun t35 =>
    ld1 w t35 fun t36 =>
    binQ Try.prog w .eql 3 true t36 (.int .i64 0) fun t37 =>
    Join (fun (k_2 : World → Prop) =>
      condW t37 (
        iaS 1 t34 (.int .i64 0) fun t39 =>
        stW Try.prog 3 t39 (.int .i64 1) w fun w =>
        k_2 w
      ) (
        ldN 3 w t3 fun t40 =>
        fa1 t4 1 fun t41 =>
        ldN 4 w t41 fun t42 =>
        callW Try.prog (.func (.func 55) #[] #[]) [t40, t42] w fun t43 w =>
        ln1 t43 fun t44 =>
        Loop1 (.int .i64 0) w fun _ t45 w next =>
          binQ Try.prog w .lss 3 false t45 t44 fun t46 =>
          condW t46 (
            iaS 4 t43 t45 fun t47 =>
            ldN 4 w t47 fun t48 =>
            boxW 80 (.agg #[(.int .i64 0), (.int .i64 0), (.int .i64 0), (.int .i64 0)]) w fun t11 w =>
            stW Try.prog 80 t11 t48 w fun w =>
            ldN 4 w t11 fun t49 =>
            Loop2 (.int .i64 0) (.int .i64 0) w fun _ t12 t50 w next_2 =>
              binQ Try.prog w .lss 3 true t50 (.int .i64 4) fun t51 =>
              condW t51 (
                semW Try.prog (ixS 80 t49 t50) w fun t52 w =>
                binQ Try.prog w .add 3 false t12 t52 fun t55 =>
                binQ Try.prog w .add 3 true t50 (.int .i64 1) fun t56 =>
                next_2 t55 t56 w
              ) (
                ldN 3 w t3 fun t57 =>
                fa1 t4 0 fun t58 =>
                ld1 w t58 fun t59 =>
                binQ Try.prog w .sub 3 true t59 (.int .i64 1) fun t60 =>
                ldN 4 w t11 fun t61 =>
                bdQ Try.prog 88 [(0, t60), (1, t61)] fun t62 =>
                callW Try.prog (.func (.func 65) #[] #[]) [t57, t62, t2] w fun t64 w =>
                ln1 t64 fun t65 =>
                Loop1 (.int .i64 0) w fun _ t66 w next_3 =>
                  binQ Try.prog w .lss 3 false t66 t65 fun t67 =>
                  condW t67 (
                    iaS 1 t64 t66 fun t69 =>
                    ld1 w t69 fun t70 =>
                    binQ Try.prog w .add 3 false t66 t12 fun t74 =>
                    iaS 1 t34 t74 fun t75 =>
                    ld1 w t75 fun t76 =>
                    binQ Try.prog w .add 3 false t76 t70 fun t78 =>
                    iaS 1 t34 t74 fun t79 =>
                    stW Try.prog 3 t79 t78 w fun w =>
                    binQ Try.prog w .add 3 true t66 (.int .i64 1) fun t80 =>
                    next_3 t80 w
                  ) (
                    binQ Try.prog w .add 3 true t45 (.int .i64 1) fun t81 =>
                    next t81 w
                  )
              )
          ) (
            k_2 w
          )
      )
    ) fun w =>
    ldN 5 w t4 fun t83_2 =>
    semW Try.prog (muS 91 t2 t83_2 t34) w fun _ w =>
    R (.returned t34) w
  )

def A65 : Ann where
  live := fun
    | 0 => [45]
    | 2 => [12, 50]
    | 4 => [66]
    | _ => []
  wr := fun
    | 0 => fun i => (Nat.ble 11 i && Nat.ble i 12) || (Nat.ble 14 i && Nat.ble i 16) || (Nat.ble 45 i && Nat.ble i 81)
    | 2 => fun i => Nat.beq i 12 || Nat.beq i 14 || (Nat.ble 50 i && Nat.ble i 56)
    | 4 => fun i => (Nat.ble 15 i && Nat.ble i 16) || (Nat.ble 66 i && Nat.ble i 80)
    | _ => fun _ => false
  sched := fun _ => .done

set_option maxRecDepth 100000 in
theorem ok65 : (codeOk Try.f65.ntmps A65 (Try.f65.body.getD .skip) 0 && Nat.ble 3 Try.f65.ntmps) = true := by kernel_rfl
set_option maxRecDepth 100000 in
theorem lift65 {t0 t1 t2 : Value} {w : World} {R : Ending → World → Prop} (h : S65 t0 t1 t2 w R) : Calls Try.prog 65 #[t0, t1, t2] w R :=
  calls_of_cw (fn := Try.f65) (c := Try.f65.body.getD .skip) A65 mixes Try.func65 (by kernel_rfl) ok65
    ((by kernel_rfl : (S65 t0 t1 t2 w R) = cw Try.prog A65 (Try.f65.body.getD .skip) 0 (bodyQ Try.prog Try.f65 R) (frOf #[t0, t1, t2]) w).mp h)

def S5 (t0 : Value) (w : World) (R : Ending → World → Prop) : Prop :=
  boxW 25 t0 w fun t1 w =>
  ldN 3 w t1 fun t10 =>
  callW Try.prog (.func (.func 21) #[] #[]) [t10] w fun t11 w =>
  exQ t11 0 fun t12 =>
  exQ t11 1 fun t13 =>
  ldN 3 w t1 fun t15 =>
  callW Try.prog (.func (.func 24) #[] #[]) [t15] w fun t16 w =>
  exQ t16 0 fun t17 =>
  exQ t16 1 fun t18 =>
  binQ Try.prog w .neq 3 false t12 t17 fun t21 =>
  gd t21 false (fun k => k t13 w) w fun t23 w =>
  gd t21 false (fun k => k t18 w) w fun t24 w =>
  gd t21 false (fun k => binQ Try.prog w .neq 31 false t23 t24 fun v => k v w) w fun t25 w =>
  pickQ t21 (.bool true) t25 fun t26 =>
  condW t26 (
    R (.returned (.bool false)) w
  ) (
    ldN 3 w t1 fun t28 =>
    callW Try.prog (.func (.func 25) #[] #[]) [t28] w fun t29 w =>
    exQ t29 0 fun t30 =>
    exQ t29 1 fun t31 =>
    ldN 3 w t1 fun t33 =>
    callW Try.prog (.func (.func 26) #[] #[]) [t33] w fun t34 w =>
    exQ t34 0 fun t35 =>
    exQ t34 1 fun t36 =>
    binQ Try.prog w .neq 3 false t30 t35 fun t39 =>
    gd t39 false (fun k => k t31 w) w fun t41 w =>
    gd t39 false (fun k => k t36 w) w fun t42 w =>
    gd t39 false (fun k => binQ Try.prog w .neq 31 false t41 t42 fun v => k v w) w fun t43 w =>
    pickQ t39 (.bool true) t43 fun t44 =>
    condW t44 (
      R (.returned (.bool false)) w
    ) (
      ldN 3 w t1 fun t46 =>
      callW Try.prog (.func (.func 27) #[] #[]) [t46] w fun t47 w =>
      exQ t47 0 fun t48 =>
      exQ t47 1 fun t49 =>
      ldN 3 w t1 fun t51 =>
      callW Try.prog (.func (.func 28) #[] #[]) [t51] w fun t52 w =>
      exQ t52 0 fun t53 =>
      exQ t52 1 fun t54 =>
      callW Try.prog (.func (.func 29) #[] #[]) [t48, t53] w fun t57 w =>
      gd t57 true (fun k => k t49 w) w fun t59 w =>
      gd t57 true (fun k => k t54 w) w fun t60 w =>
      gd t57 true (fun k => binQ Try.prog w .eql 31 false t59 t60 fun v => k v w) w fun t61 w =>
      pickQ t57 t61 (.bool false) fun t62 =>
      gd t62 true (fun k => callW Try.prog (.func (.func 17) #[] #[]) [] w k) w fun t64 w =>
      pickQ t62 t64 (.bool false) fun t65 =>
      R (.returned t65) w
    )
  )

def A5 : Ann where
  live := fun _ => []
  wr := fun _ _ => false
  sched := fun _ => .done

set_option maxRecDepth 100000 in
theorem ok5 : (codeOk Try.f5.ntmps A5 (Try.f5.body.getD .skip) 0 && Nat.ble 1 Try.f5.ntmps) = true := by kernel_rfl
set_option maxRecDepth 100000 in
theorem lift5 {t0 : Value} {w : World} {R : Ending → World → Prop} (h : S5 t0 w R) : Calls Try.prog 5 #[t0] w R :=
  calls_of_cw (fn := Try.f5) (c := Try.f5.body.getD .skip) A5 mixes Try.func5 (by kernel_rfl) ok5
    ((by kernel_rfl : (S5 t0 w R) = cw Try.prog A5 (Try.f5.body.getD .skip) 0 (bodyQ Try.prog Try.f5 R) (frOf #[t0]) w).mp h)

theorem fok24 : fnOk Try.prog 24 = true := by kernel_rfl
theorem fok27 : fnOk Try.prog 27 = true := by kernel_rfl
theorem fok28 : fnOk Try.prog 28 = true := by kernel_rfl
theorem fok29 : fnOk Try.prog 29 = true := by kernel_rfl
theorem fok65 : fnOk Try.prog 65 = true := by kernel_rfl
theorem fok5 : fnOk Try.prog 5 = true := by kernel_rfl
end Go.Proofs.Ytaephdjmpmbfpaa
