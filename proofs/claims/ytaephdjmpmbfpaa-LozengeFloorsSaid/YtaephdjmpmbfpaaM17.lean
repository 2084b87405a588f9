/- Texts of my own, merged by program: Si N1 N2. -/
import Derived.Test.YtaephdjmpmbfpaaM02
import Derived.Test.YtaephdjmpmbfpaaM16
import Derived.Test.YtaephdjmpmbfpaaM06
set_option linter.all false
/- Lifted texts, printed by program (gen.py): what each function's code asks. The ties are by the kernel. -/
namespace Go.Proofs.Ytaephdjmpmbfpaa
open Go.Lf Go.RowKit

def S41 (t0 t1 : Value) (w : World) (R : Ending → World → Prop) : Prop :=
  boxW 25 t0 w fun t2 w =>
  ldN 3 w t2 fun t19 =>
  callW Try.prog (.func (.func 47) #[] #[]) [t19, t1] w fun t21 w =>
  binQ Try.prog w .neq 31 true t21 (.int .i64 0) fun t23 =>
  condW t23 (
    R (.returned (.tuple #[(.slice none 0 0), t21])) w
  ) (
    ldN 3 w t2 fun t25 =>
    callW Try.prog (.func (.func 71) #[] #[]) [t25, t1] w fun t27 w =>
    ln1 t1 fun t29 =>
    Loop2 (.slice none 0 0) (.int .i64 0) w fun _ t7 t30 w next =>
      binQ Try.prog w .lss 3 false t30 t29 fun t31 =>
      condW t31 (
        iaS 1 t1 t30 fun t33 =>
        ld1 w t33 fun t34 =>
        ln1 t34 fun t36 =>
        Loop2 t7 (.int .i64 0) w fun _ t7_2 t37 w next_2 =>
          binQ Try.prog w .lss 3 false t37 t36 fun t38 =>
          condW t38 (
            iaS 1 t34 t37 fun t40 =>
            ld1 w t40 fun t41 =>
            binQ Try.prog w .sub 3 false t37 t30 fun t45 =>
            binQ Try.prog w .sub 3 false t41 t30 fun t48 =>
            bdQ Try.prog 68 [(0, (.int .i64 0)), (1, t45), (2, t48)] fun t49 =>
            bsW Try.prog 62 1 [(0, t49)] w fun t50 w =>
            semW Try.prog (apS [62, 62] 62 [t7_2, t50]) w fun t51 w =>
            binQ Try.prog w .add 3 true t37 (.int .i64 1) fun t52 =>
            next_2 t51 t52 w
          ) (
            binQ Try.prog w .add 3 true t30 (.int .i64 1) fun t53 =>
            next t7_2 t53 w
          )
      ) (
        fa1 t2 2 fun t54 =>
        ld1 w t54 fun t55 =>
        Loop2 t7 (.int .i64 0) w fun _ t7_3 t56 w next_3 =>
          binQ Try.prog w .lss 3 false t56 t55 fun t57 =>
          condW t57 (
            ln1 t1 fun t60 =>
            Loop2 t7_3 (.int .i64 0) w fun _ t7_4 t61 w next_4 =>
              binQ Try.prog w .lss 3 false t61 t60 fun t62 =>
              condW t62 (
                iaS 1 t1 t61 fun t64 =>
                ld1 w t64 fun t65 =>
                callW Try.prog (.func (.func 77) #[] #[]) [t65, t56] w fun t69 w =>
                binQ Try.prog w .sub 3 false t69 t61 fun t71 =>
                binQ Try.prog w .sub 3 false t56 t61 fun t74 =>
                bdQ Try.prog 68 [(0, (.int .i64 1)), (1, t71), (2, t74)] fun t75 =>
                bsW Try.prog 62 1 [(0, t75)] w fun t76 w =>
                semW Try.prog (apS [62, 62] 62 [t7_4, t76]) w fun t77 w =>
                binQ Try.prog w .add 3 true t61 (.int .i64 1) fun t78 =>
                next_4 t77 t78 w
              ) (
                ln1 t27 fun t80 =>
                Loop2 t7_4 (.int .i64 0) w fun _ t7_5 t81 w next_5 =>
                  binQ Try.prog w .lss 3 false t81 t80 fun t82 =>
                  condW t82 (
                    iaS 1 t27 t81 fun t84 =>
                    ld1 w t84 fun t85 =>
                    callW Try.prog (.func (.func 77) #[] #[]) [t85, t56] w fun t88 w =>
                    binQ Try.prog w .sub 3 false t81 t88 fun t92 =>
                    binQ Try.prog w .sub 3 false t56 t88 fun t95 =>
                    bdQ Try.prog 68 [(0, (.int .i64 2)), (1, t92), (2, t95)] fun t96 =>
                    bsW Try.prog 62 1 [(0, t96)] w fun t97 w =>
                    semW Try.prog (apS [62, 62] 62 [t7_5, t97]) w fun t98 w =>
                    binQ Try.prog w .add 3 true t81 (.int .i64 1) fun t99 =>
                    next_5 t98 t99 w
                  ) (
                    binQ Try.prog w .add 3 true t56 (.int .i64 1) fun t100 =>
                    next_3 t7_5 t100 w
                  )
              )
          ) (
            callW Try.prog (.func (.func 78) #[] #[]) [t7_3, (.func (.func 79) #[] #[])] w fun t102 w =>
            R (.returned (.tuple #[t7_3, (.int .i64 0)])) w
          )
      )
  )

def A41 : Ann where
  live := fun
    | 0 => [7, 30]
    | 2 => [7, 37]
    | 4 => [7, 56]
    | 6 => [7, 61]
    | 8 => [7, 81]
    | _ => []
  wr := fun
    | 0 => fun i => Nat.beq i 7 || (Nat.ble 9 i && Nat.ble i 12) || (Nat.ble 30 i && Nat.ble i 53)
    | 2 => fun i => Nat.beq i 7 || (Nat.ble 11 i && Nat.ble i 12) || (Nat.ble 37 i && Nat.ble i 52)
    | 4 => fun i => Nat.beq i 7 || (Nat.ble 13 i && Nat.ble i 18) || (Nat.ble 56 i && Nat.ble i 100)
    | 6 => fun i => Nat.beq i 7 || (Nat.ble 14 i && Nat.ble i 15) || (Nat.ble 61 i && Nat.ble i 78)
    | 8 => fun i => Nat.beq i 7 || (Nat.ble 16 i && Nat.ble i 18) || (Nat.ble 81 i && Nat.ble i 99)
    | _ => fun _ => false
  sched := fun _ => .done

set_option maxRecDepth 100000 in
theorem ok41 : (codeOk Try.f41.ntmps A41 (Try.f41.body.getD .skip) 0 && Nat.ble 2 Try.f41.ntmps) = true := by kernel_rfl
set_option maxRecDepth 100000 in
theorem lift41 {t0 t1 : Value} {w : World} {R : Ending → World → Prop} (h : S41 t0 t1 w R) : Calls Try.prog 41 #[t0, t1] w R :=
  calls_of_cw (fn := Try.f41) (c := Try.f41.body.getD .skip) A41 mixes Try.func41 (by kernel_rfl) ok41
    ((by kernel_rfl : (S41 t0 t1 w R) = cw Try.prog A41 (Try.f41.body.getD .skip) 0 (bodyQ Try.prog Try.f41 R) (frOf #[t0, t1]) w).mp h)

def S45 (t0 t1 : Value) (w : World) (R : Ending → World → Prop) : Prop :=
  boxW 25 t0 w fun t2 w =>
  ldN 3 w t2 fun t15 =>
  callW Try.prog (.func (.func 62) #[] #[]) [t15] w fun t16 w =>
  unQ .not t16 fun t17 =>
  gd t17 false (fun k => ldN 3 w t2 fun v => k v w) w fun t19 w =>
  gd t17 false (fun k => k t1 w) w fun t20 w =>
  gd t17 false (fun k => callW Try.prog (.func (.func 15) #[] #[]) [t19, t20] w k) w fun t21 w =>
  gd t17 false (fun k => unQ .not t21 fun v => k v w) w fun t22 w =>
  pickQ t17 (.bool true) t22 fun t23 =>
  condW t23 (
    R (.returned (.tuple #[(.slice none 0 0), (.int .i64 2)])) w
  ) (
    Loop2 (.slice none 0 0) (.int .i64 0) w fun _ t6 t7 w next =>
      fa1 t2 0 fun t25 =>
      ld1 w t25 fun t26 =>
      binQ Try.prog w .lss 3 false t7 t26 fun t27 =>
      condW t27 (
        Loop2 t6 (.int .i64 0) w fun _ t6_2 t8 w next_2 =>
          fa1 t2 1 fun t31 =>
          ld1 w t31 fun t32 =>
          binQ Try.prog w .lss 3 false t8 t32 fun t33 =>
          condW t33 (
            binQ Try.prog w .sub 3 false t8 t7 fun t39 =>
            iaS 1 t1 t7 fun t42 =>
            ld1 w t42 fun t43 =>
            iaS 1 t43 t8 fun t45 =>
            ld1 w t45 fun t46 =>
            binQ Try.prog w .sub 3 false t46 t7 fun t48 =>
            bdQ Try.prog 68 [(0, (.int .i64 0)), (1, t39), (2, t48)] fun t49 =>
            bsW Try.prog 62 1 [(0, t49)] w fun t50 w =>
            semW Try.prog (apS [62, 62] 62 [t6_2, t50]) w fun t51 w =>
            binQ Try.prog w .add 3 true t8 (.int .i64 1) fun t35 =>
            next_2 t51 t35 w
          ) (
            Loop2 t6_2 (.int .i64 0) w fun _ t6_3 t9 w next_3 =>
              fa1 t2 2 fun t53 =>
              ld1 w t53 fun t54 =>
              binQ Try.prog w .lss 3 false t9 t54 fun t55 =>
              condW t55 (
                iaS 1 t1 t7 fun t60 =>
                ld1 w t60 fun t61 =>
                callW Try.prog (.func (.func 82) #[] #[]) [t61, t9] w fun t63 w =>
                binQ Try.prog w .sub 3 false t63 t7 fun t67 =>
                binQ Try.prog w .sub 3 false t9 t7 fun t70 =>
                bdQ Try.prog 68 [(0, (.int .i64 1)), (1, t67), (2, t70)] fun t71 =>
                bsW Try.prog 62 1 [(0, t71)] w fun t72 w =>
                semW Try.prog (apS [62, 62] 62 [t6_3, t72]) w fun t73 w =>
                binQ Try.prog w .add 3 true t9 (.int .i64 1) fun t57 =>
                next_3 t73 t57 w
              ) (
                binQ Try.prog w .add 3 true t7 (.int .i64 1) fun t29 =>
                next t6_3 t29 w
              )
          )
      ) (
        ldN 3 w t2 fun t74 =>
        callW Try.prog (.func (.func 50) #[] #[]) [t74, t1] w fun t76 w =>
        Loop2 t6 (.int .i64 0) w fun _ t6_4 t12 w next_4 =>
          fa1 t2 1 fun t78 =>
          ld1 w t78 fun t79 =>
          binQ Try.prog w .lss 3 false t12 t79 fun t80 =>
          condW t80 (
            Loop2 t6_4 (.int .i64 0) w fun _ t6_5 t13 w next_5 =>
              fa1 t2 2 fun t84 =>
              ld1 w t84 fun t85 =>
              binQ Try.prog w .lss 3 false t13 t85 fun t86 =>
              condW t86 (
                iaS 1 t76 t12 fun t91 =>
                ld1 w t91 fun t92 =>
                callW Try.prog (.func (.func 82) #[] #[]) [t92, t13] w fun t94 w =>
                binQ Try.prog w .sub 3 false t12 t94 fun t98 =>
                binQ Try.prog w .sub 3 false t13 t94 fun t101 =>
                bdQ Try.prog 68 [(0, (.int .i64 2)), (1, t98), (2, t101)] fun t102 =>
                bsW Try.prog 62 1 [(0, t102)] w fun t103 w =>
                semW Try.prog (apS [62, 62] 62 [t6_5, t103]) w fun t104 w =>
                binQ Try.prog w .add 3 true t13 (.int .i64 1) fun t88 =>
                next_5 t104 t88 w
              ) (
                binQ Try.prog w .add 3 true t12 (.int .i64 1) fun t82 =>
                next_4 t6_5 t82 w
              )
          ) (
            callW Try.prog (.func (.func 83) #[] #[]) [t6_4] w fun t106 w =>
            R (.returned (.tuple #[t106, (.int .i64 0)])) w
          )
      )
  )

def A45 : Ann where
  live := fun
    | 0 => [6, 7]
    | 2 => [6, 8]
    | 4 => [6, 9]
    | 6 => [6, 12]
    | 8 => [6, 13]
    | _ => []
  wr := fun
    | 0 => fun i => (Nat.ble 6 i && Nat.ble i 10) || (Nat.ble 24 i && Nat.ble i 73)
    | 2 => fun i => Nat.beq i 6 || Nat.beq i 8 || (Nat.ble 30 i && Nat.ble i 51)
    | 4 => fun i => Nat.beq i 6 || (Nat.ble 9 i && Nat.ble i 10) || (Nat.ble 52 i && Nat.ble i 73)
    | 6 => fun i => Nat.beq i 6 || (Nat.ble 12 i && Nat.ble i 14) || (Nat.ble 77 i && Nat.ble i 104)
    | 8 => fun i => Nat.beq i 6 || (Nat.ble 13 i && Nat.ble i 14) || (Nat.ble 83 i && Nat.ble i 104)
    | _ => fun _ => false
  sched := fun _ => .done

set_option maxRecDepth 100000 in
theorem ok45 : (codeOk Try.f45.ntmps A45 (Try.f45.body.getD .skip) 0 && Nat.ble 2 Try.f45.ntmps) = true := by kernel_rfl
set_option maxRecDepth 100000 in
theorem lift45 {t0 t1 : Value} {w : World} {R : Ending → World → Prop} (h : S45 t0 t1 w R) : Calls Try.prog 45 #[t0, t1] w R :=
  calls_of_cw (fn := Try.f45) (c := Try.f45.body.getD .skip) A45 mixes Try.func45 (by kernel_rfl) ok45
    ((by kernel_rfl : (S45 t0 t1 w R) = cw Try.prog A45 (Try.f45.body.getD .skip) 0 (bodyQ Try.prog Try.f45 R) (frOf #[t0, t1]) w).mp h)

def S83 (t0 : Value) (w : World) (R : Ending → World → Prop) : Prop :=
  Loop2 (.slice none 0 0) (.int .i64 0) w fun _ t3 t4 w next =>
    ln1 t0 fun t9 =>
    binQ Try.prog w .lss 3 false t4 t9 fun t10 =>
    condW t10 (
      iaS 3 t0 t4 fun t16 =>
      ldN 3 w t16 fun t17 =>
      bsW Try.prog 62 1 [(0, t17)] w fun t18 w =>
      semW Try.prog (apS [62, 62] 62 [t3, t18]) w fun t19 w =>
      ln1 t19 fun t21 =>
      binQ Try.prog w .sub 3 true t21 (.int .i64 1) fun t22 =>
      Loop1 t22 w fun _ t5 w next_2 =>
        Drew w fun w =>
        binQ Try.prog w .gtr 3 true t5 (.int .i64 0) fun t24 =>
        gdQ t24 true (fun k => k t19) fun t26 =>
        gdQ t24 true (fun k => k t5) fun t27 =>
        gdQ t24 true (fun k => iaS 3 t26 t27 k) fun t28 =>
        gdQ t24 true (fun k => ldN 3 w t28 k) fun t29 =>
        gdQ t24 true (fun k => k t19) fun t30 =>
        gdQ t24 true (fun k => k t5) fun t31 =>
        gdQ t24 true (fun k => binQ Try.prog w .sub 3 true t31 (.int .i64 1) k) fun t32 =>
        gdQ t24 true (fun k => iaS 3 t30 t32 k) fun t33 =>
        gdQ t24 true (fun k => ldN 3 w t33 k) fun t34 =>
        gd t24 true (fun k => callW Try.prog (.func (.func 94) #[] #[]) [t29, t34] w k) w fun t35 w =>
        pickQ t24 t35 (.bool false) fun t36 =>
        condW t36 (
          iaS 3 t19 t5 fun t41 =>
          ldN 3 w t41 fun t42 =>
          boxW 68 (.agg #[(.int .i64 0), (.int .i64 0), (.int .i64 0)]) w fun t6 w =>
          stW Try.prog 68 t6 t42 w fun w =>
          binQ Try.prog w .sub 3 true t5 (.int .i64 1) fun t47 =>
          iaS 3 t19 t47 fun t48 =>
          ldN 3 w t48 fun t49 =>
          iaS 3 t19 t5 fun t50 =>
          stW Try.prog 68 t50 t49 w fun w =>
          binQ Try.prog w .sub 3 true t5 (.int .i64 1) fun t53 =>
          ldN 3 w t6 fun t54 =>
          iaS 3 t19 t53 fun t55 =>
          stW Try.prog 68 t55 t54 w fun w =>
          binQ Try.prog w .sub 3 true t5 (.int .i64 1) fun t38 =>
          next_2 t38 w
        ) (
          binQ Try.prog w .add 3 true t4 (.int .i64 1) fun t12 =>
          next t19 t12 w
        )
    ) (
      R (.returned t3) w
    )

def A83 : Ann where
  live := fun
    | 0 => [3, 4]
    | 2 => [5]
    | _ => []
  wr := fun
    | 0 => fun i => (Nat.ble 3 i && Nat.ble i 55)
    | 2 => fun i => (Nat.ble 5 i && Nat.ble i 6) || (Nat.ble 23 i && Nat.ble i 55)
    | _ => fun _ => false
  sched := fun
    | 7 => (.take 0 (.take 1 (.take 2 (.take 3 (.take 4 (.take 5 (.take 6 (.take 7 (.take 8 (.take 9 (.take 10 (.take 11 (.bar 12 (.take 13 .done))))))))))))))
    | _ => .done

set_option maxRecDepth 100000 in
theorem ok83 : (codeOk Try.f83.ntmps A83 (Try.f83.body.getD .skip) 0 && Nat.ble 1 Try.f83.ntmps) = true := by kernel_rfl
set_option maxRecDepth 100000 in
theorem lift83 {t0 : Value} {w : World} {R : Ending → World → Prop} (h : S83 t0 w R) : Calls Try.prog 83 #[t0] w R :=
  calls_of_cw (fn := Try.f83) (c := Try.f83.body.getD .skip) A83 mixes Try.func83 (by kernel_rfl) ok83
    ((by kernel_rfl : (S83 t0 w R) = cw Try.prog A83 (Try.f83.body.getD .skip) 0 (bodyQ Try.prog Try.f83 R) (frOf #[t0]) w).mp h)

def S94 (t0 t1 : Value) (w : World) (R : Ending → World → Prop) : Prop :=
  boxW 68 t0 w fun t2 w =>
  boxW 68 t1 w fun t3 w =>
  fa1 t2 0 fun t5 =>
  ld1 w t5 fun t6 =>
  fa1 t3 0 fun t7 =>
  ld1 w t7 fun t8 =>
  binQ Try.prog w .neq 3 false t6 t8 fun t9 =>
  condW t9 (
    fa1 t2 0 fun t10 =>
    ld1 w t10 fun t11 =>
    fa1 t3 0 fun t12 =>
    ld1 w t12 fun t13 =>
    binQ Try.prog w .lss 3 false t11 t13 fun t14 =>
    R (.returned t14) w
  ) (
    fa1 t2 1 fun t15 =>
    ld1 w t15 fun t16 =>
    fa1 t3 1 fun t17 =>
    ld1 w t17 fun t18 =>
    binQ Try.prog w .lss 3 false t16 t18 fun t19 =>
    gd t19 false (fun k => fa1 t2 1 fun v => k v w) w fun t21 w =>
    gd t19 false (fun k => ld1 w t21 fun v => k v w) w fun t22 w =>
    gd t19 false (fun k => fa1 t3 1 fun v => k v w) w fun t23 w =>
    gd t19 false (fun k => ld1 w t23 fun v => k v w) w fun t24 w =>
    gd t19 false (fun k => binQ Try.prog w .eql 3 false t22 t24 fun v => k v w) w fun t25 w =>
    gd t19 false (fun k => k t25 w) w fun t26 w =>
    gd t26 true (fun k => fa1 t2 2 fun v => k v w) w fun t27 w =>
    gd t26 true (fun k => ld1 w t27 fun v => k v w) w fun t28 w =>
    gd t26 true (fun k => fa1 t3 2 fun v => k v w) w fun t29 w =>
    gd t26 true (fun k => ld1 w t29 fun v => k v w) w fun t30 w =>
    gd t26 true (fun k => binQ Try.prog w .lss 3 false t28 t30 fun v => k v w) w fun t31 w =>
    gd t19 false (fun k => pickQ t26 t31 (.bool false) fun v => k v w) w fun t32 w =>
    pickQ t19 (.bool true) t32 fun t33 =>
    R (.returned t33) w
  )

def A94 : Ann where
  live := fun _ => []
  wr := fun _ _ => false
  sched := fun _ => .done

set_option maxRecDepth 100000 in
theorem ok94 : (codeOk Try.f94.ntmps A94 (Try.f94.body.getD .skip) 0 && Nat.ble 2 Try.f94.ntmps) = true := by kernel_rfl
set_option maxRecDepth 100000 in
theorem lift94 {t0 t1 : Value} {w : World} {R : Ending → World → Prop} (h : S94 t0 t1 w R) : Calls Try.prog 94 #[t0, t1] w R :=
  calls_of_cw (fn := Try.f94) (c := Try.f94.body.getD .skip) A94 mixes Try.func94 (by kernel_rfl) ok94
    ((by kernel_rfl : (S94 t0 t1 w R) = cw Try.prog A94 (Try.f94.body.getD .skip) 0 (bodyQ Try.prog Try.f94 R) (frOf #[t0, t1]) w).mp h)

def S46 (t0 t1 : Value) (w : World) (R : Ending → World → Prop) : Prop :=
  ln1 t0 fun t7 =>
  ln1 t1 fun t9 =>
  binQ Try.prog w .neq 3 false t7 t9 fun t10 =>
  condW t10 (
    R (.returned (.bool false)) w
  ) (
    Loop1 (.int .i64 0) w fun _ t5 w next =>
      ln1 t0 fun t13 =>
      binQ Try.prog w .lss 3 false t5 t13 fun t14 =>
      condW t14 (
        Drew w fun w =>
        iaS 2 t0 t5 fun t19 =>
        ldN 2 w t19 fun t20 =>
        iaS 2 t1 t5 fun t23 =>
        ldN 2 w t23 fun t24 =>
        binQ Try.prog w .neq 35 false t20 t24 fun t25 =>
        condW t25 (
          R (.returned (.bool false)) w
        ) (
          binQ Try.prog w .add 3 true t5 (.int .i64 1) fun t16 =>
          next t16 w
        )
      ) (
        R (.returned (.bool true)) w
      )
  )

def A46 : Ann where
  live := fun
    | 0 => [5]
    | _ => []
  wr := fun
    | 0 => fun i => (Nat.ble 4 i && Nat.ble i 5) || (Nat.ble 11 i && Nat.ble i 25)
    | _ => fun _ => false
  sched := fun
    | 6 => (.take 0 (.take 1 (.take 2 (.take 3 (.take 4 (.take 5 (.take 6 (.take 7 (.take 8 .done)))))))))
    | _ => .done

set_option maxRecDepth 100000 in
theorem ok46 : (codeOk Try.f46.ntmps A46 (Try.f46.body.getD .skip) 0 && Nat.ble 2 Try.f46.ntmps) = true := by kernel_rfl
set_option maxRecDepth 100000 in
theorem lift46 {t0 t1 : Value} {w : World} {R : Ending → World → Prop} (h : S46 t0 t1 w R) : Calls Try.prog 46 #[t0, t1] w R :=
  calls_of_cw (fn := Try.f46) (c := Try.f46.body.getD .skip) A46 mixes Try.func46 (by kernel_rfl) ok46
    ((by kernel_rfl : (S46 t0 t1 w R) = cw Try.prog A46 (Try.f46.body.getD .skip) 0 (bodyQ Try.prog Try.f46 R) (frOf #[t0, t1]) w).mp h)

def S42 (t0 t1 : Value) (w : World) (R : Ending → World → Prop) : Prop :=
  ln1 t0 fun t7 =>
  ln1 t1 fun t9 =>
  binQ Try.prog w .neq 3 false t7 t9 fun t10 =>
  condW t10 (
    R (.returned (.bool false)) w
  ) (
    Loop1 (.int .i64 0) w fun _ t5 w next =>
      ln1 t0 fun t13 =>
      binQ Try.prog w .lss 3 false t5 t13 fun t14 =>
      condW t14 (
        Drew w fun w =>
        iaS 3 t0 t5 fun t19 =>
        ldN 3 w t19 fun t20 =>
        iaS 3 t1 t5 fun t23 =>
        ldN 3 w t23 fun t24 =>
        binQ Try.prog w .neq 68 false t20 t24 fun t25 =>
        condW t25 (
          R (.returned (.bool false)) w
        ) (
          binQ Try.prog w .add 3 true t5 (.int .i64 1) fun t16 =>
          next t16 w
        )
      ) (
        R (.returned (.bool true)) w
      )
  )

def A42 : Ann where
  live := fun
    | 0 => [5]
    | _ => []
  wr := fun
    | 0 => fun i => (Nat.ble 4 i && Nat.ble i 5) || (Nat.ble 11 i && Nat.ble i 25)
    | _ => fun _ => false
  sched := fun
    | 6 => (.take 0 (.take 1 (.take 2 (.take 3 (.take 4 (.take 5 (.take 6 (.take 7 (.take 8 .done)))))))))
    | _ => .done

set_option maxRecDepth 100000 in
theorem ok42 : (codeOk Try.f42.ntmps A42 (Try.f42.body.getD .skip) 0 && Nat.ble 2 Try.f42.ntmps) = true := by kernel_rfl
set_option maxRecDepth 100000 in
theorem lift42 {t0 t1 : Value} {w : World} {R : Ending → World → Prop} (h : S42 t0 t1 w R) : Calls Try.prog 42 #[t0, t1] w R :=
  calls_of_cw (fn := Try.f42) (c := Try.f42.body.getD .skip) A42 mixes Try.func42 (by kernel_rfl) ok42
    ((by kernel_rfl : (S42 t0 t1 w R) = cw Try.prog A42 (Try.f42.body.getD .skip) 0 (bodyQ Try.prog Try.f42 R) (frOf #[t0, t1]) w).mp h)

def S43 (t0 t1 : Value) (w : World) (R : Ending → World → Prop) : Prop :=
  Loop2 (.int .i64 0) (.int .i64 0) w fun _ t5 t6 w next =>
    ln1 t0 fun t11 =>
    binQ Try.prog w .lss 3 false t6 t11 fun t12 =>
    condW t12 (
      Loop2 (.bool false) (.int .i64 0) w fun _ t7 t8 w next_2 =>
        ln1 t1 fun t17 =>
        binQ Try.prog w .lss 3 false t8 t17 fun t18 =>
        condW t18 (
          Drew w fun w =>
          gdQ t7 false (fun k => k t0) fun t23 =>
          gdQ t7 false (fun k => k t6) fun t24 =>
          gdQ t7 false (fun k => iaS 3 t23 t24 k) fun t25 =>
          gdQ t7 false (fun k => ldN 3 w t25 k) fun t26 =>
          gdQ t7 false (fun k => k t1) fun t27 =>
          gdQ t7 false (fun k => k t8) fun t28 =>
          gdQ t7 false (fun k => iaS 3 t27 t28 k) fun t29 =>
          gdQ t7 false (fun k => ldN 3 w t29 k) fun t30 =>
          gdQ t7 false (fun k => binQ Try.prog w .eql 68 false t26 t30 k) fun t31 =>
          pickQ t7 (.bool true) t31 fun t32 =>
          binQ Try.prog w .add 3 true t8 (.int .i64 1) fun t20 =>
          next_2 t32 t20 w
        ) (
          unQ .not t7 fun t34 =>
          Join (fun (k_2 : Value → World → Prop) =>
            condW t34 (
              binQ Try.prog w .add 3 true t5 (.int .i64 1) fun t36 =>
              k_2 t36 w
            ) (
              k_2 t5 w
            )
          ) fun t5_2 w =>
          binQ Try.prog w .add 3 true t6 (.int .i64 1) fun t14_2 =>
          next t5_2 t14_2 w
        )
    ) (
      R (.returned t5) w
    )

def A43 : Ann where
  live := fun
    | 0 => [5, 6]
    | 2 => [7, 8]
    | _ => []
  wr := fun
    | 0 => fun i => (Nat.ble 5 i && Nat.ble i 36)
    | 2 => fun i => (Nat.ble 7 i && Nat.ble i 8) || (Nat.ble 15 i && Nat.ble i 32)
    | _ => fun _ => false
  sched := fun
    | 9 => (.take 0 (.take 1 (.take 2 (.take 3 (.take 4 (.take 5 (.take 6 (.take 7 (.take 8 (.take 9 (.take 10 (.take 11 (.take 12 .done)))))))))))))
    | _ => .done

set_option maxRecDepth 100000 in
theorem ok43 : (codeOk Try.f43.ntmps A43 (Try.f43.body.getD .skip) 0 && Nat.ble 2 Try.f43.ntmps) = true := by kernel_rfl
set_option maxRecDepth 100000 in
theorem lift43 {t0 t1 : Value} {w : World} {R : Ending → World → Prop} (h : S43 t0 t1 w R) : Calls Try.prog 43 #[t0, t1] w R :=
  calls_of_cw (fn := Try.f43) (c := Try.f43.body.getD .skip) A43 mixes Try.func43 (by kernel_rfl) ok43
    ((by kernel_rfl : (S43 t0 t1 w R) = cw Try.prog A43 (Try.f43.body.getD .skip) 0 (bodyQ Try.prog Try.f43 R) (frOf #[t0, t1]) w).mp h)

def S44 (t0 t1 : Value) (w : World) (R : Ending → World → Prop) : Prop :=
  boxW 25 t0 w fun t2 w =>
  ldN 3 w t2 fun t12 =>
  callW Try.prog (.func (.func 62) #[] #[]) [t12] w fun t13 w =>
  unQ .not t13 fun t14 =>
  gd t14 false (fun k => ldN 3 w t2 fun v => k v w) w fun t16 w =>
  gd t14 false (fun k => k t1 w) w fun t17 w =>
  gd t14 false (fun k => callW Try.prog (.func (.func 15) #[] #[]) [t16, t17] w k) w fun t18 w =>
  gd t14 false (fun k => unQ .not t18 fun v => k v w) w fun t19 w =>
  pickQ t14 (.bool true) t19 fun t20 =>
  condW t20 (
    R (.returned (.tuple #[(.slice none 0 0), (.slice none 0 0), (.int .i64 2)])) w
  ) (
    callW Try.prog (.func (.func 22) #[] #[]) [t1] w fun t22 w =>
    Loop3 (.slice none 0 0) (.slice none 0 0) (.int .i64 0) w fun _ t7 t8 t10 w next =>
      fa1 t2 0 fun t24 =>
      ld1 w t24 fun t25 =>
      binQ Try.prog w .lss 3 false t10 t25 fun t26 =>
      condW t26 (
        Loop3 t7 t8 (.int .i64 0) w fun _ t7_2 t8_2 t11 w next_2 =>
          fa1 t2 1 fun t30 =>
          ld1 w t30 fun t31 =>
          binQ Try.prog w .lss 3 false t11 t31 fun t32 =>
          condW t32 (
            iaS 1 t22 t10 fun t37 =>
            ld1 w t37 fun t38 =>
            iaS 1 t38 t11 fun t40 =>
            ld1 w t40 fun t41 =>
            binQ Try.prog w .add 3 true t41 (.int .i64 1) fun t42 =>
            iaS 1 t38 t11 fun t43 =>
            stW Try.prog 3 t43 t42 w fun w =>
            ldN 3 w t2 fun t44 =>
            callW Try.prog (.func (.func 15) #[] #[]) [t44, t22] w fun t46 w =>
            Join (fun (k_3 : Value → World → Prop) =>
              condW t46 (
                bdQ Try.prog 35 [(0, t11), (1, t10)] fun t50 =>
                bsW Try.prog 30 1 [(0, t50)] w fun t51 w =>
                semW Try.prog (apS [30, 30] 30 [t7_2, t51]) w fun t52 w =>
                k_3 t52 w
              ) (
                k_3 t7_2 w
              )
            ) fun t7_3 w =>
            iaS 1 t22 t10 fun t55_2 =>
            ld1 w t55_2 fun t56_2 =>
            iaS 1 t56_2 t11 fun t58_2 =>
            ld1 w t58_2 fun t59_2 =>
            binQ Try.prog w .sub 3 true t59_2 (.int .i64 2) fun t60_2 =>
            iaS 1 t56_2 t11 fun t61_2 =>
            stW Try.prog 3 t61_2 t60_2 w fun w =>
            ldN 3 w t2 fun t62_2 =>
            callW Try.prog (.func (.func 15) #[] #[]) [t62_2, t22] w fun t64_2 w =>
            Join (fun (k_4 : Value → World → Prop) =>
              condW t64_2 (
                bdQ Try.prog 35 [(0, t11), (1, t10)] fun t68_2 =>
                bsW Try.prog 30 1 [(0, t68_2)] w fun t69_2 w =>
                semW Try.prog (apS [30, 30] 30 [t8_2, t69_2]) w fun t70_2 w =>
                k_4 t70_2 w
              ) (
                k_4 t8_2 w
              )
            ) fun t8_4 w =>
            iaS 1 t22 t10 fun t73_4 =>
            ld1 w t73_4 fun t74_4 =>
            iaS 1 t74_4 t11 fun t76_4 =>
            ld1 w t76_4 fun t77_4 =>
            binQ Try.prog w .add 3 true t77_4 (.int .i64 1) fun t78_4 =>
            iaS 1 t74_4 t11 fun t79_4 =>
            stW Try.prog 3 t79_4 t78_4 w fun w =>
            binQ Try.prog w .add 3 true t11 (.int .i64 1) fun t34_4 =>
            next_2 t7_3 t8_4 t34_4 w
          ) (
            binQ Try.prog w .add 3 true t10 (.int .i64 1) fun t28 =>
            next t7_2 t8_2 t28 w
          )
      ) (
        R (.returned (.tuple #[t7, t8, (.int .i64 0)])) w
      )
  )

def A44 : Ann where
  live := fun
    | 0 => [7, 8, 10]
    | 2 => [7, 8, 11]
    | _ => []
  wr := fun
    | 0 => fun i => (Nat.ble 7 i && Nat.ble i 8) || (Nat.ble 10 i && Nat.ble i 11) || (Nat.ble 23 i && Nat.ble i 79)
    | 2 => fun i => (Nat.ble 7 i && Nat.ble i 8) || Nat.beq i 11 || (Nat.ble 29 i && Nat.ble i 79)
    | _ => fun _ => false
  sched := fun _ => .done

set_option maxRecDepth 100000 in
theorem ok44 : (codeOk Try.f44.ntmps A44 (Try.f44.body.getD .skip) 0 && Nat.ble 2 Try.f44.ntmps) = true := by kernel_rfl
set_option maxRecDepth 100000 in
theorem lift44 {t0 t1 : Value} {w : World} {R : Ending → World → Prop} (h : S44 t0 t1 w R) : Calls Try.prog 44 #[t0, t1] w R :=
  calls_of_cw (fn := Try.f44) (c := Try.f44.body.getD .skip) A44 mixes Try.func44 (by kernel_rfl) ok44
    ((by kernel_rfl : (S44 t0 t1 w R) = cw Try.prog A44 (Try.f44.body.getD .skip) 0 (bodyQ Try.prog Try.f44 R) (frOf #[t0, t1]) w).mp h)

def S79 (t0 t1 : Value) (w : World) (R : Ending → World → Prop) : Prop :=
  boxW 68 t0 w fun t2 w =>
  boxW 68 t1 w fun t3 w =>
  Drew w fun w =>
  fa1 t2 0 fun t5 =>
  ld1 w t5 fun t6 =>
  fa1 t3 0 fun t7 =>
  ld1 w t7 fun t8 =>
  fa1 t2 1 fun t10 =>
  ld1 w t10 fun t11 =>
  fa1 t3 1 fun t12 =>
  ld1 w t12 fun t13 =>
  fa1 t2 2 fun t15 =>
  ld1 w t15 fun t16 =>
  fa1 t3 2 fun t17 =>
  ld1 w t17 fun t18 =>
  callW Try.prog (.func (.func 81) #[] #[]) [t6, t8] w <| keepB w fun t9 w =>
  callW Try.prog (.func (.func 81) #[] #[]) [t11, t13] w <| keepB w fun t14 w =>
  callW Try.prog (.func (.func 81) #[] #[]) [t16, t18] w fun t19 w =>
  bsW Try.prog 36 3 [(0, t9), (1, t14), (2, t19)] w fun t20 w =>
  callW Try.prog (.func (.func 80) #[] #[]) [t20] w fun t21 w =>
  R (.returned t21) w

def A79 : Ann where
  live := fun _ => []
  wr := fun _ _ => false
  sched := fun
    | 1 => (.take 0 (.take 1 (.take 2 (.take 3 (.take 5 (.take 6 (.take 7 (.take 8 (.take 10 (.take 11 (.take 12 (.take 13 (.eff 4 (.eff 9 (.bar 14 (.bar 15 (.bar 16 (.take 17 .done))))))))))))))))))
    | _ => .done

set_option maxRecDepth 100000 in
theorem ok79 : (codeOk Try.f79.ntmps A79 (Try.f79.body.getD .skip) 0 && Nat.ble 2 Try.f79.ntmps) = true := by kernel_rfl
set_option maxRecDepth 100000 in
theorem lift79 {t0 t1 : Value} {w : World} {R : Ending → World → Prop} (h : S79 t0 t1 w R) : Calls Try.prog 79 #[t0, t1] w R :=
  calls_of_cw (fn := Try.f79) (c := Try.f79.body.getD .skip) A79 mixes Try.func79 (by kernel_rfl) ok79
    ((by kernel_rfl : (S79 t0 t1 w R) = cw Try.prog A79 (Try.f79.body.getD .skip) 0 (bodyQ Try.prog Try.f79 R) (frOf #[t0, t1]) w).mp h)

def S80 (t0 : Value) (w : World) (R : Ending → World → Prop) : Prop :=
  ln1 t0 fun t7 =>
  Loop1 (.int .i64 0) w fun _ t8 w next =>
    binQ Try.prog w .lss 3 false t8 t7 fun t9 =>
    condW t9 (
      iaS 1 t0 t8 fun t10 =>
      ld1 w t10 fun t11 =>
      binQ Try.prog w .neq 3 false t11 (.int .i64 0) fun t14 =>
      condW t14 (
        R (.returned t11) w
      ) (
        binQ Try.prog w .add 3 true t8 (.int .i64 1) fun t16 =>
        next t16 w
      )
    ) (
      R (.returned (.int .i64 0)) w
    )

def A80 : Ann where
  live := fun
    | 0 => [8]
    | _ => []
  wr := fun
    | 0 => fun i => Nat.beq i 2 || Nat.beq i 5 || (Nat.ble 8 i && Nat.ble i 16)
    | _ => fun _ => false
  sched := fun _ => .done

set_option maxRecDepth 100000 in
theorem ok80 : (codeOk Try.f80.ntmps A80 (Try.f80.body.getD .skip) 0 && Nat.ble 1 Try.f80.ntmps) = true := by kernel_rfl
set_option maxRecDepth 100000 in
theorem lift80 {t0 : Value} {w : World} {R : Ending → World → Prop} (h : S80 t0 w R) : Calls Try.prog 80 #[t0] w R :=
  calls_of_cw (fn := Try.f80) (c := Try.f80.body.getD .skip) A80 mixes Try.func80 (by kernel_rfl) ok80
    ((by kernel_rfl : (S80 t0 w R) = cw Try.prog A80 (Try.f80.body.getD .skip) 0 (bodyQ Try.prog Try.f80 R) (frOf #[t0]) w).mp h)

theorem fok41 : fnOk Try.prog 41 = true := by kernel_rfl
theorem fok45 : fnOk Try.prog 45 = true := by kernel_rfl
theorem fok83 : fnOk Try.prog 83 = true := by kernel_rfl
theorem fok94 : fnOk Try.prog 94 = true := by kernel_rfl
theorem fok46 : fnOk Try.prog 46 = true := by kernel_rfl
theorem fok42 : fnOk Try.prog 42 = true := by kernel_rfl
theorem fok43 : fnOk Try.prog 43 = true := by kernel_rfl
theorem fok44 : fnOk Try.prog 44 = true := by kernel_rfl
theorem fok79 : fnOk Try.prog 79 = true := by kernel_rfl
theorem fok80 : fnOk Try.prog 80 = true := by kernel_rfl
end Go.Proofs.Ytaephdjmpmbfpaa

/- Lozenges: their order, lists of them in memory. -/
namespace Go.Proofs.Ytaephdjmpmbfpaa
open Go.Lf Go.RowKit Go.Hp

abbrev Loz := Int × Int × Int

def lzLt (a b : Loz) : Bool := decide (a.1 < b.1 ∨ a.1 = b.1 ∧ (a.2.1 < b.2.1 ∨ a.2.1 = b.2.1 ∧ a.2.2 < b.2.2))
theorem lzLt_iff {a b : Loz} : lzLt a b = true ↔ a.1 < b.1 ∨ a.1 = b.1 ∧ (a.2.1 < b.2.1 ∨ a.2.1 = b.2.1 ∧ a.2.2 < b.2.2) := by simp [lzLt]
theorem lzLt_not {a b : Loz} : lzLt a b = false ↔ ¬ (a.1 < b.1 ∨ a.1 = b.1 ∧ (a.2.1 < b.2.1 ∨ a.2.1 = b.2.1 ∧ a.2.2 < b.2.2)) := by simp [lzLt]
theorem loz_ext {a b : Loz} (h1 : a.1 = b.1) (h2 : a.2.1 = b.2.1) (h3 : a.2.2 = b.2.2) : a = b := by
  obtain ⟨a1, a2, a3⟩ := a
  obtain ⟨b1, b2, b3⟩ := b
  simp at h1 h2 h3
  subst h1; subst h2; subst h3; rfl
theorem lzLt_anti {a b : Loz} (h1 : lzLt b a = false) (h2 : lzLt a b = false) : a = b := by
  rw [lzLt_not] at h1 h2
  exact loz_ext (by omega) (by omega) (by omega)
theorem lzLe_trans {a b c : Loz} (h1 : lzLt b a = false) (h2 : lzLt c b = false) : lzLt c a = false := by
  rw [lzLt_not] at *
  omega
theorem lzLt_le {a b : Loz} (h : lzLt a b = true) : lzLt b a = false := by
  rw [lzLt_iff] at h
  rw [lzLt_not]
  omega

def lzSort (l : List Loz) : List Loz := l.mergeSort fun x y => !lzLt y x
theorem lzSort_perm (l : List Loz) : (lzSort l).Perm l := List.mergeSort_perm _ _
theorem lzSort_sorted (l : List Loz) : (lzSort l).Pairwise fun x y => lzLt y x = false := by
  have h := List.pairwise_mergeSort (le := fun x y : Loz => !lzLt y x) (fun a b c h1 h2 => by
    simp only [Bool.not_eq_true'] at *
    exact lzLe_trans h1 h2) (fun a b => by
    cases h : lzLt b a
    · simp
    · simp [lzLt_le h]) l
  exact h.imp fun h => by simpa using h
theorem lzSort_unique {l l' : List Loz} (hp : l'.Perm l) (hs : l'.Pairwise fun x y => lzLt y x = false) : l' = lzSort l := by
  refine List.Perm.eq_of_pairwise (le := fun x y => lzLt y x = false) ?_ hs (lzSort_sorted l) (hp.trans (lzSort_perm l).symm)
  intro a b _ _ h1 h2
  exact lzLt_anti h1 h2
theorem lzSort_congr {l l' : List Loz} (hp : l'.Perm l) : lzSort l' = lzSort l := lzSort_unique ((lzSort_perm l').trans hp) (lzSort_sorted l')

/-! ### in memory -/

def lozC (p : Loz) : List Value := [.int .i64 p.1, .int .i64 p.2.1, .int .i64 p.2.2]
abbrev lozV (p : Loz) : Value := .agg #[.int .i64 p.1, .int .i64 p.2.1, .int .i64 p.2.2]
def lozCells (P : List Loz) : List Value := P.flatMap lozC
theorem lozCells_append (P Q : List Loz) : lozCells (P ++ Q) = lozCells P ++ lozCells Q := by simp [lozCells]
theorem lozCells_length : ∀ P : List Loz, (lozCells P).length = P.length * 3
  | [] => rfl
  | p :: P => by
    have := lozCells_length P
    simp only [lozCells, List.flatMap_cons, List.length_append, List.length_cons] at *
    rw [this]
    simp [lozC]
    omega
theorem lozCells_drop : ∀ (P : List Loz) (q : Nat) (p : Loz), P[q]? = some p → ((lozCells P).drop (q * 3)).take 3 = lozC p
  | p :: P, 0, _, h => by cases h; rfl
  | p' :: P, q + 1, p, h => by
    have := lozCells_drop P q p (by simpa using h)
    rw [show (q + 1) * 3 = q * 3 + 3 by omega]
    simpa [lozCells, lozC] using this
theorem lozCells_set : ∀ (P : List Loz) (q : Nat) (p : Loz), q < P.length → (lozCells P).take (q * 3) ++ lozC p ++ (lozCells P).drop (q * 3 + 3) = lozCells (P.set q p)
  | p' :: P, 0, p, _ => by simp [lozCells, lozC]
  | p' :: P, q + 1, p, h => by
    have := lozCells_set P q p (by simpa using h)
    have e : (q + 1) * 3 = q * 3 + 3 := by omega
    simp only [lozCells, List.flatMap_cons, List.set_cons_succ] at this ⊢
    rw [← this, e]
    simp [lozC]

/-- The slice v holds lozenges, in a block of its own. -/
def LozAt (base : Nat) (w : World) (v : Value) (P : List Loz) : Prop := w.ownsRow base 68 3 v P.length (lozCells P)

theorem LozAt.kp {base : Nat} {w w' : World} {v : Value} {P : List Loz} (h : LozAt base w v P) (hk : Kp w w') : LozAt base w' v P := owns_kp h hk
theorem LozAt.nil (base : Nat) (w : World) : LozAt base w nilS [] := World.ownsRow_nil _ _ _ _
theorem LozAt.len {base : Nat} {w : World} {v : Value} {P : List Loz} (h : LozAt base w v P) : ∃ a cap, v = .slice a P.length cap := by
  rcases h.2 with ⟨rfl, hn⟩ | ⟨g, cap, cur, e, _⟩
  · exact ⟨none, 0, by rw [hn]⟩
  · exact ⟨_, _, e⟩
theorem LozAt.down {base base' : Nat} {w : World} {v : Value} {P : List Loz} (h : LozAt base w v P) (hb : base' ≤ base) : LozAt base' w v P :=
  ⟨h.1, h.2.imp id fun ⟨g, cap, cur, r1, r2, r3⟩ => ⟨g, cap, cur, r1, by omega, r3⟩⟩

theorem LozAt.blk {base : Nat} {w : World} {v : Value} {P : List Loz} (h : LozAt base w v P) (h0 : 0 < P.length) :
    ∃ g cap cur, v = .slice (some ⟨g, 0, none⟩) P.length cap ∧ base ≤ g ∧ w.heap[g]? = some (.cells cur 68 (0, 0)) ∧ P.length ≤ cap ∧ cap ≤ maxLen ∧ cur.size = cap * 3 ∧ cur.toList.take (P.length * 3) = lozCells P := by
  rcases h.2 with ⟨_, hn⟩ | ⟨g, cap, cur, r⟩
  · omega
  · exact ⟨g, cap, cur, r⟩

/-- Reading place q of a block of lozenges. -/
theorem r_ldLoz {w : World} {g cap q : Nat} {cur : Array Value} {P : List Loz} {p : Loz} (hg : w.heap[g]? = some (.cells cur 68 (0, 0))) (hle : P.length ≤ cap) (hs : cur.size = cap * 3) (ht : cur.toList.take (P.length * 3) = lozCells P)
    (hq : P[q]? = some p) (K : Value → Prop) : ldN 3 w (.pointer (some ⟨g, q * 3, none⟩)) K = K (lozV p) := by
  have hlt : q < P.length := by
    rw [List.getElem?_eq_some_iff] at hq
    exact hq.1
  refine r_ldAt (l := lozC p) hg (by omega) ?_
  rw [← lozCells_drop P q p hq]
  conv => rhs; rw [← ht]
  rw [List.drop_take, List.take_take, Nat.min_eq_left (by omega)]

theorem LozAt.at {base : Nat} {w : World} {v : Value} {P : List Loz} (h : LozAt base w v P) {q : Nat} {p : Loz} (hq : P[q]? = some p) :
    ∃ g cap, v = .slice (some ⟨g, 0, none⟩) P.length cap ∧ q < P.length ∧ ∀ K : Value → Prop, ldN 3 w (.pointer (some ⟨g, q * 3, none⟩)) K = K (lozV p) := by
  have hlt : q < P.length := by
    rw [List.getElem?_eq_some_iff] at hq
    exact hq.1
  obtain ⟨g, cap, cur, e, _, hg, hle, _, hs, ht⟩ := h.blk (by omega)
  exact ⟨g, cap, e, hlt, fun K => r_ldLoz hg hle hs ht hq K⟩

theorem slt62 : SlT 62 68 3 24 := SlT.mk' (z := .agg #[.int .i64 0, .int .i64 0, .int .i64 0]) (by kernel_rfl) (by kernel_rfl) rfl (by decide)
theorem bs62 (x y z : Int) (w : World) (K : Value → World → Prop) : bsW Try.prog 62 1 [(0, .agg #[.int .i64 x, .int .i64 y, .int .i64 z])] w K = K (.slice (some ⟨w.heap.size, 0, none⟩) 1 1) (w.alloc (.cells (Value.agg #[.int .i64 x, .int .i64 y, .int .i64 z]).cells 68)) := by kernel_rfl
theorem bd68 (x y z : Int) (K : Value → Prop) : bdQ Try.prog 68 [(0, .int .i64 x), (1, .int .i64 y), (2, .int .i64 z)] K = K (.agg #[.int .i64 x, .int .i64 y, .int .i64 z]) := by kernel_rfl

set_option maxRecDepth 100000 in
theorem r_pushLoz {w1 w : World} {ty : TypeId} {v : Value} {P : List Loz} {x y z : Int} {K : Value → World → Prop} (h : LozAt w1.heap.size w v P) (hn : P.length + 1 ≤ 1000000) (h1 : Kp w1 w)
    (hk : ∀ v' w', LozAt w1.heap.size w' v' (P ++ [(x, y, z)]) → Kp w1 w' → K v' w') :
    bsW Try.prog 62 1 [(0, .agg #[.int .i64 x, .int .i64 y, .int .i64 z])] w fun s w => semW Try.prog (apS [62, 62] ty [v, s]) w K :=
  r_push slt62 (bs62 _ _ _ _) rfl (by intro u hu; simp [Value.cells] at hu; rcases hu with rfl | rfl | rfl <;> rfl) h (by omega) (by omega) h1.size fun v' w' ho hg => by
    refine hk v' w' ?_ (Kp.of_chg h1 (Chg.of_grown (S := fun k => w1.heap.size ≤ k) hg fun k hk => (World.ownsRow.lt h k hk).1) fun i h => h)
    unfold LozAt
    rw [lozCells_append, List.length_append]
    simpa [Value.cells, lozCells, lozC] using ho

/-! ### equality of lozenges -/

theorem eq68 (a b c a' b' c' : Int) (w : World) : (Op.equalIn 10000 68 (lozV (a, b, c)) (lozV (a', b', c'))).run Try.prog w = .ok (a == a' && (b == b' && c == c')) w := by
  have u3 := Try.underlying3
  have a3 := Try.isAgg3
  have z3 := Try.sizeOf3
  have hS : Try.prog.underlying 68 = some (.struct (Try.prog.fieldsOf 68)) := by kernel_rfl
  have hp : Try.prog.stoodInHeld 68 = false := by kernel_rfl
  rw [show (10000 : Nat) = 9999 + 1 from rfl, run_equalIn_agg w 9999 68 _ _ hS hp]
  simp only [Program.fieldsOf, Try.underlying68]
  go_simp
  by_cases h1 : a = a' <;> by_cases h2 : b = b' <;> by_cases h3 : c = c' <;> simp [h1, h2, h3]

theorem eq68_bool (p q : Loz) : (p.1 == q.1 && (p.2.1 == q.2.1 && p.2.2 == q.2.2)) = decide (p = q) := by
  obtain ⟨a, b, c⟩ := p
  obtain ⟨a', b', c'⟩ := q
  by_cases h1 : a = a' <;> by_cases h2 : b = b' <;> by_cases h3 : c = c' <;> simp [h1, h2, h3]

theorem r_eq68 {w : World} {lit : Bool} (p q : Loz) (K : Value → Prop) : binQ Try.prog w .eql 68 lit (lozV p) (lozV q) K = K (.bool (decide (p = q))) := by
  have hg : Try.prog.eqGuardType Try.prog.depth 68 = false := by kernel_rfl
  have hrun : ∀ w, (semBin .eql 68 lit (lozV p) (lozV q)).run Try.prog w = .ok (.value (.bool (decide (p = q)))) w := fun w => by
    unfold semBin
    have := eq68 p.1 p.2.1 p.2.2 q.1 q.2.1 q.2.2 w
    rw [eq68_bool] at this
    simp [run_eqGuard_agg w _ _ _ _ _ _ hg, run_eql_struct, this]
  refine propext ⟨?_, fun h => ⟨_, fun w' _ => hrun w', h⟩⟩
  rintro ⟨v, hv, hk⟩
  have h1 := hv w (Below.refl _ _)
  rw [hrun] at h1
  injection h1 with h1 _
  injection h1 with h1
  rw [h1]; exact hk
theorem r_ne68 {w : World} {lit : Bool} (p q : Loz) (K : Value → Prop) : binQ Try.prog w .neq 68 lit (lozV p) (lozV q) K = K (.bool (!decide (p = q))) := by
  have hg : Try.prog.eqGuardType Try.prog.depth 68 = false := by kernel_rfl
  have hrun : ∀ w, (semBin .neq 68 lit (lozV p) (lozV q)).run Try.prog w = .ok (.value (.bool (!decide (p = q)))) w := fun w => by
    unfold semBin
    have := eq68 p.1 p.2.1 p.2.2 q.1 q.2.1 q.2.2 w
    rw [eq68_bool] at this
    simp [run_eqGuard_agg w _ _ _ _ _ _ hg, run_neq_struct, this]
  refine propext ⟨?_, fun h => ⟨_, fun w' _ => hrun w', h⟩⟩
  rintro ⟨v, hv, hk⟩
  have h1 := hv w (Below.refl _ _)
  rw [hrun] at h1
  injection h1 with h1 _
  injection h1 with h1
  rw [h1]; exact hk
theorem r_ne35 {w : World} {lit : Bool} (a b c d : Int) (K : Value → Prop) : binQ Try.prog w .neq 35 lit (.agg #[.int .i64 a, .int .i64 b]) (.agg #[.int .i64 c, .int .i64 d]) K = K (.bool (!(decide (a = c) && decide (b = d)))) := by
  have hg : Try.prog.eqGuardType Try.prog.depth 35 = false := by kernel_rfl
  have hrun : ∀ w, (semBin .neq 35 lit (.agg #[.int .i64 a, .int .i64 b]) (.agg #[.int .i64 c, .int .i64 d])).run Try.prog w = .ok (.value (.bool (!(decide (a = c) && decide (b = d))))) w := fun w => by
    unfold semBin
    simp [run_eqGuard_agg w _ _ _ _ _ _ hg, run_neq_struct, eq35]
    by_cases h1 : a = c <;> by_cases h2 : b = d <;> simp [h1, h2]
  refine propext ⟨?_, fun h => ⟨_, fun w' _ => hrun w', h⟩⟩
  rintro ⟨v, hv, hk⟩
  have h1 := hv w (Below.refl _ _)
  rw [hrun] at h1
  injection h1 with h1 _
  injection h1 with h1
  rw [h1]; exact hk

set_option maxRecDepth 100000 in
/-- floors: the same lozenges? -/
theorem floors_calls {b1 b2 : Nat} {v1 v2 : Value} {P Q : List Loz} {w : World} (h1 : LozAt b1 w v1 P) (h2 : LozAt b2 w v2 Q) (hP : P.length ≤ 1000000) (hQ : Q.length ≤ 1000000) : Calls Try.prog 42 #[v1, v2] w fun e w' => e = .returned (.bool (decide (P = Q))) ∧ Kp w w' := by
  obtain ⟨a1, c1, rfl⟩ := h1.len
  obtain ⟨a2, c2, rfl⟩ := h2.len
  refine lift42 ?_
  unfold S42
  by_cases hl : P.length = Q.length
  case neg =>
    have hl' : ¬ (P.length : Int) = (Q.length : Int) := by omega
    have hne : ¬ P = Q := fun e => hl (by rw [e])
    simp (disch := omega) only [r_ln, r_pick, r_pickT, r_pickF, r_condT, r_condF, r_gdTT, r_gdFF, r_gdTF, r_gdFT, r_gqTT, r_gqFF, r_gqTF, r_gqFT, r_not, r_lss, r_leq, r_gtr, r_geq, r_eql, r_neq, r_add, r_sub, r_min2, r_max2, r_min3, r_max3, r_fa, r_iaS, r_iaA, r_ex2a, r_ex2b, r_ex3a, r_ex3b, r_ex3c, r_nc, r_keepE, Nat.zero_add, Nat.add_zero, Nat.mul_one, Int.toNat_natCast, toNat_sub1, toNat_add1, decide_true, decide_false, Bool.not_true, Bool.not_false, if_true, if_false, Bool.false_eq_true, reduceCtorEq, hl', hne]
    exact ⟨trivial, Kp.refl _⟩
  have hl' : (P.length : Int) = (Q.length : Int) := by omega
  simp (disch := omega) only [r_ln, r_pick, r_pickT, r_pickF, r_condT, r_condF, r_gdTT, r_gdFF, r_gdTF, r_gdFT, r_gqTT, r_gqFF, r_gqTF, r_gqFT, r_not, r_lss, r_leq, r_gtr, r_geq, r_eql, r_neq, r_add, r_sub, r_min2, r_max2, r_min3, r_max3, r_fa, r_iaS, r_iaA, r_ex2a, r_ex2b, r_ex3a, r_ex3b, r_ex3c, r_nc, r_keepE, Nat.zero_add, Nat.add_zero, Nat.mul_one, Int.toNat_natCast, toNat_sub1, toNat_add1, decide_true, decide_false, Bool.not_true, Bool.not_false, if_true, if_false, Bool.false_eq_true, reduceCtorEq, hl']
  refine ⟨fun t5 wr => ∃ i : Nat, i ≤ P.length ∧ t5 = .int .i64 i ∧ P.take i = Q.take i ∧ Kp w wr, fun t5 _ => P.length - (intOf t5).toNat, ⟨0, by omega, rfl, rfl, Kp.refl _⟩, ?_⟩
  rintro _ _ wr ⟨i, hi, rfl, htk, hk⟩
  by_cases hlt : i < P.length
  case neg =>
    have hlt' : ¬ (i : Int) < (Q.length : Int) := by omega
    have e : P = Q := by rw [List.take_of_length_le (by omega), List.take_of_length_le (by omega)] at htk; exact htk
    simp (disch := omega) only [r_ln, r_pick, r_pickT, r_pickF, r_condT, r_condF, r_gdTT, r_gdFF, r_gdTF, r_gdFT, r_gqTT, r_gqFF, r_gqTF, r_gqFT, r_not, r_lss, r_leq, r_gtr, r_geq, r_eql, r_neq, r_add, r_sub, r_min2, r_max2, r_min3, r_max3, r_fa, r_iaS, r_iaA, r_ex2a, r_ex2b, r_ex3a, r_ex3b, r_ex3c, r_nc, r_keepE, Nat.zero_add, Nat.add_zero, Nat.mul_one, Int.toNat_natCast, toNat_sub1, toNat_add1, decide_true, decide_false, Bool.not_true, Bool.not_false, if_true, if_false, Bool.false_eq_true, reduceCtorEq, hlt', decide_eq_true e]
    exact ⟨trivial, hk⟩
  have hlt' : (i : Int) < (Q.length : Int) := by omega
  simp (disch := omega) only [r_ln, r_pick, r_pickT, r_pickF, r_condT, r_condF, r_gdTT, r_gdFF, r_gdTF, r_gdFT, r_gqTT, r_gqFF, r_gqTF, r_gqFT, r_not, r_lss, r_leq, r_gtr, r_geq, r_eql, r_neq, r_add, r_sub, r_min2, r_max2, r_min3, r_max3, r_fa, r_iaS, r_iaA, r_ex2a, r_ex2b, r_ex3a, r_ex3b, r_ex3c, r_nc, r_keepE, Nat.zero_add, Nat.add_zero, Nat.mul_one, Int.toNat_natCast, toNat_sub1, toNat_add1, decide_true, decide_false, Bool.not_true, Bool.not_false, if_true, if_false, Bool.false_eq_true, reduceCtorEq, hlt']
  refine r_drew fun wx kx _ => ?_
  have hkx := Kp.trans hk kx
  obtain ⟨p, hp⟩ : ∃ p, P[i]? = some p := ⟨_, List.getElem?_eq_getElem hlt⟩
  obtain ⟨q, hq⟩ : ∃ q, Q[i]? = some q := ⟨_, List.getElem?_eq_getElem (by omega)⟩
  obtain ⟨g1, _, e1, _, hr1⟩ := (h1.kp hkx).at hp
  obtain ⟨g2, _, e2, _, hr2⟩ := (h2.kp hkx).at hq
  cases e1
  injection e2 with e2 _ _
  subst e2
  by_cases hpq : p = q
  · simp (disch := omega) only [r_ln, r_pick, r_pickT, r_pickF, r_condT, r_condF, r_gdTT, r_gdFF, r_gdTF, r_gdFT, r_gqTT, r_gqFF, r_gqTF, r_gqFT, r_not, r_lss, r_leq, r_gtr, r_geq, r_eql, r_neq, r_add, r_sub, r_min2, r_max2, r_min3, r_max3, r_fa, r_iaS, r_iaA, r_ex2a, r_ex2b, r_ex3a, r_ex3b, r_ex3c, r_nc, r_keepE, Nat.zero_add, Nat.add_zero, Nat.mul_one, Int.toNat_natCast, toNat_sub1, toNat_add1, decide_true, decide_false, Bool.not_true, Bool.not_false, if_true, if_false, Bool.false_eq_true, reduceCtorEq, hr1, hr2, r_ne68, hpq]
    exact ⟨⟨i + 1, by omega, by go_num, by rw [List.take_succ, List.take_succ, hp, hq, htk, hpq], hkx⟩, by simp only [intOf]; omega⟩
  · have hne : ¬ P = Q := fun e => hpq (by rw [e, hq] at hp; exact (Option.some.inj hp).symm)
    simp (disch := omega) only [r_ln, r_pick, r_pickT, r_pickF, r_condT, r_condF, r_gdTT, r_gdFF, r_gdTF, r_gdFT, r_gqTT, r_gqFF, r_gqTF, r_gqFT, r_not, r_lss, r_leq, r_gtr, r_geq, r_eql, r_neq, r_add, r_sub, r_min2, r_max2, r_min3, r_max3, r_fa, r_iaS, r_iaA, r_ex2a, r_ex2b, r_ex3a, r_ex3b, r_ex3c, r_nc, r_keepE, Nat.zero_add, Nat.add_zero, Nat.mul_one, Int.toNat_natCast, toNat_sub1, toNat_add1, decide_true, decide_false, Bool.not_true, Bool.not_false, if_true, if_false, Bool.false_eq_true, reduceCtorEq, hr1, hr2, r_ne68, hpq, decide_eq_false hne]
    exact ⟨trivial, hkx⟩

set_option maxRecDepth 100000 in
/-- cells: the same places? -/
theorem cells_calls {b1 b2 : Nat} {v1 v2 : Value} {P Q : List (Nat × Nat)} {w : World} (h1 : CellsAt b1 w v1 P) (h2 : CellsAt b2 w v2 Q) (hP : P.length ≤ 1000000) (hQ : Q.length ≤ 1000000) : Calls Try.prog 46 #[v1, v2] w fun e w' => e = .returned (.bool (decide (P = Q))) ∧ Kp w w' := by
  obtain ⟨a1, c1, rfl⟩ := h1.len
  obtain ⟨a2, c2, rfl⟩ := h2.len
  refine lift46 ?_
  unfold S46
  by_cases hl : P.length = Q.length
  case neg =>
    have hl' : ¬ (P.length : Int) = (Q.length : Int) := by omega
    have hne : ¬ P = Q := fun e => hl (by rw [e])
    simp (disch := omega) only [r_ln, r_pick, r_pickT, r_pickF, r_condT, r_condF, r_gdTT, r_gdFF, r_gdTF, r_gdFT, r_gqTT, r_gqFF, r_gqTF, r_gqFT, r_not, r_lss, r_leq, r_gtr, r_geq, r_eql, r_neq, r_add, r_sub, r_min2, r_max2, r_min3, r_max3, r_fa, r_iaS, r_iaA, r_ex2a, r_ex2b, r_ex3a, r_ex3b, r_ex3c, r_nc, r_keepE, Nat.zero_add, Nat.add_zero, Nat.mul_one, Int.toNat_natCast, toNat_sub1, toNat_add1, decide_true, decide_false, Bool.not_true, Bool.not_false, if_true, if_false, Bool.false_eq_true, reduceCtorEq, hl', hne]
    exact ⟨trivial, Kp.refl _⟩
  have hl' : (P.length : Int) = (Q.length : Int) := by omega
  simp (disch := omega) only [r_ln, r_pick, r_pickT, r_pickF, r_condT, r_condF, r_gdTT, r_gdFF, r_gdTF, r_gdFT, r_gqTT, r_gqFF, r_gqTF, r_gqFT, r_not, r_lss, r_leq, r_gtr, r_geq, r_eql, r_neq, r_add, r_sub, r_min2, r_max2, r_min3, r_max3, r_fa, r_iaS, r_iaA, r_ex2a, r_ex2b, r_ex3a, r_ex3b, r_ex3c, r_nc, r_keepE, Nat.zero_add, Nat.add_zero, Nat.mul_one, Int.toNat_natCast, toNat_sub1, toNat_add1, decide_true, decide_false, Bool.not_true, Bool.not_false, if_true, if_false, Bool.false_eq_true, reduceCtorEq, hl']
  refine ⟨fun t5 wr => ∃ i : Nat, i ≤ P.length ∧ t5 = .int .i64 i ∧ P.take i = Q.take i ∧ Kp w wr, fun t5 _ => P.length - (intOf t5).toNat, ⟨0, by omega, rfl, rfl, Kp.refl _⟩, ?_⟩
  rintro _ _ wr ⟨i, hi, rfl, htk, hk⟩
  by_cases hlt : i < P.length
  case neg =>
    have hlt' : ¬ (i : Int) < (Q.length : Int) := by omega
    have e : P = Q := by rw [List.take_of_length_le (by omega), List.take_of_length_le (by omega)] at htk; exact htk
    simp (disch := omega) only [r_ln, r_pick, r_pickT, r_pickF, r_condT, r_condF, r_gdTT, r_gdFF, r_gdTF, r_gdFT, r_gqTT, r_gqFF, r_gqTF, r_gqFT, r_not, r_lss, r_leq, r_gtr, r_geq, r_eql, r_neq, r_add, r_sub, r_min2, r_max2, r_min3, r_max3, r_fa, r_iaS, r_iaA, r_ex2a, r_ex2b, r_ex3a, r_ex3b, r_ex3c, r_nc, r_keepE, Nat.zero_add, Nat.add_zero, Nat.mul_one, Int.toNat_natCast, toNat_sub1, toNat_add1, decide_true, decide_false, Bool.not_true, Bool.not_false, if_true, if_false, Bool.false_eq_true, reduceCtorEq, hlt', decide_eq_true e]
    exact ⟨trivial, hk⟩
  have hlt' : (i : Int) < (Q.length : Int) := by omega
  simp (disch := omega) only [r_ln, r_pick, r_pickT, r_pickF, r_condT, r_condF, r_gdTT, r_gdFF, r_gdTF, r_gdFT, r_gqTT, r_gqFF, r_gqTF, r_gqFT, r_not, r_lss, r_leq, r_gtr, r_geq, r_eql, r_neq, r_add, r_sub, r_min2, r_max2, r_min3, r_max3, r_fa, r_iaS, r_iaA, r_ex2a, r_ex2b, r_ex3a, r_ex3b, r_ex3c, r_nc, r_keepE, Nat.zero_add, Nat.add_zero, Nat.mul_one, Int.toNat_natCast, toNat_sub1, toNat_add1, decide_true, decide_false, Bool.not_true, Bool.not_false, if_true, if_false, Bool.false_eq_true, reduceCtorEq, hlt']
  refine r_drew fun wx kx _ => ?_
  have hkx := Kp.trans hk kx
  obtain ⟨p, hp⟩ : ∃ p, P[i]? = some p := ⟨_, List.getElem?_eq_getElem hlt⟩
  obtain ⟨q, hq⟩ : ∃ q, Q[i]? = some q := ⟨_, List.getElem?_eq_getElem (by omega)⟩
  obtain ⟨g1, _, e1, _, hr1⟩ := (h1.kp hkx).at hp
  obtain ⟨g2, _, e2, _, hr2⟩ := (h2.kp hkx).at hq
  cases e1
  injection e2 with e2 _ _
  subst e2
  by_cases hpq : p = q
  · have q1 : ((p.2 : Nat) : Int) = (q.2 : Nat) := by rw [hpq]
    have q2 : ((p.1 : Nat) : Int) = (q.1 : Nat) := by rw [hpq]
    simp (disch := omega) only [r_ln, r_pick, r_pickT, r_pickF, r_condT, r_condF, r_gdTT, r_gdFF, r_gdTF, r_gdFT, r_gqTT, r_gqFF, r_gqTF, r_gqFT, r_not, r_lss, r_leq, r_gtr, r_geq, r_eql, r_neq, r_add, r_sub, r_min2, r_max2, r_min3, r_max3, r_fa, r_iaS, r_iaA, r_ex2a, r_ex2b, r_ex3a, r_ex3b, r_ex3c, r_nc, r_keepE, Nat.zero_add, Nat.add_zero, Nat.mul_one, Int.toNat_natCast, toNat_sub1, toNat_add1, decide_true, decide_false, Bool.not_true, Bool.not_false, if_true, if_false, Bool.false_eq_true, reduceCtorEq, hr1, hr2, r_ne35, decide_eq_true q1, decide_eq_true q2, Bool.and_self]
    exact ⟨⟨i + 1, by omega, by go_num, by rw [List.take_succ, List.take_succ, hp, hq, htk, hpq], hkx⟩, by simp only [intOf]; omega⟩
  · have hne : ¬ P = Q := fun e => hpq (by rw [e, hq] at hp; exact (Option.some.inj hp).symm)
    have hb : (decide (((p.2 : Nat) : Int) = (q.2 : Nat)) && decide (((p.1 : Nat) : Int) = (q.1 : Nat))) = false := by
      obtain ⟨p1, p2⟩ := p
      obtain ⟨q1, q2⟩ := q
      simp at hpq ⊢
      omega
    simp (disch := omega) only [r_ln, r_pick, r_pickT, r_pickF, r_condT, r_condF, r_gdTT, r_gdFF, r_gdTF, r_gdFT, r_gqTT, r_gqFF, r_gqTF, r_gqFT, r_not, r_lss, r_leq, r_gtr, r_geq, r_eql, r_neq, r_add, r_sub, r_min2, r_max2, r_min3, r_max3, r_fa, r_iaS, r_iaA, r_ex2a, r_ex2b, r_ex3a, r_ex3b, r_ex3c, r_nc, r_keepE, Nat.zero_add, Nat.add_zero, Nat.mul_one, Int.toNat_natCast, toNat_sub1, toNat_add1, decide_true, decide_false, Bool.not_true, Bool.not_false, if_true, if_false, Bool.false_eq_true, reduceCtorEq, hr1, hr2, r_ne35, hb, decide_eq_false hne]
    exact ⟨trivial, hkx⟩

end Go.Proofs.Ytaephdjmpmbfpaa

/- Contracts: before, sorted of the specification; the closure that the program's sort is given. -/
namespace Go.Proofs.Ytaephdjmpmbfpaa
open Go.Lf Go.RowKit Go.Hp

theorem loz3 {w : World} {b : Nat} {p : Loz} {t : TypeId} {fr : Nat × Nat} (h : w.heap[b]? = some (.cells (lozV p).cells t fr)) :
    w.cell? ⟨b, 0, none⟩ = some (.int .i64 p.1) ∧ w.cell? ⟨b, 1, none⟩ = some (.int .i64 p.2.1) ∧ w.cell? ⟨b, 2, none⟩ = some (.int .i64 p.2.2) := box3 h

set_option maxRecDepth 100000 in
theorem before_calls (p q : Loz) (w : World) : Calls Try.prog 94 #[lozV p, lozV q] w fun e w' => e = .returned (.bool (lzLt p q)) ∧ Kp w w' := by
  refine lift94 ?_
  unfold S94
  refine r_box fun b1 w1 e1 s1 h1 k1 => ?_
  refine r_box fun b2 w2 e2 s2 h2 k2 => ?_
  obtain ⟨c0, c1, c2⟩ := loz3 (block_below h1 k2)
  obtain ⟨d0, d1, d2⟩ := loz3 h2
  have hk := Kp.trans k1 k2
  unfold lzLt
  by_cases h1 : p.1 = q.1
  case neg =>
    have e : (p.1 < q.1 ∨ p.1 = q.1 ∧ (p.2.1 < q.2.1 ∨ p.2.1 = q.2.1 ∧ p.2.2 < q.2.2)) ↔ p.1 < q.1 := by omega
    rw [show decide (p.1 < q.1 ∨ p.1 = q.1 ∧ (p.2.1 < q.2.1 ∨ p.2.1 = q.2.1 ∧ p.2.2 < q.2.2)) = decide (p.1 < q.1) from decide_eq_decide.2 e]
    simp (disch := omega) only [r_ln, r_pick, r_pickT, r_pickF, r_condT, r_condF, r_gdTT, r_gdFF, r_gdTF, r_gdFT, r_gqTT, r_gqFF, r_gqTF, r_gqFT, r_not, r_lss, r_leq, r_gtr, r_geq, r_eql, r_neq, r_add, r_sub, r_min2, r_max2, r_min3, r_max3, r_fa, r_iaS, r_iaA, r_ex2a, r_ex2b, r_ex3a, r_ex3b, r_ex3c, r_nc, r_keepE, Nat.zero_add, Nat.add_zero, Nat.mul_one, Int.toNat_natCast, toNat_sub1, toNat_add1, decide_true, decide_false, Bool.not_true, Bool.not_false, if_true, if_false, Bool.false_eq_true, reduceCtorEq, r_ld c0, r_ld d0, h1]
    exact ⟨trivial, hk⟩
  by_cases h2 : p.2.1 < q.2.1
  · have e : (p.1 < q.1 ∨ p.1 = q.1 ∧ (p.2.1 < q.2.1 ∨ p.2.1 = q.2.1 ∧ p.2.2 < q.2.2)) := by omega
    simp (disch := omega) only [r_ln, r_pick, r_pickT, r_pickF, r_condT, r_condF, r_gdTT, r_gdFF, r_gdTF, r_gdFT, r_gqTT, r_gqFF, r_gqTF, r_gqFT, r_not, r_lss, r_leq, r_gtr, r_geq, r_eql, r_neq, r_add, r_sub, r_min2, r_max2, r_min3, r_max3, r_fa, r_iaS, r_iaA, r_ex2a, r_ex2b, r_ex3a, r_ex3b, r_ex3c, r_nc, r_keepE, Nat.zero_add, Nat.add_zero, Nat.mul_one, Int.toNat_natCast, toNat_sub1, toNat_add1, decide_true, decide_false, Bool.not_true, Bool.not_false, if_true, if_false, Bool.false_eq_true, reduceCtorEq, r_ld c0, r_ld d0, r_ld c1, r_ld d1, decide_eq_true h1, decide_eq_true h2, decide_eq_true e]
    exact ⟨trivial, hk⟩
  by_cases h3 : p.2.1 = q.2.1
  · have e : (p.1 < q.1 ∨ p.1 = q.1 ∧ (p.2.1 < q.2.1 ∨ p.2.1 = q.2.1 ∧ p.2.2 < q.2.2)) ↔ p.2.2 < q.2.2 := by omega
    rw [show decide (p.1 < q.1 ∨ p.1 = q.1 ∧ (p.2.1 < q.2.1 ∨ p.2.1 = q.2.1 ∧ p.2.2 < q.2.2)) = decide (p.2.2 < q.2.2) from decide_eq_decide.2 e]
    simp (disch := omega) only [r_ln, r_pick, r_pickT, r_pickF, r_condT, r_condF, r_gdTT, r_gdFF, r_gdTF, r_gdFT, r_gqTT, r_gqFF, r_gqTF, r_gqFT, r_not, r_lss, r_leq, r_gtr, r_geq, r_eql, r_neq, r_add, r_sub, r_min2, r_max2, r_min3, r_max3, r_fa, r_iaS, r_iaA, r_ex2a, r_ex2b, r_ex3a, r_ex3b, r_ex3c, r_nc, r_keepE, Nat.zero_add, Nat.add_zero, Nat.mul_one, Int.toNat_natCast, toNat_sub1, toNat_add1, decide_true, decide_false, Bool.not_true, Bool.not_false, if_true, if_false, Bool.false_eq_true, reduceCtorEq, r_ld c0, r_ld d0, r_ld c1, r_ld d1, r_ld c2, r_ld d2, decide_eq_true h1, decide_eq_false h2, decide_eq_true h3]
    exact ⟨trivial, hk⟩
  · have e : ¬ (p.1 < q.1 ∨ p.1 = q.1 ∧ (p.2.1 < q.2.1 ∨ p.2.1 = q.2.1 ∧ p.2.2 < q.2.2)) := by omega
    simp (disch := omega) only [r_ln, r_pick, r_pickT, r_pickF, r_condT, r_condF, r_gdTT, r_gdFF, r_gdTF, r_gdFT, r_gqTT, r_gqFF, r_gqTF, r_gqFT, r_not, r_lss, r_leq, r_gtr, r_geq, r_eql, r_neq, r_add, r_sub, r_min2, r_max2, r_min3, r_max3, r_fa, r_iaS, r_iaA, r_ex2a, r_ex2b, r_ex3a, r_ex3b, r_ex3c, r_nc, r_keepE, Nat.zero_add, Nat.add_zero, Nat.mul_one, Int.toNat_natCast, toNat_sub1, toNat_add1, decide_true, decide_false, Bool.not_true, Bool.not_false, if_true, if_false, Bool.false_eq_true, reduceCtorEq, r_ld c0, r_ld d0, r_ld c1, r_ld d1, decide_eq_true h1, decide_eq_false h2, decide_eq_false h3, decide_eq_false e]
    exact ⟨trivial, hk⟩

/-- Sorted but for the place k. -/
def But (k : Nat) (L : List Loz) : Prop := ∀ p q a b, p < q → q ≠ k → L[p]? = some a → L[q]? = some b → lzLt b a = false

theorem but_end {k : Nat} {L : List Loz} (h : But k L) (hk : k = 0 ∨ ∃ a b, L[k - 1]? = some a ∧ L[k]? = some b ∧ lzLt b a = false) : L.Pairwise fun x y => lzLt y x = false := by
  rw [List.pairwise_iff_getElem]
  intro i j hi hj hij
  have e1 : L[i]? = some L[i] := List.getElem?_eq_getElem hi
  have e2 : L[j]? = some L[j] := List.getElem?_eq_getElem hj
  by_cases hjk : j = k
  · rcases hk with h0 | ⟨a, b, ha, hb, hab⟩
    · omega
    · subst hjk
      rw [e2] at hb
      cases hb
      by_cases hik : i = j - 1
      · subst hik
        rw [e1] at ha
        cases ha
        exact hab
      · exact lzLe_trans (h i (j - 1) _ _ (by omega) (by omega) e1 ha) hab
  · exact h i j _ _ hij hjk e1 e2

theorem but_step {k : Nat} {L : List Loz} {a b : Loz} (h : But k L) (h0 : 0 < k) (ha : L[k - 1]? = some a) (hb : L[k]? = some b) (hab : lzLt b a = true) : But (k - 1) ((L.set k a).set (k - 1) b) := by
  have hkl : k < L.length := (List.getElem?_eq_some_iff.1 hb).1
  have get : ∀ i, ((L.set k a).set (k - 1) b)[i]? = if i = k - 1 then some b else if i = k then some a else L[i]? := fun i => by
    by_cases h1 : i = k - 1
    · subst h1
      rw [if_pos rfl, List.getElem?_set_self (by simp; omega)]
    · rw [if_neg h1, List.getElem?_set_ne (Ne.symm h1)]
      by_cases h2 : i = k
      · subst h2
        rw [if_pos rfl, List.getElem?_set_self hkl]
      · rw [if_neg h2, List.getElem?_set_ne (Ne.symm h2)]
  intro p q x y hpq hq hx hy
  rw [get] at hx hy
  rw [if_neg hq] at hy
  by_cases hqk : q = k
  · rw [if_pos hqk] at hy
    cases hy
    by_cases hp1 : p = k - 1
    · rw [if_pos hp1] at hx
      cases hx
      exact lzLt_le hab
    · rw [if_neg hp1, if_neg (by omega)] at hx
      exact h p (k - 1) _ _ (by omega) (by omega) hx ha
  · rw [if_neg hqk] at hy
    by_cases hp1 : p = k - 1
    · rw [if_pos hp1] at hx
      cases hx
      exact h k q _ _ (by omega) hqk hb hy
    · rw [if_neg hp1] at hx
      by_cases hpk : p = k
      · rw [if_pos hpk] at hx
        cases hx
        exact h (k - 1) q _ _ (by omega) hqk ha hy
      · rw [if_neg hpk] at hx
        exact h p q _ _ hpq hqk hx hy

theorem swap_perm : ∀ {k : Nat} {L : List Loz} {a b : Loz}, 0 < k → L[k - 1]? = some a → L[k]? = some b → ((L.set k a).set (k - 1) b).Perm L
  | 1, x :: y :: L, a, b, _, ha, hb => by
    simp at ha hb
    subst ha; subst hb
    exact List.Perm.swap _ _ _
  | k + 2, x :: L, a, b, _, ha, hb => by
    have := swap_perm (k := k + 1) (L := L) (a := a) (b := b) (by omega) (by simpa using ha) (by simpa using hb)
    simpa using this.cons x
  | 1, [x], a, b, _, ha, hb => by simp at hb
  | k + 1, [], a, b, _, ha, hb => by simp at hb

theorem but_push {L : List Loz} {x : Loz} (h : L.Pairwise fun x y => lzLt y x = false) : But L.length (L ++ [x]) := by
  intro p q a b hpq hq ha hb
  have hql : q < L.length := by
    have := (List.getElem?_eq_some_iff.1 hb).1
    simp at this
    omega
  rw [List.getElem?_append_left hql] at hb
  rw [List.getElem?_append_left (by omega)] at ha
  rw [List.pairwise_iff_getElem] at h
  obtain ⟨h1, rfl⟩ := List.getElem?_eq_some_iff.1 ha
  obtain ⟨h2, rfl⟩ := List.getElem?_eq_some_iff.1 hb
  exact h p q h1 h2 hpq

theorem lozV_one (p : Loz) : ∀ u ∈ (lozV p).cells.toList, u.oneCell' = true := by
  intro u hu
  simp [Value.cells] at hu
  rcases hu with rfl | rfl | rfl <;> rfl

theorem mid_take {α : Type} (cur l X : List α) {o m n : Nat} (hl : l.length = m) (hn : o + m ≤ n) (hX : cur.take n = X) (hlen : n ≤ cur.length) : (cur.take o ++ l ++ cur.drop (o + m)).take n = X.take o ++ l ++ X.drop (o + m) := by
  subst hX
  have e : (cur.take o ++ l).length = o + m := by rw [List.length_append, List.length_take, hl]; omega
  rw [List.take_append, List.take_of_length_le (by omega), e, List.take_take, Nat.min_eq_left (by omega), List.drop_take]

set_option maxRecDepth 100000 in
/-- A store of one lozenge into a list of one's own. -/
theorem r_stLoz {base g cap q : Nat} {P : List Loz} {p : Loz} {w : World} {K : World → Prop} (h : LozAt base w (.slice (some ⟨g, 0, none⟩) P.length cap) P) (hq : q < P.length)
    (hk : ∀ w', Chg (fun k => k = g) w w' → LozAt base w' (.slice (some ⟨g, 0, none⟩) (P.set q p).length cap) (P.set q p) → K w') : stW Try.prog 68 (.pointer (some ⟨g, q * 3, none⟩)) (lozV p) w K := by
  obtain ⟨g', cap', cur, e, hb, hg, hle, hm, hs, ht⟩ := h.blk (by omega)
  cases e
  refine r_stAt (n := 3) (ty := 68) (v := lozV p) (by kernel_rfl) rfl (lozV_one p) hg (by omega) fun w' hc hsz hg' => hk w' hc ?_
  have hset := lozCells_set P q p hq
  refine ⟨by rw [lozCells_length], .inr ⟨g, cap, _, rfl, hb, hg', by rw [List.length_set]; exact hle, hm, ?_, ?_⟩⟩
  · have hcl : cur.toList.length = cap * 3 := by simpa using hs
    have hl3 : (lozV p).cells.toList.length = 3 := rfl
    rw [List.size_toArray, List.length_append, List.length_append, List.length_take, List.length_drop, hl3, hcl]
    omega
  · rw [List.length_set, ← hset]
    have hcl : cur.toList.length = cap * 3 := by simpa using hs
    exact mid_take cur.toList (lozC p) (lozCells P) rfl (by omega) ht (by omega)

set_option maxRecDepth 100000 in
theorem sorted_calls {b1 : Nat} {v : Value} {P : List Loz} {w : World} (h : LozAt b1 w v P) (hP : P.length ≤ 1000) : Calls Try.prog 83 #[v] w fun e w' => ∃ v', e = .returned v' ∧ Kp w w' ∧ LozAt w.heap.size w' v' (lzSort P) := by
  obtain ⟨va, vc, rfl⟩ := h.len
  refine lift83 ?_
  unfold S83
  refine ⟨fun t3 t4 wr => ∃ (i : Nat) (L : List Loz), i ≤ P.length ∧ t4 = .int .i64 i ∧ L.Perm (P.take i) ∧ (L.Pairwise fun x y => lzLt y x = false) ∧ LozAt w.heap.size wr t3 L ∧ Kp w wr, fun _ t4 _ => P.length - (intOf t4).toNat,
    ⟨0, [], by omega, rfl, List.Perm.refl _, List.Pairwise.nil, LozAt.nil _ _, Kp.refl _⟩, ?_⟩
  rintro _ t3 _ wr ⟨i, L, hi, rfl, hp, hso, hL, hk⟩
  have hLl := hp.length_eq
  rw [List.length_take] at hLl
  by_cases hlt : i < P.length
  case neg =>
    have hlt' : ¬ (i : Int) < (P.length : Int) := by omega
    simp (disch := omega) only [r_ln, r_pick, r_pickT, r_pickF, r_condT, r_condF, r_gdTT, r_gdFF, r_gdTF, r_gdFT, r_gqTT, r_gqFF, r_gqTF, r_gqFT, r_not, r_lss, r_leq, r_gtr, r_geq, r_eql, r_neq, r_add, r_sub, r_min2, r_max2, r_min3, r_max3, r_fa, r_iaS, r_iaA, r_ex2a, r_ex2b, r_ex3a, r_ex3b, r_ex3c, r_nc, r_keepE, Nat.zero_add, Nat.add_zero, Nat.mul_one, Int.toNat_natCast, toNat_sub1, toNat_add1, decide_true, decide_false, Bool.not_true, Bool.not_false, if_true, if_false, Bool.false_eq_true, reduceCtorEq, hlt']
    rw [List.take_of_length_le (by omega)] at hp
    refine ⟨t3, rfl, hk, ?_⟩
    rw [← lzSort_unique hp hso]
    exact hL
  have hlt' : (i : Int) < (P.length : Int) := by omega
  obtain ⟨x, hx⟩ : ∃ x, P[i]? = some x := ⟨_, List.getElem?_eq_getElem hlt⟩
  obtain ⟨gv, _, ev, _, hrd⟩ := (h.kp hk).at hx
  cases ev
  simp (disch := omega) only [r_ln, r_pick, r_pickT, r_pickF, r_condT, r_condF, r_gdTT, r_gdFF, r_gdTF, r_gdFT, r_gqTT, r_gqFF, r_gqTF, r_gqFT, r_not, r_lss, r_leq, r_gtr, r_geq, r_eql, r_neq, r_add, r_sub, r_min2, r_max2, r_min3, r_max3, r_fa, r_iaS, r_iaA, r_ex2a, r_ex2b, r_ex3a, r_ex3b, r_ex3c, r_nc, r_keepE, Nat.zero_add, Nat.add_zero, Nat.mul_one, Int.toNat_natCast, toNat_sub1, toNat_add1, decide_true, decide_false, Bool.not_true, Bool.not_false, if_true, if_false, Bool.false_eq_true, reduceCtorEq, hlt', hrd]
  refine r_pushLoz (w1 := w) hL (by omega) hk fun v' w1 ho k1 => ?_
  have hlen1 : (L ++ [(x.1, x.2.1, x.2.2)]).length = i + 1 := by simp; omega
  obtain ⟨g, cap, cur0, rfl, hgb, hgc, _⟩ := ho.blk (by omega)
  rw [hlen1] at ho ⊢
  simp (disch := omega) only [r_ln, r_pick, r_pickT, r_pickF, r_condT, r_condF, r_gdTT, r_gdFF, r_gdTF, r_gdFT, r_gqTT, r_gqFF, r_gqTF, r_gqFT, r_not, r_lss, r_leq, r_gtr, r_geq, r_eql, r_neq, r_add, r_sub, r_min2, r_max2, r_min3, r_max3, r_fa, r_iaS, r_iaA, r_ex2a, r_ex2b, r_ex3a, r_ex3b, r_ex3c, r_nc, r_keepE, Nat.zero_add, Nat.add_zero, Nat.mul_one, Int.toNat_natCast, toNat_sub1, toNat_add1, decide_true, decide_false, Bool.not_true, Bool.not_false, if_true, if_false, Bool.false_eq_true, reduceCtorEq]
  refine ⟨fun t5 wq => ∃ (k : Nat) (M : List Loz), t5 = .int .i64 k ∧ k ≤ i ∧ M.length = i + 1 ∧ M.Perm (L ++ [x]) ∧ But k M ∧ LozAt w.heap.size wq (.slice (some ⟨g, 0, none⟩) (i + 1) cap) M ∧ Kp w wq, fun t5 _ => (intOf t5).toNat,
    ⟨i, L ++ [x], by go_num, Nat.le_refl _, hlen1, List.Perm.refl _, by have := but_push (x := x) hso; rwa [show L.length = i by omega] at this, ho, k1⟩, ?_⟩
  rintro _ _ wq ⟨k, M, rfl, hki, hMl, hMp, hbut, hM, hkq⟩
  have fin : ∀ wz : World, Kp w wz → LozAt w.heap.size wz (.slice (some ⟨g, 0, none⟩) (i + 1) cap) M → (M.Pairwise fun x y => lzLt y x = false) →
      ∃ (i' : Nat) (L : List Loz), i' ≤ P.length ∧ Value.int .i64 ((i : Int) + 1) = .int .i64 i' ∧ L.Perm (P.take i') ∧ (L.Pairwise fun x y => lzLt y x = false) ∧ LozAt w.heap.size wz (.slice (some ⟨g, 0, none⟩) (i + 1) cap) L ∧ Kp w wz := fun wz k1 k2 k3 =>
    ⟨i + 1, M, by omega, by go_num, by
      rw [List.take_succ, hx]
      exact hMp.trans (List.Perm.append_right _ hp), k3, k2, k1⟩
  refine r_drew fun wx kx _ => ?_
  have hMx := hM.kp kx
  have hkx := Kp.trans hkq kx
  by_cases hk0 : 0 < k
  case neg =>
    have hk0' : ¬ 0 < (k : Int) := by omega
    simp (disch := omega) only [r_ln, r_pick, r_pickT, r_pickF, r_condT, r_condF, r_gdTT, r_gdFF, r_gdTF, r_gdFT, r_gqTT, r_gqFF, r_gqTF, r_gqFT, r_not, r_lss, r_leq, r_gtr, r_geq, r_eql, r_neq, r_add, r_sub, r_min2, r_max2, r_min3, r_max3, r_fa, r_iaS, r_iaA, r_ex2a, r_ex2b, r_ex3a, r_ex3b, r_ex3c, r_nc, r_keepE, Nat.zero_add, Nat.add_zero, Nat.mul_one, Int.toNat_natCast, toNat_sub1, toNat_add1, decide_true, decide_false, Bool.not_true, Bool.not_false, if_true, if_false, Bool.false_eq_true, reduceCtorEq, hk0']
    exact ⟨fin wx hkx hMx (but_end hbut (.inl (by omega))), by simp only [intOf]; omega⟩
  have hk0' : 0 < (k : Int) := by omega
  obtain ⟨a, ha⟩ : ∃ a, M[k - 1]? = some a := ⟨_, List.getElem?_eq_getElem (by omega)⟩
  obtain ⟨b, hb⟩ : ∃ b, M[k]? = some b := ⟨_, List.getElem?_eq_getElem (by omega)⟩
  obtain ⟨g1, _, e1, _, hra⟩ := hMx.at ha
  obtain ⟨g2, _, e2, _, hrb⟩ := hMx.at hb
  rw [hMl] at e1 e2
  cases e1
  cases e2
  simp (disch := omega) only [r_ln, r_pick, r_pickT, r_pickF, r_condT, r_condF, r_gdTT, r_gdFF, r_gdTF, r_gdFT, r_gqTT, r_gqFF, r_gqTF, r_gqFT, r_not, r_lss, r_leq, r_gtr, r_geq, r_eql, r_neq, r_add, r_sub, r_min2, r_max2, r_min3, r_max3, r_fa, r_iaS, r_iaA, r_ex2a, r_ex2b, r_ex3a, r_ex3b, r_ex3c, r_nc, r_keepE, Nat.zero_add, Nat.add_zero, Nat.mul_one, Int.toNat_natCast, toNat_sub1, toNat_add1, decide_true, decide_false, Bool.not_true, Bool.not_false, if_true, if_false, Bool.false_eq_true, reduceCtorEq, decide_eq_true hk0', hra, hrb]
  refine r_use fok94 (before_calls b a wx) rfl ?_
  rintro _ wy ⟨rfl, ky⟩
  refine ⟨_, rfl, ?_⟩
  have hMy := hMx.kp ky
  have hky := Kp.trans hkx ky
  by_cases hab : lzLt b a = true
  case neg =>
    have hab' : lzLt b a = false := by simpa using hab
    simp (disch := omega) only [r_ln, r_pick, r_pickT, r_pickF, r_condT, r_condF, r_gdTT, r_gdFF, r_gdTF, r_gdFT, r_gqTT, r_gqFF, r_gqTF, r_gqFT, r_not, r_lss, r_leq, r_gtr, r_geq, r_eql, r_neq, r_add, r_sub, r_min2, r_max2, r_min3, r_max3, r_fa, r_iaS, r_iaA, r_ex2a, r_ex2b, r_ex3a, r_ex3b, r_ex3c, r_nc, r_keepE, Nat.zero_add, Nat.add_zero, Nat.mul_one, Int.toNat_natCast, toNat_sub1, toNat_add1, decide_true, decide_false, Bool.not_true, Bool.not_false, if_true, if_false, Bool.false_eq_true, reduceCtorEq, hab']
    exact ⟨fin wy hky hMy (but_end hbut (.inr ⟨a, b, ha, hb, hab'⟩)), by simp only [intOf]; omega⟩
  obtain ⟨g1, _, e1, _, hra⟩ := hMy.at ha
  obtain ⟨g2, _, e2, _, hrb⟩ := hMy.at hb
  rw [hMl] at e1 e2
  cases e1
  cases e2
  simp (disch := omega) only [r_ln, r_pick, r_pickT, r_pickF, r_condT, r_condF, r_gdTT, r_gdFF, r_gdTF, r_gdFT, r_gqTT, r_gqFF, r_gqTF, r_gqFT, r_not, r_lss, r_leq, r_gtr, r_geq, r_eql, r_neq, r_add, r_sub, r_min2, r_max2, r_min3, r_max3, r_fa, r_iaS, r_iaA, r_ex2a, r_ex2b, r_ex3a, r_ex3b, r_ex3c, r_nc, r_keepE, Nat.zero_add, Nat.add_zero, Nat.mul_one, Int.toNat_natCast, toNat_sub1, toNat_add1, decide_true, decide_false, Bool.not_true, Bool.not_false, if_true, if_false, Bool.false_eq_true, reduceCtorEq, hab, hrb]
  refine r_box fun b6 w6 e6 s6 h6 k6 => ?_
  refine r_stAll (n := 3) (ty := 68) (v := lozV b) (by kernel_rfl) rfl (lozV_one b) h6 rfl fun w7 c7 s7 h7 => ?_
  have k7 : Kp wy w7 := Kp.of_chg k6 c7 fun i e => by omega
  have hM7 := hMy.kp k7
  have hk7 := Kp.trans hky k7
  obtain ⟨g1, _, e1, _, hra⟩ := hM7.at ha
  rw [hMl] at e1
  cases e1
  have hb6 : b6 ≠ g := by
    obtain ⟨_, _, _, eg, _, hgy, _⟩ := hMy.blk (by omega)
    rw [hMl] at eg
    cases eg
    have := block_lt hgy
    omega
  simp (disch := omega) only [r_ln, r_pick, r_pickT, r_pickF, r_condT, r_condF, r_gdTT, r_gdFF, r_gdTF, r_gdFT, r_gqTT, r_gqFF, r_gqTF, r_gqFT, r_not, r_lss, r_leq, r_gtr, r_geq, r_eql, r_neq, r_add, r_sub, r_min2, r_max2, r_min3, r_max3, r_fa, r_iaS, r_iaA, r_ex2a, r_ex2b, r_ex3a, r_ex3b, r_ex3c, r_nc, r_keepE, Nat.zero_add, Nat.add_zero, Nat.mul_one, Int.toNat_natCast, toNat_sub1, toNat_add1, decide_true, decide_false, Bool.not_true, Bool.not_false, if_true, if_false, Bool.false_eq_true, reduceCtorEq, hra]
  rw [← hMl] at hM7 ⊢
  refine r_stLoz (p := a) hM7 (by omega) fun w8 c8 hM8 => ?_
  have h8 := c8.at h7 hb6
  have hk8 : Kp w w8 := Kp.of_chg hk7 c8 fun k e => by omega
  simp (disch := omega) only [r_ln, r_pick, r_pickT, r_pickF, r_condT, r_condF, r_gdTT, r_gdFF, r_gdTF, r_gdFT, r_gqTT, r_gqFF, r_gqTF, r_gqFT, r_not, r_lss, r_leq, r_gtr, r_geq, r_eql, r_neq, r_add, r_sub, r_min2, r_max2, r_min3, r_max3, r_fa, r_iaS, r_iaA, r_ex2a, r_ex2b, r_ex3a, r_ex3b, r_ex3c, r_nc, r_keepE, Nat.zero_add, Nat.add_zero, Nat.mul_one, Int.toNat_natCast, toNat_sub1, toNat_add1, decide_true, decide_false, Bool.not_true, Bool.not_false, if_true, if_false, Bool.false_eq_true, reduceCtorEq, r_ldRow (n := 3) h8 rfl, agg_cells]
  have hl8 : (M.set k a).length = M.length := List.length_set
  rw [← hl8] at ⊢
  refine r_stLoz (p := b) hM8 (by rw [hl8]; omega) fun w9 c9 hM9 => ?_
  have hk9 : Kp w w9 := Kp.of_chg hk8 c9 fun k e => by omega
  have hl9 : ((M.set k a).set (k - 1) b).length = i + 1 := by rw [List.length_set, hl8, hMl]
  rw [hl9] at hM9
  rw [hl8, hMl]
  try simp (disch := omega) only [r_ln, r_pick, r_pickT, r_pickF, r_condT, r_condF, r_gdTT, r_gdFF, r_gdTF, r_gdFT, r_gqTT, r_gqFF, r_gqTF, r_gqFT, r_not, r_lss, r_leq, r_gtr, r_geq, r_eql, r_neq, r_add, r_sub, r_min2, r_max2, r_min3, r_max3, r_fa, r_iaS, r_iaA, r_ex2a, r_ex2b, r_ex3a, r_ex3b, r_ex3c, r_nc, r_keepE, Nat.zero_add, Nat.add_zero, Nat.mul_one, Int.toNat_natCast, toNat_sub1, toNat_add1, decide_true, decide_false, Bool.not_true, Bool.not_false, if_true, if_false, Bool.false_eq_true, reduceCtorEq]
  exact ⟨⟨k - 1, (M.set k a).set (k - 1) b, by go_num, by omega, hl9, (swap_perm hk0 ha hb).trans hMp, but_step hbut hk0 ha hb hab, hM9, hk9⟩, by simp only [intOf]; omega⟩

end Go.Proofs.Ytaephdjmpmbfpaa
