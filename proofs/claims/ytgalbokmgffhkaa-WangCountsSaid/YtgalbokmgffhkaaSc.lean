/- Lifted texts, printed by program (gen.py): what each function's code asks. The ties are by the kernel. -/
import Derived.Test.YtgalbokmgffhkaaBase
set_option linter.all false
namespace Go.Proofs.Ytgalbokmgffhkaa
open Go.Lf Go.RowKit

def S19 (t0 t1 t2 t3 : Value) (w : World) (R : Ending → World → Prop) : Prop :=
  callW Try.prog (.func (.func 53) #[] #[]) [t0, t1, t2] w fun t24 w =>
  binQ Try.prog w .neq 26 true t24 (.int .i64 0) fun t26 =>
  condW t26 (
    R (.returned (.tuple #[(.bool false), t24])) w
  ) (
    ln1 t3 fun t29 =>
    binQ Try.prog w .gtr 3 true t29 (.int .i64 65535) fun t30 =>
    condW t30 (
      R (.returned (.tuple #[(.bool false), (.int .i64 3)])) w
    ) (
      mmW w fun t31 w =>
      boxW 68 (.map none) w fun t11 w =>
      stW Try.prog 68 t11 t31 w fun w =>
      ln1 t3 fun t33 =>
      Loop1 (.int .i64 0) w fun _ t34 w next =>
        binQ Try.prog w .lss 3 false t34 t33 fun t35 =>
        condW t35 (
          iaS 1 t3 t34 fun t37 =>
          ld1 w t37 fun t38 =>
          ln1 t38 fun t40 =>
          binQ Try.prog w .add 3 true t1 (.int .i64 1) fun t42 =>
          binQ Try.prog w .neq 3 false t40 t42 fun t43 =>
          gd t43 false (fun k => k t38 w) w fun t45 w =>
          gd t43 false (fun k => iaS 1 t45 (.int .i64 0) fun v => k v w) w fun t46 w =>
          gd t43 false (fun k => ld1 w t46 fun v => k v w) w fun t47 w =>
          gd t43 false (fun k => binQ Try.prog w .lss 3 true t47 (.int .i64 1) fun v => k v w) w fun t48 w =>
          pickQ t43 (.bool true) t48 fun t49 =>
          gd t49 false (fun k => k t38 w) w fun t51 w =>
          gd t49 false (fun k => iaS 1 t51 (.int .i64 0) fun v => k v w) w fun t52 w =>
          gd t49 false (fun k => ld1 w t52 fun v => k v w) w fun t53 w =>
          gd t49 false (fun k => k t2 w) w fun t54 w =>
          gd t49 false (fun k => binQ Try.prog w .geq 3 false t53 t54 fun v => k v w) w fun t55 w =>
          pickQ t49 (.bool true) t55 fun t56 =>
          gd t56 false (fun k => k t38 w) w fun t58 w =>
          gd t56 false (fun k => slS 1 t58 (some (.int .i64 1)) none fun v => k v w) w fun t59 w =>
          gd t56 false (fun k => callW Try.prog (.func (.func 54) #[] #[]) [t59, (.func (.func 55) #[] #[])] w k) w fun t60 w =>
          pickQ t56 (.bool true) t60 fun t61 =>
          gd t61 false (fun k => k t34 w) w fun t63 w =>
          gd t61 false (fun k => binQ Try.prog w .gtr 3 true t63 (.int .i64 0) fun v => k v w) w fun t64 w =>
          gd t61 false (fun k => k t64 w) w fun t65 w =>
          gd t65 true (fun k => k t3 w) w fun t66 w =>
          gd t65 true (fun k => k t34 w) w fun t67 w =>
          gd t65 true (fun k => binQ Try.prog w .sub 3 true t67 (.int .i64 1) fun v => k v w) w fun t68 w =>
          gd t65 true (fun k => iaS 1 t66 t68 fun v => k v w) w fun t69 w =>
          gd t65 true (fun k => ld1 w t69 fun v => k v w) w fun t70 w =>
          gd t65 true (fun k => k t38 w) w fun t71 w =>
          gd t65 true (fun k => callW Try.prog (.func (.func 57) #[] #[]) [t70, t71] w k) w fun t72 w =>
          gd t65 true (fun k => binQ Try.prog w .geq 3 true t72 (.int .i64 0) fun v => k v w) w fun t73 w =>
          gd t61 false (fun k => pickQ t65 t73 (.bool false) fun v => k v w) w fun t74 w =>
          pickQ t61 (.bool true) t74 fun t75 =>
          condW t75 (
            R (.returned (.tuple #[(.bool false), (.int .i64 0)])) w
          ) (
            slS 1 t38 (some (.int .i64 1)) none fun t77 =>
            callW Try.prog (.func (.func 58) #[] #[]) [t77] w fun t78 w =>
            ld1 w t11 fun t79 =>
            semW Try.prog (lkS 68 t79 t78 false) w fun t81 w =>
            binQ Try.prog w .eql 3 true t81 (.int .i64 0) fun t82 =>
            Join (fun (k_2 : World → Prop) =>
              condW t82 (
                Drew w fun w =>
                ld1 w t11 fun t83 =>
                iaS 1 t38 (.int .i64 0) fun t86 =>
                ld1 w t86 fun t87 =>
                semW Try.prog (muS 68 t83 t78 t87) w fun _ w =>
                k_2 w
              ) (
                k_2 w
              )
            ) fun w =>
            binQ Try.prog w .add 3 true t34 (.int .i64 1) fun t88_2 =>
            next t88_2 w
          )
        ) (
          callW Try.prog (.func (.func 59) #[] #[]) [t0, t1] w fun t91 w =>
          mmW w fun t92 w =>
          ln1 t91 fun t94 =>
          Loop1 (.int .i64 0) w fun _ t95 w next_2 =>
            binQ Try.prog w .lss 3 false t95 t94 fun t96 =>
            condW t96 (
              iaS 7 t91 t95 fun t97 =>
              ldN 7 w t97 fun t98 =>
              boxW 78 (.agg #[(.int .i64 0), (.int .i64 0), (.int .i64 0), (.int .i64 0), (.int .i64 0), (.int .i64 0), (.bool false)]) w fun t18 w =>
              stW Try.prog 78 t18 t98 w fun w =>
              ld1 w t11 fun t99 =>
              fa1 t18 5 fun t100 =>
              ld1 w t100 fun t101 =>
              semW Try.prog (lkS 68 t99 t101 false) w fun t102 w =>
              binQ Try.prog w .eql 3 true t102 (.int .i64 0) fun t103 =>
              condW t103 (
                R (.returned (.tuple #[(.bool false), (.int .i64 0)])) w
              ) (
                Drew w fun w =>
                ∃ X : Nat → Prop,
                takeX X w (fun w k => k t92) fun t104 =>
                takeX X w (fun w k => fa1 t18 4 k) fun t105 =>
                takeX X w (fun w k => ld1 w t105 k) fun t106 =>
                takeX X w (fun w k => k t92) fun t107 =>
                takeX X w (fun w k => fa1 t18 4 k) fun t108 =>
                takeX X w (fun w k => ld1 w t108 k) fun t109 =>
                takeX X w (fun w k => genQ Try.prog w (lkS 75 t107 t109 false) k) fun t110 =>
                takeX X w (fun w k => fa1 t18 5 k) fun t111 =>
                takeX X w (fun w k => ld1 w t111 k) fun t112 =>
                bsW Try.prog 30 1 [(0, t112)] w <| keepX X w fun t113 w =>
                semW Try.prog (apS [30, 30] 30 [t110, t113]) w <| keepX X w fun t114 w =>
                semW Try.prog (muS 75 t104 t106 t114) w fun _ w =>
                binQ Try.prog w .add 3 true t95 (.int .i64 1) fun t115 =>
                next_2 t115 w
              )
            ) (
              ld1 w t11 fun t116 =>
              semW Try.prog (rgS 68 t116) w fun t117 w =>
              Loop0 w fun _ w next_3 =>
                semW Try.prog (nxS t117 false 0) w fun t118 w =>
                exQ t118 0 fun t119 =>
                condW t119 (
                  semW Try.prog (enS t117) w fun t120 w =>
                  exQ t120 0 fun t121 =>
                  exQ t120 1 fun t122 =>
                  boxW 3 (.int .i64 0) w fun t20 w =>
                  stW Try.prog 3 t20 t122 w fun w =>
                  semW Try.prog (lkS 75 t92 t121 false) w fun t125 w =>
                  callW Try.prog (.func (.func 54) #[] #[]) [t125, (.func (.func 60) #[] #[t11, t20])] w fun t127 w =>
                  condW t127 (
                    R (.returned (.tuple #[(.bool false), (.int .i64 0)])) w
                  ) (
                    next_3 w
                  )
                ) (
                  R (.returned (.tuple #[(.bool true), (.int .i64 0)])) w
                )
            )
        )
    )
  )

def A19 : Ann where
  live := fun
    | 0 => [34]
    | 2 => [95]
    | 4 => []
    | _ => []
  wr := fun
    | 0 => fun i => (Nat.ble 8 i && Nat.ble i 9) || (Nat.ble 12 i && Nat.ble i 14) || (Nat.ble 34 i && Nat.ble i 88)
    | 2 => fun i => (Nat.ble 8 i && Nat.ble i 9) || Nat.beq i 18 || (Nat.ble 95 i && Nat.ble i 115)
    | 4 => fun i => (Nat.ble 8 i && Nat.ble i 9) || (Nat.ble 19 i && Nat.ble i 20) || (Nat.ble 118 i && Nat.ble i 127)
    | _ => fun _ => false
  sched := fun
    | 14 => (.take 0 (.take 1 (.take 2 (.take 3 (.take 4 (.bar 5 .done))))))
    | 23 => (.cls (.take 0 (.take 1 (.take 2 (.take 3 (.take 4 (.take 5 (.take 6 (.take 7 (.take 8 (.eff 9 (.eff 10 (.bar 11 .done)))))))))))))
    | _ => .done

set_option maxRecDepth 100000 in
theorem ok19 : (codeOk Try.f19.ntmps A19 (Try.f19.body.getD .skip) 0 && Nat.ble 4 Try.f19.ntmps) = true := by kernel_rfl
set_option maxRecDepth 100000 in
theorem lift19 {t0 t1 t2 t3 : Value} {w : World} {R : Ending → World → Prop} (h : S19 t0 t1 t2 t3 w R) : Calls Try.prog 19 #[t0, t1, t2, t3] w R :=
  calls_of_cw (fn := Try.f19) (c := Try.f19.body.getD .skip) A19 mixes Try.func19 (by kernel_rfl) ok19
    ((by kernel_rfl : (S19 t0 t1 t2 t3 w R) = cw Try.prog A19 (Try.f19.body.getD .skip) 0 (bodyQ Try.prog Try.f19 R) (frOf #[t0, t1, t2, t3]) w).mp h)

def S60 (t0 t1 t2 : Value) (w : World) (R : Ending → World → Prop) : Prop :=
  ld1 w t1 fun t5 =>
  semW Try.prog (lkS 68 t5 t0 false) w fun t7 w =>
  ld1 w t2 fun t8 =>
  binQ Try.prog w .geq 3 false t7 t8 fun t9 =>
  R (.returned t9) w

def A60 : Ann where
  live := fun _ => []
  wr := fun _ _ => false
  sched := fun _ => .done

set_option maxRecDepth 100000 in
theorem ok60 : (codeOk Try.f60.ntmps A60 (Try.f60.body.getD .skip) 0 && Nat.ble 3 Try.f60.ntmps) = true := by kernel_rfl
set_option maxRecDepth 100000 in
theorem lift60 {t0 t1 t2 : Value} {w : World} {R : Ending → World → Prop} (h : S60 t0 t1 t2 w R) : Calls Try.prog 60 #[t0, t1, t2] w R :=
  calls_of_cw (fn := Try.f60) (c := Try.f60.body.getD .skip) A60 mixes Try.func60 (by kernel_rfl) ok60
    ((by kernel_rfl : (S60 t0 t1 t2 w R) = cw Try.prog A60 (Try.f60.body.getD .skip) 0 (bodyQ Try.prog Try.f60 R) (frOf #[t0, t1, t2]) w).mp h)

def S83 (t0 t1 : Value) (w : World) (R : Ending → World → Prop) : Prop :=
  mkW Try.prog 30 t1 t1 w fun t8 w =>
  binQ Try.prog w .sub 3 true t1 (.int .i64 1) fun t10 =>
  Loop2 t0 t10 w fun _ t0_2 t6 w next =>
    binQ Try.prog w .geq 3 true t6 (.int .i64 0) fun t12 =>
    condW t12 (
      binQ Try.prog w .rem 3 true t0_2 (.int .i64 8) fun t18 =>
      iaS 1 t8 t6 fun t19 =>
      stW Try.prog 3 t19 t18 w fun w =>
      binQ Try.prog w .quo 3 true t0_2 (.int .i64 8) fun t21 =>
      binQ Try.prog w .sub 3 true t6 (.int .i64 1) fun t14 =>
      next t21 t14 w
    ) (
      R (.returned t8) w
    )

def A83 : Ann where
  live := fun
    | 0 => [0, 6]
    | _ => []
  wr := fun
    | 0 => fun i => Nat.beq i 0 || Nat.beq i 6 || (Nat.ble 11 i && Nat.ble i 21)
    | _ => fun _ => false
  sched := fun _ => .done

set_option maxRecDepth 100000 in
theorem ok83 : (codeOk Try.f83.ntmps A83 (Try.f83.body.getD .skip) 0 && Nat.ble 2 Try.f83.ntmps) = true := by kernel_rfl
set_option maxRecDepth 100000 in
theorem lift83 {t0 t1 : Value} {w : World} {R : Ending → World → Prop} (h : S83 t0 t1 w R) : Calls Try.prog 83 #[t0, t1] w R :=
  calls_of_cw (fn := Try.f83) (c := Try.f83.body.getD .skip) A83 mixes Try.func83 (by kernel_rfl) ok83
    ((by kernel_rfl : (S83 t0 t1 w R) = cw Try.prog A83 (Try.f83.body.getD .skip) 0 (bodyQ Try.prog Try.f83 R) (frOf #[t0, t1]) w).mp h)

def S81 (t0 t1 : Value) (w : World) (R : Ending → World → Prop) : Prop :=
  callW Try.prog (.func (.func 108) #[] #[]) [t0, t1] w fun t7 w =>
  binQ Try.prog w .geq 3 true t7 (.int .i64 0) fun t8 =>
  R (.returned t8) w

def A81 : Ann where
  live := fun _ => []
  wr := fun _ _ => false
  sched := fun _ => .done

set_option maxRecDepth 100000 in
theorem ok81 : (codeOk Try.f81.ntmps A81 (Try.f81.body.getD .skip) 0 && Nat.ble 2 Try.f81.ntmps) = true := by kernel_rfl
set_option maxRecDepth 100000 in
theorem lift81 {t0 t1 : Value} {w : World} {R : Ending → World → Prop} (h : S81 t0 t1 w R) : Calls Try.prog 81 #[t0, t1] w R :=
  calls_of_cw (fn := Try.f81) (c := Try.f81.body.getD .skip) A81 mixes Try.func81 (by kernel_rfl) ok81
    ((by kernel_rfl : (S81 t0 t1 w R) = cw Try.prog A81 (Try.f81.body.getD .skip) 0 (bodyQ Try.prog Try.f81 R) (frOf #[t0, t1]) w).mp h)

def S108 (t0 t1 : Value) (w : World) (R : Ending → World → Prop) : Prop :=
  ln1 t0 fun t7 =>
  Loop1 (.int .i64 0) w fun _ t8 w next =>
    binQ Try.prog w .lss 3 false t8 t7 fun t9 =>
    condW t9 (
      iaS 1 t0 t8 fun t14 =>
      ld1 w t14 fun t15 =>
      binQ Try.prog w .eql 4 false t1 t15 fun t16 =>
      condW t16 (
        R (.returned t8) w
      ) (
        binQ Try.prog w .add 3 true t8 (.int .i64 1) fun t18 =>
        next t18 w
      )
    ) (
      R (.returned (.int .i64 (-1))) w
    )

def A108 : Ann where
  live := fun
    | 0 => [8]
    | _ => []
  wr := fun
    | 0 => fun i => (Nat.ble 4 i && Nat.ble i 5) || (Nat.ble 8 i && Nat.ble i 18)
    | _ => fun _ => false
  sched := fun _ => .done

set_option maxRecDepth 100000 in
theorem ok108 : (codeOk Try.f108.ntmps A108 (Try.f108.body.getD .skip) 0 && Nat.ble 2 Try.f108.ntmps) = true := by kernel_rfl
set_option maxRecDepth 100000 in
theorem lift108 {t0 t1 : Value} {w : World} {R : Ending → World → Prop} (h : S108 t0 t1 w R) : Calls Try.prog 108 #[t0, t1] w R :=
  calls_of_cw (fn := Try.f108) (c := Try.f108.body.getD .skip) A108 mixes Try.func108 (by kernel_rfl) ok108
    ((by kernel_rfl : (S108 t0 t1 w R) = cw Try.prog A108 (Try.f108.body.getD .skip) 0 (bodyQ Try.prog Try.f108 R) (frOf #[t0, t1]) w).mp h)

def S32 (t0 t1 t2 : Value) (w : World) (R : Ending → World → Prop) : Prop :=
  boxW 3 t1 w fun t4 w =>
  ld1 w t4 fun t20 =>
  callW Try.prog (.func (.func 53) #[] #[]) [t0, t20, t2] w fun t22 w =>
  binQ Try.prog w .neq 26 true t22 (.int .i64 0) fun t24 =>
  condW t24 (
    R (.returned (.tuple #[(.slice none 0 0), t22])) w
  ) (
    ld1 w t4 fun t27 =>
    callW Try.prog (.func (.func 59) #[] #[]) [t0, t27] w fun t28 w =>
    ld1 w t4 fun t30 =>
    callW Try.prog (.func (.func 76) #[] #[]) [t28, t30, t2] w fun t32 w =>
    boxW 88 (.slice none 0 0) w fun t10 w =>
    stW Try.prog 88 t10 t32 w fun w =>
    ld1 w t10 fun t33 =>
    iaS 1 t33 t2 fun t35 =>
    ld1 w t35 fun t36 =>
    callW Try.prog (.func (.func 81) #[] #[]) [t36, (.bool true)] w fun t37 w =>
    condW t37 (
      R (.returned (.tuple #[(.slice none 0 0), (.int .i64 10)])) w
    ) (
      boxW 23 (.slice none 0 0) w fun t11 w =>
      mmW w fun t38 w =>
      boxW 75 (.map none) w fun t12 w =>
      stW Try.prog 75 t12 t38 w fun w =>
      ln1 t28 fun t40 =>
      Loop1 (.int .i64 0) w fun _ t41 w next =>
        binQ Try.prog w .lss 3 false t41 t40 fun t42 =>
        condW t42 (
          iaS 7 t28 t41 fun t43 =>
          ldN 7 w t43 fun t44 =>
          boxW 78 (.agg #[(.int .i64 0), (.int .i64 0), (.int .i64 0), (.int .i64 0), (.int .i64 0), (.int .i64 0), (.bool false)]) w fun t14 w =>
          stW Try.prog 78 t14 t44 w fun w =>
          Drew w fun w =>
          ∃ X : Nat → Prop,
          takeX X w (fun w k => ld1 w t12 k) fun t45 =>
          takeX X w (fun w k => fa1 t14 4 k) fun t46 =>
          takeX X w (fun w k => ld1 w t46 k) fun t47 =>
          takeX X w (fun w k => ld1 w t12 k) fun t48 =>
          takeX X w (fun w k => fa1 t14 4 k) fun t49 =>
          takeX X w (fun w k => ld1 w t49 k) fun t50 =>
          takeX X w (fun w k => genQ Try.prog w (lkS 75 t48 t50 false) k) fun t51 =>
          takeX X w (fun w k => fa1 t14 5 k) fun t52 =>
          takeX X w (fun w k => ld1 w t52 k) fun t53 =>
          bsW Try.prog 30 1 [(0, t53)] w <| keepX X w fun t54 w =>
          semW Try.prog (apS [30, 30] 30 [t51, t54]) w <| keepX X w fun t55 w =>
          semW Try.prog (muS 75 t45 t47 t55) w fun _ w =>
          binQ Try.prog w .add 3 true t41 (.int .i64 1) fun t56 =>
          next t56 w
        ) (
          ld1 w t4 fun t57 =>
          callW Try.prog (.func (.func 73) #[] #[]) [t57] w fun t58 w =>
          mkW Try.prog 91 t58 t58 w fun t59 w =>
          boxW 91 (.slice none 0 0) w fun t15 w =>
          stW Try.prog 91 t15 t59 w fun w =>
          boxW 96 .nilFunc w fun t16 w =>
          stW Try.prog 96 t16 (.func (.func 82) #[] #[t15, t10, t11, t4, t12, t16]) w fun w =>
          ln1 t28 fun t62 =>
          Loop1 (.int .i64 0) w fun _ t63 w next_2 =>
            binQ Try.prog w .lss 3 false t63 t62 fun t64 =>
            condW t64 (
              iaS 7 t28 t63 fun t65 =>
              ldN 7 w t65 fun t66 =>
              boxW 78 (.agg #[(.int .i64 0), (.int .i64 0), (.int .i64 0), (.int .i64 0), (.int .i64 0), (.int .i64 0), (.bool false)]) w fun t18 w =>
              stW Try.prog 78 t18 t66 w fun w =>
              ld1 w t16 fun t67 =>
              fa1 t18 5 fun t68 =>
              ld1 w t68 fun t69 =>
              callW Try.prog t67 [t69] w fun t70 w =>
              binQ Try.prog w .add 3 true t63 (.int .i64 1) fun t71 =>
              next_2 t71 w
            ) (
              ld1 w t11 fun t72 =>
              callW Try.prog (.func (.func 84) #[] #[]) [t72, (.func (.func 85) #[] #[])] w fun t73 w =>
              ld1 w t11 fun t74 =>
              R (.returned (.tuple #[t74, (.int .i64 0)])) w
            )
        )
    )
  )

def A32 : Ann where
  live := fun
    | 0 => [41]
    | 2 => [63]
    | _ => []
  wr := fun
    | 0 => fun i => Nat.beq i 14 || (Nat.ble 41 i && Nat.ble i 56)
    | 2 => fun i => Nat.beq i 18 || (Nat.ble 63 i && Nat.ble i 71)
    | _ => fun _ => false
  sched := fun
    | 13 => (.cls (.take 0 (.take 1 (.take 2 (.take 3 (.take 4 (.take 5 (.take 6 (.take 7 (.take 8 (.eff 9 (.eff 10 (.bar 11 .done)))))))))))))
    | _ => .done

set_option maxRecDepth 100000 in
theorem ok32 : (codeOk Try.f32.ntmps A32 (Try.f32.body.getD .skip) 0 && Nat.ble 3 Try.f32.ntmps) = true := by kernel_rfl
set_option maxRecDepth 100000 in
theorem lift32 {t0 t1 t2 : Value} {w : World} {R : Ending → World → Prop} (h : S32 t0 t1 t2 w R) : Calls Try.prog 32 #[t0, t1, t2] w R :=
  calls_of_cw (fn := Try.f32) (c := Try.f32.body.getD .skip) A32 mixes Try.func32 (by kernel_rfl) ok32
    ((by kernel_rfl : (S32 t0 t1 t2 w R) = cw Try.prog A32 (Try.f32.body.getD .skip) 0 (bodyQ Try.prog Try.f32 R) (frOf #[t0, t1, t2]) w).mp h)

def S82 (t0 t1 t2 t3 t4 t5 t6 : Value) (w : World) (R : Ending → World → Prop) : Prop :=
  ld1 w t1 fun t11 =>
  iaS 1 t11 t0 fun t13 =>
  ld1 w t13 fun t14 =>
  condW t14 (
    R (.returned (.tuple #[])) w
  ) (
    ld1 w t1 fun t15 =>
    iaS 1 t15 t0 fun t17 =>
    stW Try.prog 4 t17 (.bool true) w fun w =>
    Loop1 (.int .i64 1) w fun _ t8 w next =>
      ld1 w t2 fun t18 =>
      iaS 1 t18 t8 fun t20 =>
      ld1 w t20 fun t21 =>
      iaS 1 t21 t0 fun t23 =>
      ld1 w t23 fun t24 =>
      condW t24 (
        binQ Try.prog w .add 3 true t8 (.int .i64 1) fun t26 =>
        next t26 w
      ) (
        Drew w fun w =>
        Join (fun (k_2 : World → Prop) =>
          ∃ X : Nat → Prop,
          takeX X w (fun w k => ld1 w t3 k) fun t27 =>
          takeX X w (fun w k => k t8) fun t28 =>
          takeX X w (fun w k => k t0) fun t30 =>
          takeX X w (fun w k => ld1 w t4 k) fun t31 =>
          And (
            bsW Try.prog 30 1 [(0, t28)] w <| keepX X w fun t29 w =>
            callW Try.prog (.func (.func 83) #[] #[]) [t30, t31] w <| keepX X w fun t32 w =>
            semW Try.prog (apS [30, 30] 30 [t29, t32]) w <| keepX X w fun t33 w =>
            bsW Try.prog 23 1 [(0, t33)] w <| keepX X w fun t34 w =>
            semW Try.prog (apS [23, 23] 23 [t27, t34]) w fun t35 w =>
            stW Try.prog 23 t3 t35 w fun w =>
            k_2  w
          ) <|
          And (
            callW Try.prog (.func (.func 83) #[] #[]) [t30, t31] w <| keepX X w fun t32_2 w =>
            bsW Try.prog 30 1 [(0, t28)] w <| keepX X w fun t29_2 w =>
            semW Try.prog (apS [30, 30] 30 [t29_2, t32_2]) w <| keepX X w fun t33_2 w =>
            bsW Try.prog 23 1 [(0, t33_2)] w <| keepX X w fun t34_2 w =>
            semW Try.prog (apS [23, 23] 23 [t27, t34_2]) w fun t35_2 w =>
            stW Try.prog 23 t3 t35_2 w fun w =>
            k_2  w
          ) <|
          True
        ) fun  w =>
        ld1 w t5 fun t36 =>
        semW Try.prog (lkS 75 t36 t0 false) w fun t38 w =>
        ln1 t38 fun t39 =>
        Loop1 (.int .i64 0) w fun _ t40 w next_2 =>
          binQ Try.prog w .lss 3 false t40 t39 fun t41 =>
          condW t41 (
            iaS 1 t38 t40 fun t42 =>
            ld1 w t42 fun t43 =>
            ld1 w t6 fun t44 =>
            callW Try.prog t44 [t43] w fun t46 w =>
            binQ Try.prog w .add 3 true t40 (.int .i64 1) fun t47 =>
            next_2 t47 w
          ) (
            R (.returned (.tuple #[])) w
          )
      )
  )

def A82 : Ann where
  live := fun
    | 0 => [8]
    | 2 => [40]
    | _ => []
  wr := fun
    | 0 => fun i => Nat.beq i 8 || (Nat.ble 18 i && Nat.ble i 26)
    | 2 => fun i => Nat.beq i 10 || (Nat.ble 40 i && Nat.ble i 47)
    | _ => fun _ => false
  sched := fun
    | 5 => (.cls (.take 0 (.take 1 (.take 3 (.take 4 (.alt 2 (.eff 5 (.eff 6 (.eff 7 (.bar 8 (.bar 9 .done))))) (.alt 5 (.eff 2 (.eff 6 (.eff 7 (.bar 8 (.bar 9 .done))))) .nomore)))))))
    | _ => .done

set_option maxRecDepth 100000 in
theorem ok82 : (codeOk Try.f82.ntmps A82 (Try.f82.body.getD .skip) 0 && Nat.ble 7 Try.f82.ntmps) = true := by kernel_rfl
set_option maxRecDepth 100000 in
theorem lift82 {t0 t1 t2 t3 t4 t5 t6 : Value} {w : World} {R : Ending → World → Prop} (h : S82 t0 t1 t2 t3 t4 t5 t6 w R) : Calls Try.prog 82 #[t0, t1, t2, t3, t4, t5, t6] w R :=
  calls_of_cw (fn := Try.f82) (c := Try.f82.body.getD .skip) A82 mixes Try.func82 (by kernel_rfl) ok82
    ((by kernel_rfl : (S82 t0 t1 t2 t3 t4 t5 t6 w R) = cw Try.prog A82 (Try.f82.body.getD .skip) 0 (bodyQ Try.prog Try.f82 R) (frOf #[t0, t1, t2, t3, t4, t5, t6]) w).mp h)

def S17 (t0 t1 : Value) (w : World) (R : Ending → World → Prop) : Prop :=
  Loop1 (.int .i64 0) w fun _ t5 w next =>
    ln1 t0 fun t8 =>
    binQ Try.prog w .lss 3 false t5 t8 fun t9 =>
    condW t9 (
      binQ Try.prog w .geq 3 false t5 t1 fun t14 =>
      gd t14 false (fun k => k t0 w) w fun t16 w =>
      gd t14 false (fun k => k t5 w) w fun t17 w =>
      gd t14 false (fun k => iaS 1 t16 t17 fun v => k v w) w fun t18 w =>
      gd t14 false (fun k => ld1 w t18 fun v => k v w) w fun t19 w =>
      gd t14 false (fun k => ln1 t19 fun v => k v w) w fun t20 w =>
      gd t14 false (fun k => binQ Try.prog w .gtr 3 true t20 (.int .i64 20) fun v => k v w) w fun t21 w =>
      pickQ t14 (.bool true) t21 fun t22 =>
      condW t22 (
        R (.returned (.bool false)) w
      ) (
        binQ Try.prog w .add 3 true t5 (.int .i64 1) fun t11 =>
        next t11 w
      )
    ) (
      R (.returned (.bool true)) w
    )

def A17 : Ann where
  live := fun
    | 0 => [5]
    | _ => []
  wr := fun
    | 0 => fun i => (Nat.ble 4 i && Nat.ble i 22)
    | _ => fun _ => false
  sched := fun _ => .done

set_option maxRecDepth 100000 in
theorem ok17 : (codeOk Try.f17.ntmps A17 (Try.f17.body.getD .skip) 0 && Nat.ble 2 Try.f17.ntmps) = true := by kernel_rfl
set_option maxRecDepth 100000 in
theorem lift17 {t0 t1 : Value} {w : World} {R : Ending → World → Prop} (h : S17 t0 t1 w R) : Calls Try.prog 17 #[t0, t1] w R :=
  calls_of_cw (fn := Try.f17) (c := Try.f17.body.getD .skip) A17 mixes Try.func17 (by kernel_rfl) ok17
    ((by kernel_rfl : (S17 t0 t1 w R) = cw Try.prog A17 (Try.f17.body.getD .skip) 0 (bodyQ Try.prog Try.f17 R) (frOf #[t0, t1]) w).mp h)

def S18 (w : World) (R : Ending → World → Prop) : Prop :=
  bdQ Try.prog 32 [] fun t9 =>
  bdQ Try.prog 32 [(0, (.int .i64 1)), (2, (.int .i64 1))] fun t10 =>
  bsW Try.prog 22 2 [(0, t9), (1, t10)] w fun t11 w =>
  callW Try.prog (.func (.func 25) #[] #[]) [t11, (.int .i64 2), (.int .i64 3)] w fun t12 w =>
  exQ t12 0 fun t13 =>
  exQ t12 1 fun t14 =>
  bdQ Try.prog 32 [(2, (.int .i64 1))] fun t15 =>
  bsW Try.prog 22 1 [(0, t15)] w fun t16 w =>
  bsW Try.prog 30 2 [(0, (.int .i64 1)), (1, (.int .i64 1))] w fun t19 w =>
  bsW Try.prog 23 1 [(0, t19)] w fun t20 w =>
  callW Try.prog (.func (.func 19) #[] #[]) [t16, (.int .i64 1), (.int .i64 2), t20] w fun t21 w =>
  exQ t21 0 fun t22 =>
  exQ t21 1 fun t23 =>
  callW Try.prog (.func (.func 32) #[] #[]) [t16, (.int .i64 1), (.int .i64 2)] w fun t26 w =>
  exQ t26 0 fun t27 =>
  exQ t26 1 fun t28 =>
  binQ Try.prog w .eql 26 true t14 (.int .i64 0) fun t30 =>
  gd t30 true (fun k => k t13 w) w fun t32 w =>
  gd t30 true (fun k => binQ Try.prog w .eql 3 true t32 (.int .i64 4) fun v => k v w) w fun t33 w =>
  pickQ t30 t33 (.bool false) fun t34 =>
  gd t34 true (fun k => k t23 w) w fun t36 w =>
  gd t34 true (fun k => binQ Try.prog w .eql 26 true t36 (.int .i64 0) fun v => k v w) w fun t37 w =>
  pickQ t34 t37 (.bool false) fun t38 =>
  gd t38 true (fun k => k t22 w) w fun t40 w =>
  pickQ t38 t40 (.bool false) fun t41 =>
  gd t41 true (fun k => k t28 w) w fun t43 w =>
  gd t41 true (fun k => binQ Try.prog w .eql 26 true t43 (.int .i64 0) fun v => k v w) w fun t44 w =>
  pickQ t41 t44 (.bool false) fun t45 =>
  gd t45 true (fun k => k t27 w) w fun t47 w =>
  gd t45 true (fun k => ln1 t47 fun v => k v w) w fun t48 w =>
  gd t45 true (fun k => binQ Try.prog w .geq 3 true t48 (.int .i64 1) fun v => k v w) w fun t49 w =>
  pickQ t45 t49 (.bool false) fun t50 =>
  R (.returned t50) w

def A18 : Ann where
  live := fun _ => []
  wr := fun _ _ => false
  sched := fun _ => .done

set_option maxRecDepth 100000 in
theorem ok18 : (codeOk Try.f18.ntmps A18 (Try.f18.body.getD .skip) 0 && Nat.ble 0 Try.f18.ntmps) = true := by kernel_rfl
set_option maxRecDepth 100000 in
theorem lift18 {w : World} {R : Ending → World → Prop} (h : S18 w R) : Calls Try.prog 18 #[] w R :=
  calls_of_cw (fn := Try.f18) (c := Try.f18.body.getD .skip) A18 mixes Try.func18 (by kernel_rfl) ok18
    ((by kernel_rfl : (S18 w R) = cw Try.prog A18 (Try.f18.body.getD .skip) 0 (bodyQ Try.prog Try.f18 R) (frOf #[]) w).mp h)

theorem fok19 : fnOk Try.prog 19 = true := by kernel_rfl
theorem fok60 : fnOk Try.prog 60 = true := by kernel_rfl
theorem fok83 : fnOk Try.prog 83 = true := by kernel_rfl
theorem fok81 : fnOk Try.prog 81 = true := by kernel_rfl
theorem fok108 : fnOk Try.prog 108 = true := by kernel_rfl
theorem fok32 : fnOk Try.prog 32 = true := by kernel_rfl
theorem fok82 : fnOk Try.prog 82 = true := by kernel_rfl
theorem fok17 : fnOk Try.prog 17 = true := by kernel_rfl
theorem fok18 : fnOk Try.prog 18 = true := by kernel_rfl
end Go.Proofs.Ytgalbokmgffhkaa
