/- Texts of my own, merged by program: Sc B2 B3. -/
import Derived.Test.YtgalbokmgffhkaaM02
import Derived.Test.YtgalbokmgffhkaaM06
set_option linter.all false
/- Lifted texts, printed by program (gen.py): what each function's code asks. The ties are by the kernel. -/
namespace Go.Proofs.Ytgalbokmgffhkaa
open Go.Lf Go.RowKit

def S19 (t0 t1 t2 t3 : Value) (w : World) (R : Ending → World → Prop) : Prop :=
  callW Try.prog (.func (.func 53) #[] #[]) [t0, t1, t2] w fun t24 w =>
  binQ Try.prog w .neq 26 true t24 (.int .i64 0) fun t26 =>
  condW t26 (
    R (.returned (.tuple #[(.bool false), t24])) w
  ) (
    ln1 t3 fun t29 =>
    binQ Try.prog w .gtr 3 true t29 (.int .i64 65535) fun t30 =>
    condW t30 (
      R (.returned (.tuple #[(.bool false), (.int .i64 3)])) w
    ) (
      mmW w fun t31 w =>
      boxW 68 (.map none) w fun t11 w =>
      stW Try.prog 68 t11 t31 w fun w =>
      ln1 t3 fun t33 =>
      Loop1 (.int .i64 0) w fun _ t34 w next =>
        binQ Try.prog w .lss 3 false t34 t33 fun t35 =>
        condW t35 (
          iaS 1 t3 t34 fun t37 =>
          ld1 w t37 fun t38 =>
          ln1 t38 fun t40 =>
          binQ Try.prog w .add 3 true t1 (.int .i64 1) fun t42 =>
          binQ Try.prog w .neq 3 false t40 t42 fun t43 =>
          gd t43 false (fun k => k t38 w) w fun t45 w =>
          gd t43 false (fun k => iaS 1 t45 (.int .i64 0) fun v => k v w) w fun t46 w =>
          gd t43 false (fun k => ld1 w t46 fun v => k v w) w fun t47 w =>
          gd t43 false (fun k => binQ Try.prog w .lss 3 true t47 (.int .i64 1) fun v => k v w) w fun t48 w =>
          pickQ t43 (.bool true) t48 fun t49 =>
          gd t49 false (fun k => k t38 w) w fun t51 w =>
          gd t49 false (fun k => iaS 1 t51 (.int .i64 0) fun v => k v w) w fun t52 w =>
          gd t49 false (fun k => ld1 w t52 fun v => k v w) w fun t53 w =>
          gd t49 false (fun k => k t2 w) w fun t54 w =>
          gd t49 false (fun k => binQ Try.prog w .geq 3 false t53 t54 fun v => k v w) w fun t55 w =>
          pickQ t49 (.bool true) t55 fun t56 =>
          gd t56 false (fun k => k t38 w) w fun t58 w =>
          gd t56 false (fun k => slS 1 t58 (some (.int .i64 1)) none fun v => k v w) w fun t59 w =>
          gd t56 false (fun k => callW Try.prog (.func (.func 54) #[] #[]) [t59, (.func (.func 55) #[] #[])] w k) w fun t60 w =>
          pickQ t56 (.bool true) t60 fun t61 =>
          gd t61 false (fun k => k t34 w) w fun t63 w =>
          gd t61 false (fun k => binQ Try.prog w .gtr 3 true t63 (.int .i64 0) fun v => k v w) w fun t64 w =>
          gd t61 false (fun k => k t64 w) w fun t65 w =>
          gd t65 true (fun k => k t3 w) w fun t66 w =>
          gd t65 true (fun k => k t34 w) w fun t67 w =>
          gd t65 true (fun k => binQ Try.prog w .sub 3 true t67 (.int .i64 1) fun v => k v w) w fun t68 w =>
          gd t65 true (fun k => iaS 1 t66 t68 fun v => k v w) w fun t69 w =>
          gd t65 true (fun k => ld1 w t69 fun v => k v w) w fun t70 w =>
          gd t65 true (fun k => k t38 w) w fun t71 w =>
          gd t65 true (fun k => callW Try.prog (.func (.func 57) #[] #[]) [t70, t71] w k) w fun t72 w =>
          gd t65 true (fun k => binQ Try.prog w .geq 3 true t72 (.int .i64 0) fun v => k v w) w fun t73 w =>
          gd t61 false (fun k => pickQ t65 t73 (.bool false) fun v => k v w) w fun t74 w =>
          pickQ t61 (.bool true) t74 fun t75 =>
          condW t75 (
            R (.returned (.tuple #[(.bool false), (.int .i64 0)])) w
          ) (
            slS 1 t38 (some (.int .i64 1)) none fun t77 =>
            callW Try.prog (.func (.func 58) #[] #[]) [t77] w fun t78 w =>
            ld1 w t11 fun t79 =>
            semW Try.prog (lkS 68 t79 t78 false) w fun t81 w =>
            binQ Try.prog w .eql 3 true t81 (.int .i64 0) fun t82 =>
            Join (fun (k_2 : World → Prop) =>
              condW t82 (
                Drew w fun w =>
                ld1 w t11 fun t83 =>
                iaS 1 t38 (.int .i64 0) fun t86 =>
                ld1 w t86 fun t87 =>
                semW Try.prog (muS 68 t83 t78 t87) w fun _ w =>
                k_2 w
              ) (
                k_2 w
              )
            ) fun w =>
            binQ Try.prog w .add 3 true t34 (.int .i64 1) fun t88_2 =>
            next t88_2 w
          )
        ) (
          callW Try.prog (.func (.func 59) #[] #[]) [t0, t1] w fun t91 w =>
          mmW w fun t92 w =>
          ln1 t91 fun t94 =>
          Loop1 (.int .i64 0) w fun _ t95 w next_2 =>
            binQ Try.prog w .lss 3 false t95 t94 fun t96 =>
            condW t96 (
              iaS 7 t91 t95 fun t97 =>
              ldN 7 w t97 fun t98 =>
              boxW 78 (.agg #[(.int .i64 0), (.int .i64 0), (.int .i64 0), (.int .i64 0), (.int .i64 0), (.int .i64 0), (.bool false)]) w fun t18 w =>
              stW Try.prog 78 t18 t98 w fun w =>
              ld1 w t11 fun t99 =>
              fa1 t18 5 fun t100 =>
              ld1 w t100 fun t101 =>
              semW Try.prog (lkS 68 t99 t101 false) w fun t102 w =>
              binQ Try.prog w .eql 3 true t102 (.int .i64 0) fun t103 =>
              condW t103 (
                R (.returned (.tuple #[(.bool false), (.int .i64 0)])) w
              ) (
                Drew w fun w =>
                ∃ X : Nat → Prop,
                takeX X w (fun w k => k t92) fun t104 =>
                takeX X w (fun w k => fa1 t18 4 k) fun t105 =>
                takeX X w (fun w k => ld1 w t105 k) fun t106 =>
                takeX X w (fun w k => k t92) fun t107 =>
                takeX X w (fun w k => fa1 t18 4 k) fun t108 =>
                takeX X w (fun w k => ld1 w t108 k) fun t109 =>
                takeX X w (fun w k => genQ Try.prog w (lkS 75 t107 t109 false) k) fun t110 =>
                takeX X w (fun w k => fa1 t18 5 k) fun t111 =>
                takeX X w (fun w k => ld1 w t111 k) fun t112 =>
                bsW Try.prog 30 1 [(0, t112)] w <| keepX X w fun t113 w =>
                semW Try.prog (apS [30, 30] 30 [t110, t113]) w <| keepX X w fun t114 w =>
                semW Try.prog (muS 75 t104 t106 t114) w fun _ w =>
                binQ Try.prog w .add 3 true t95 (.int .i64 1) fun t115 =>
                next_2 t115 w
              )
            ) (
              ld1 w t11 fun t116 =>
              semW Try.prog (rgS 68 t116) w fun t117 w =>
              Loop0 w fun _ w next_3 =>
                semW Try.prog (nxS t117 false 0) w fun t118 w =>
                exQ t118 0 fun t119 =>
                condW t119 (
                  semW Try.prog (enS t117) w fun t120 w =>
                  exQ t120 0 fun t121 =>
                  exQ t120 1 fun t122 =>
                  boxW 3 (.int .i64 0) w fun t20 w =>
                  stW Try.prog 3 t20 t122 w fun w =>
                  semW Try.prog (lkS 75 t92 t121 false) w fun t125 w =>
                  callW Try.prog (.func (.func 54) #[] #[]) [t125, (.func (.func 60) #[] #[t11, t20])] w fun t127 w =>
                  condW t127 (
                    R (.returned (.tuple #[(.bool false), (.int .i64 0)])) w
                  ) (
                    next_3 w
                  )
                ) (
                  R (.returned (.tuple #[(.bool true), (.int .i64 0)])) w
                )
            )
        )
    )
  )

def A19 : Ann where
  live := fun
    | 0 => [34]
    | 2 => [95]
    | 4 => []
    | _ => []
  wr := fun
    | 0 => fun i => (Nat.ble 8 i && Nat.ble i 9) || (Nat.ble 12 i && Nat.ble i 14) || (Nat.ble 34 i && Nat.ble i 88)
    | 2 => fun i => (Nat.ble 8 i && Nat.ble i 9) || Nat.beq i 18 || (Nat.ble 95 i && Nat.ble i 115)
    | 4 => fun i => (Nat.ble 8 i && Nat.ble i 9) || (Nat.ble 19 i && Nat.ble i 20) || (Nat.ble 118 i && Nat.ble i 127)
    | _ => fun _ => false
  sched := fun
    | 14 => (.take 0 (.take 1 (.take 2 (.take 3 (.take 4 (.bar 5 .done))))))
    | 23 => (.cls (.take 0 (.take 1 (.take 2 (.take 3 (.take 4 (.take 5 (.take 6 (.take 7 (.take 8 (.eff 9 (.eff 10 (.bar 11 .done)))))))))))))
    | _ => .done

set_option maxRecDepth 100000 in
theorem ok19 : (codeOk Try.f19.ntmps A19 (Try.f19.body.getD .skip) 0 && Nat.ble 4 Try.f19.ntmps) = true := by kernel_rfl
set_option maxRecDepth 100000 in
theorem lift19 {t0 t1 t2 t3 : Value} {w : World} {R : Ending → World → Prop} (h : S19 t0 t1 t2 t3 w R) : Calls Try.prog 19 #[t0, t1, t2, t3] w R :=
  calls_of_cw (fn := Try.f19) (c := Try.f19.body.getD .skip) A19 mixes Try.func19 (by kernel_rfl) ok19
    ((by kernel_rfl : (S19 t0 t1 t2 t3 w R) = cw Try.prog A19 (Try.f19.body.getD .skip) 0 (bodyQ Try.prog Try.f19 R) (frOf #[t0, t1, t2, t3]) w).mp h)

def S60 (t0 t1 t2 : Value) (w : World) (R : Ending → World → Prop) : Prop :=
  ld1 w t1 fun t5 =>
  semW Try.prog (lkS 68 t5 t0 false) w fun t7 w =>
  ld1 w t2 fun t8 =>
  binQ Try.prog w .geq 3 false t7 t8 fun t9 =>
  R (.returned t9) w

def A60 : Ann where
  live := fun _ => []
  wr := fun _ _ => false
  sched := fun _ => .done

set_option maxRecDepth 100000 in
theorem ok60 : (codeOk Try.f60.ntmps A60 (Try.f60.body.getD .skip) 0 && Nat.ble 3 Try.f60.ntmps) = true := by kernel_rfl
set_option maxRecDepth 100000 in
theorem lift60 {t0 t1 t2 : Value} {w : World} {R : Ending → World → Prop} (h : S60 t0 t1 t2 w R) : Calls Try.prog 60 #[t0, t1, t2] w R :=
  calls_of_cw (fn := Try.f60) (c := Try.f60.body.getD .skip) A60 mixes Try.func60 (by kernel_rfl) ok60
    ((by kernel_rfl : (S60 t0 t1 t2 w R) = cw Try.prog A60 (Try.f60.body.getD .skip) 0 (bodyQ Try.prog Try.f60 R) (frOf #[t0, t1, t2]) w).mp h)

def S83 (t0 t1 : Value) (w : World) (R : Ending → World → Prop) : Prop :=
  mkW Try.prog 30 t1 t1 w fun t8 w =>
  binQ Try.prog w .sub 3 true t1 (.int .i64 1) fun t10 =>
  Loop2 t0 t10 w fun _ t0_2 t6 w next =>
    binQ Try.prog w .geq 3 true t6 (.int .i64 0) fun t12 =>
    condW t12 (
      binQ Try.prog w .rem 3 true t0_2 (.int .i64 8) fun t18 =>
      iaS 1 t8 t6 fun t19 =>
      stW Try.prog 3 t19 t18 w fun w =>
      binQ Try.prog w .quo 3 true t0_2 (.int .i64 8) fun t21 =>
      binQ Try.prog w .sub 3 true t6 (.int .i64 1) fun t14 =>
      next t21 t14 w
    ) (
      R (.returned t8) w
    )

def A83 : Ann where
  live := fun
    | 0 => [0, 6]
    | _ => []
  wr := fun
    | 0 => fun i => Nat.beq i 0 || Nat.beq i 6 || (Nat.ble 11 i && Nat.ble i 21)
    | _ => fun _ => false
  sched := fun _ => .done

set_option maxRecDepth 100000 in
theorem ok83 : (codeOk Try.f83.ntmps A83 (Try.f83.body.getD .skip) 0 && Nat.ble 2 Try.f83.ntmps) = true := by kernel_rfl
set_option maxRecDepth 100000 in
theorem lift83 {t0 t1 : Value} {w : World} {R : Ending → World → Prop} (h : S83 t0 t1 w R) : Calls Try.prog 83 #[t0, t1] w R :=
  calls_of_cw (fn := Try.f83) (c := Try.f83.body.getD .skip) A83 mixes Try.func83 (by kernel_rfl) ok83
    ((by kernel_rfl : (S83 t0 t1 w R) = cw Try.prog A83 (Try.f83.body.getD .skip) 0 (bodyQ Try.prog Try.f83 R) (frOf #[t0, t1]) w).mp h)

def S81 (t0 t1 : Value) (w : World) (R : Ending → World → Prop) : Prop :=
  callW Try.prog (.func (.func 108) #[] #[]) [t0, t1] w fun t7 w =>
  binQ Try.prog w .geq 3 true t7 (.int .i64 0) fun t8 =>
  R (.returned t8) w

def A81 : Ann where
  live := fun _ => []
  wr := fun _ _ => false
  sched := fun _ => .done

set_option maxRecDepth 100000 in
theorem ok81 : (codeOk Try.f81.ntmps A81 (Try.f81.body.getD .skip) 0 && Nat.ble 2 Try.f81.ntmps) = true := by kernel_rfl
set_option maxRecDepth 100000 in
theorem lift81 {t0 t1 : Value} {w : World} {R : Ending → World → Prop} (h : S81 t0 t1 w R) : Calls Try.prog 81 #[t0, t1] w R :=
  calls_of_cw (fn := Try.f81) (c := Try.f81.body.getD .skip) A81 mixes Try.func81 (by kernel_rfl) ok81
    ((by kernel_rfl : (S81 t0 t1 w R) = cw Try.prog A81 (Try.f81.body.getD .skip) 0 (bodyQ Try.prog Try.f81 R) (frOf #[t0, t1]) w).mp h)

def S108 (t0 t1 : Value) (w : World) (R : Ending → World → Prop) : Prop :=
  ln1 t0 fun t7 =>
  Loop1 (.int .i64 0) w fun _ t8 w next =>
    binQ Try.prog w .lss 3 false t8 t7 fun t9 =>
    condW t9 (
      iaS 1 t0 t8 fun t14 =>
      ld1 w t14 fun t15 =>
      binQ Try.prog w .eql 4 false t1 t15 fun t16 =>
      condW t16 (
        R (.returned t8) w
      ) (
        binQ Try.prog w .add 3 true t8 (.int .i64 1) fun t18 =>
        next t18 w
      )
    ) (
      R (.returned (.int .i64 (-1))) w
    )

def A108 : Ann where
  live := fun
    | 0 => [8]
    | _ => []
  wr := fun
    | 0 => fun i => (Nat.ble 4 i && Nat.ble i 5) || (Nat.ble 8 i && Nat.ble i 18)
    | _ => fun _ => false
  sched := fun _ => .done

set_option maxRecDepth 100000 in
theorem ok108 : (codeOk Try.f108.ntmps A108 (Try.f108.body.getD .skip) 0 && Nat.ble 2 Try.f108.ntmps) = true := by kernel_rfl
set_option maxRecDepth 100000 in
theorem lift108 {t0 t1 : Value} {w : World} {R : Ending → World → Prop} (h : S108 t0 t1 w R) : Calls Try.prog 108 #[t0, t1] w R :=
  calls_of_cw (fn := Try.f108) (c := Try.f108.body.getD .skip) A108 mixes Try.func108 (by kernel_rfl) ok108
    ((by kernel_rfl : (S108 t0 t1 w R) = cw Try.prog A108 (Try.f108.body.getD .skip) 0 (bodyQ Try.prog Try.f108 R) (frOf #[t0, t1]) w).mp h)

def S32 (t0 t1 t2 : Value) (w : World) (R : Ending → World → Prop) : Prop :=
  boxW 3 t1 w fun t4 w =>
  ld1 w t4 fun t20 =>
  callW Try.prog (.func (.func 53) #[] #[]) [t0, t20, t2] w fun t22 w =>
  binQ Try.prog w .neq 26 true t22 (.int .i64 0) fun t24 =>
  condW t24 (
    R (.returned (.tuple #[(.slice none 0 0), t22])) w
  ) (
    ld1 w t4 fun t27 =>
    callW Try.prog (.func (.func 59) #[] #[]) [t0, t27] w fun t28 w =>
    ld1 w t4 fun t30 =>
    callW Try.prog (.func (.func 76) #[] #[]) [t28, t30, t2] w fun t32 w =>
    boxW 88 (.slice none 0 0) w fun t10 w =>
    stW Try.prog 88 t10 t32 w fun w =>
    ld1 w t10 fun t33 =>
    iaS 1 t33 t2 fun t35 =>
    ld1 w t35 fun t36 =>
    callW Try.prog (.func (.func 81) #[] #[]) [t36, (.bool true)] w fun t37 w =>
    condW t37 (
      R (.returned (.tuple #[(.slice none 0 0), (.int .i64 10)])) w
    ) (
      boxW 23 (.slice none 0 0) w fun t11 w =>
      mmW w fun t38 w =>
      boxW 75 (.map none) w fun t12 w =>
      stW Try.prog 75 t12 t38 w fun w =>
      ln1 t28 fun t40 =>
      Loop1 (.int .i64 0) w fun _ t41 w next =>
        binQ Try.prog w .lss 3 false t41 t40 fun t42 =>
        condW t42 (
          iaS 7 t28 t41 fun t43 =>
          ldN 7 w t43 fun t44 =>
          boxW 78 (.agg #[(.int .i64 0), (.int .i64 0), (.int .i64 0), (.int .i64 0), (.int .i64 0), (.int .i64 0), (.bool false)]) w fun t14 w =>
          stW Try.prog 78 t14 t44 w fun w =>
          Drew w fun w =>
          ∃ X : Nat → Prop,
          takeX X w (fun w k => ld1 w t12 k) fun t45 =>
          takeX X w (fun w k => fa1 t14 4 k) fun t46 =>
          takeX X w (fun w k => ld1 w t46 k) fun t47 =>
          takeX X w (fun w k => ld1 w t12 k) fun t48 =>
          takeX X w (fun w k => fa1 t14 4 k) fun t49 =>
          takeX X w (fun w k => ld1 w t49 k) fun t50 =>
          takeX X w (fun w k => genQ Try.prog w (lkS 75 t48 t50 false) k) fun t51 =>
          takeX X w (fun w k => fa1 t14 5 k) fun t52 =>
          takeX X w (fun w k => ld1 w t52 k) fun t53 =>
          bsW Try.prog 30 1 [(0, t53)] w <| keepX X w fun t54 w =>
          semW Try.prog (apS [30, 30] 30 [t51, t54]) w <| keepX X w fun t55 w =>
          semW Try.prog (muS 75 t45 t47 t55) w fun _ w =>
          binQ Try.prog w .add 3 true t41 (.int .i64 1) fun t56 =>
          next t56 w
        ) (
          ld1 w t4 fun t57 =>
          callW Try.prog (.func (.func 73) #[] #[]) [t57] w fun t58 w =>
          mkW Try.prog 91 t58 t58 w fun t59 w =>
          boxW 91 (.slice none 0 0) w fun t15 w =>
          stW Try.prog 91 t15 t59 w fun w =>
          boxW 96 .nilFunc w fun t16 w =>
          stW Try.prog 96 t16 (.func (.func 82) #[] #[t15, t10, t11, t4, t12, t16]) w fun w =>
          ln1 t28 fun t62 =>
          Loop1 (.int .i64 0) w fun _ t63 w next_2 =>
            binQ Try.prog w .lss 3 false t63 t62 fun t64 =>
            condW t64 (
              iaS 7 t28 t63 fun t65 =>
              ldN 7 w t65 fun t66 =>
              boxW 78 (.agg #[(.int .i64 0), (.int .i64 0), (.int .i64 0), (.int .i64 0), (.int .i64 0), (.int .i64 0), (.bool false)]) w fun t18 w =>
              stW Try.prog 78 t18 t66 w fun w =>
              ld1 w t16 fun t67 =>
              fa1 t18 5 fun t68 =>
              ld1 w t68 fun t69 =>
              callW Try.prog t67 [t69] w fun t70 w =>
              binQ Try.prog w .add 3 true t63 (.int .i64 1) fun t71 =>
              next_2 t71 w
            ) (
              ld1 w t11 fun t72 =>
              callW Try.prog (.func (.func 84) #[] #[]) [t72, (.func (.func 85) #[] #[])] w fun t73 w =>
              ld1 w t11 fun t74 =>
              R (.returned (.tuple #[t74, (.int .i64 0)])) w
            )
        )
    )
  )

def A32 : Ann where
  live := fun
    | 0 => [41]
    | 2 => [63]
    | _ => []
  wr := fun
    | 0 => fun i => Nat.beq i 14 || (Nat.ble 41 i && Nat.ble i 56)
    | 2 => fun i => Nat.beq i 18 || (Nat.ble 63 i && Nat.ble i 71)
    | _ => fun _ => false
  sched := fun
    | 13 => (.cls (.take 0 (.take 1 (.take 2 (.take 3 (.take 4 (.take 5 (.take 6 (.take 7 (.take 8 (.eff 9 (.eff 10 (.bar 11 .done)))))))))))))
    | _ => .done

set_option maxRecDepth 100000 in
theorem ok32 : (codeOk Try.f32.ntmps A32 (Try.f32.body.getD .skip) 0 && Nat.ble 3 Try.f32.ntmps) = true := by kernel_rfl
set_option maxRecDepth 100000 in
theorem lift32 {t0 t1 t2 : Value} {w : World} {R : Ending → World → Prop} (h : S32 t0 t1 t2 w R) : Calls Try.prog 32 #[t0, t1, t2] w R :=
  calls_of_cw (fn := Try.f32) (c := Try.f32.body.getD .skip) A32 mixes Try.func32 (by kernel_rfl) ok32
    ((by kernel_rfl : (S32 t0 t1 t2 w R) = cw Try.prog A32 (Try.f32.body.getD .skip) 0 (bodyQ Try.prog Try.f32 R) (frOf #[t0, t1, t2]) w).mp h)

def S82 (t0 t1 t2 t3 t4 t5 t6 : Value) (w : World) (R : Ending → World → Prop) : Prop :=
  ld1 w t1 fun t11 =>
  iaS 1 t11 t0 fun t13 =>
  ld1 w t13 fun t14 =>
  condW t14 (
    R (.returned (.tuple #[])) w
  ) (
    ld1 w t1 fun t15 =>
    iaS 1 t15 t0 fun t17 =>
    stW Try.prog 4 t17 (.bool true) w fun w =>
    Loop1 (.int .i64 1) w fun _ t8 w next =>
      ld1 w t2 fun t18 =>
      iaS 1 t18 t8 fun t20 =>
      ld1 w t20 fun t21 =>
      iaS 1 t21 t0 fun t23 =>
      ld1 w t23 fun t24 =>
      condW t24 (
        binQ Try.prog w .add 3 true t8 (.int .i64 1) fun t26 =>
        next t26 w
      ) (
        Drew w fun w =>
        Join (fun (k_2 : World → Prop) =>
          ∃ X : Nat → Prop,
          takeX X w (fun w k => ld1 w t3 k) fun t27 =>
          takeX X w (fun w k => k t8) fun t28 =>
          takeX X w (fun w k => k t0) fun t30 =>
          takeX X w (fun w k => ld1 w t4 k) fun t31 =>
          And (
            bsW Try.prog 30 1 [(0, t28)] w <| keepX X w fun t29 w =>
            callW Try.prog (.func (.func 83) #[] #[]) [t30, t31] w <| keepX X w fun t32 w =>
            semW Try.prog (apS [30, 30] 30 [t29, t32]) w <| keepX X w fun t33 w =>
            bsW Try.prog 23 1 [(0, t33)] w <| keepX X w fun t34 w =>
            semW Try.prog (apS [23, 23] 23 [t27, t34]) w fun t35 w =>
            stW Try.prog 23 t3 t35 w fun w =>
            k_2  w
          ) <|
          And (
            callW Try.prog (.func (.func 83) #[] #[]) [t30, t31] w <| keepX X w fun t32_2 w =>
            bsW Try.prog 30 1 [(0, t28)] w <| keepX X w fun t29_2 w =>
            semW Try.prog (apS [30, 30] 30 [t29_2, t32_2]) w <| keepX X w fun t33_2 w =>
            bsW Try.prog 23 1 [(0, t33_2)] w <| keepX X w fun t34_2 w =>
            semW Try.prog (apS [23, 23] 23 [t27, t34_2]) w fun t35_2 w =>
            stW Try.prog 23 t3 t35_2 w fun w =>
            k_2  w
          ) <|
          True
        ) fun  w =>
        ld1 w t5 fun t36 =>
        semW Try.prog (lkS 75 t36 t0 false) w fun t38 w =>
        ln1 t38 fun t39 =>
        Loop1 (.int .i64 0) w fun _ t40 w next_2 =>
          binQ Try.prog w .lss 3 false t40 t39 fun t41 =>
          condW t41 (
            iaS 1 t38 t40 fun t42 =>
            ld1 w t42 fun t43 =>
            ld1 w t6 fun t44 =>
            callW Try.prog t44 [t43] w fun t46 w =>
            binQ Try.prog w .add 3 true t40 (.int .i64 1) fun t47 =>
            next_2 t47 w
          ) (
            R (.returned (.tuple #[])) w
          )
      )
  )

def A82 : Ann where
  live := fun
    | 0 => [8]
    | 2 => [40]
    | _ => []
  wr := fun
    | 0 => fun i => Nat.beq i 8 || (Nat.ble 18 i && Nat.ble i 26)
    | 2 => fun i => Nat.beq i 10 || (Nat.ble 40 i && Nat.ble i 47)
    | _ => fun _ => false
  sched := fun
    | 5 => (.cls (.take 0 (.take 1 (.take 3 (.take 4 (.alt 2 (.eff 5 (.eff 6 (.eff 7 (.bar 8 (.bar 9 .done))))) (.alt 5 (.eff 2 (.eff 6 (.eff 7 (.bar 8 (.bar 9 .done))))) .nomore)))))))
    | _ => .done

set_option maxRecDepth 100000 in
theorem ok82 : (codeOk Try.f82.ntmps A82 (Try.f82.body.getD .skip) 0 && Nat.ble 7 Try.f82.ntmps) = true := by kernel_rfl
set_option maxRecDepth 100000 in
theorem lift82 {t0 t1 t2 t3 t4 t5 t6 : Value} {w : World} {R : Ending → World → Prop} (h : S82 t0 t1 t2 t3 t4 t5 t6 w R) : Calls Try.prog 82 #[t0, t1, t2, t3, t4, t5, t6] w R :=
  calls_of_cw (fn := Try.f82) (c := Try.f82.body.getD .skip) A82 mixes Try.func82 (by kernel_rfl) ok82
    ((by kernel_rfl : (S82 t0 t1 t2 t3 t4 t5 t6 w R) = cw Try.prog A82 (Try.f82.body.getD .skip) 0 (bodyQ Try.prog Try.f82 R) (frOf #[t0, t1, t2, t3, t4, t5, t6]) w).mp h)

def S17 (t0 t1 : Value) (w : World) (R : Ending → World → Prop) : Prop :=
  Loop1 (.int .i64 0) w fun _ t5 w next =>
    ln1 t0 fun t8 =>
    binQ Try.prog w .lss 3 false t5 t8 fun t9 =>
    condW t9 (
      binQ Try.prog w .geq 3 false t5 t1 fun t14 =>
      gd t14 false (fun k => k t0 w) w fun t16 w =>
      gd t14 false (fun k => k t5 w) w fun t17 w =>
      gd t14 false (fun k => iaS 1 t16 t17 fun v => k v w) w fun t18 w =>
      gd t14 false (fun k => ld1 w t18 fun v => k v w) w fun t19 w =>
      gd t14 false (fun k => ln1 t19 fun v => k v w) w fun t20 w =>
      gd t14 false (fun k => binQ Try.prog w .gtr 3 true t20 (.int .i64 20) fun v => k v w) w fun t21 w =>
      pickQ t14 (.bool true) t21 fun t22 =>
      condW t22 (
        R (.returned (.bool false)) w
      ) (
        binQ Try.prog w .add 3 true t5 (.int .i64 1) fun t11 =>
        next t11 w
      )
    ) (
      R (.returned (.bool true)) w
    )

def A17 : Ann where
  live := fun
    | 0 => [5]
    | _ => []
  wr := fun
    | 0 => fun i => (Nat.ble 4 i && Nat.ble i 22)
    | _ => fun _ => false
  sched := fun _ => .done

set_option maxRecDepth 100000 in
theorem ok17 : (codeOk Try.f17.ntmps A17 (Try.f17.body.getD .skip) 0 && Nat.ble 2 Try.f17.ntmps) = true := by kernel_rfl
set_option maxRecDepth 100000 in
theorem lift17 {t0 t1 : Value} {w : World} {R : Ending → World → Prop} (h : S17 t0 t1 w R) : Calls Try.prog 17 #[t0, t1] w R :=
  calls_of_cw (fn := Try.f17) (c := Try.f17.body.getD .skip) A17 mixes Try.func17 (by kernel_rfl) ok17
    ((by kernel_rfl : (S17 t0 t1 w R) = cw Try.prog A17 (Try.f17.body.getD .skip) 0 (bodyQ Try.prog Try.f17 R) (frOf #[t0, t1]) w).mp h)

def S18 (w : World) (R : Ending → World → Prop) : Prop :=
  bdQ Try.prog 32 [] fun t9 =>
  bdQ Try.prog 32 [(0, (.int .i64 1)), (2, (.int .i64 1))] fun t10 =>
  bsW Try.prog 22 2 [(0, t9), (1, t10)] w fun t11 w =>
  callW Try.prog (.func (.func 25) #[] #[]) [t11, (.int .i64 2), (.int .i64 3)] w fun t12 w =>
  exQ t12 0 fun t13 =>
  exQ t12 1 fun t14 =>
  bdQ Try.prog 32 [(2, (.int .i64 1))] fun t15 =>
  bsW Try.prog 22 1 [(0, t15)] w fun t16 w =>
  bsW Try.prog 30 2 [(0, (.int .i64 1)), (1, (.int .i64 1))] w fun t19 w =>
  bsW Try.prog 23 1 [(0, t19)] w fun t20 w =>
  callW Try.prog (.func (.func 19) #[] #[]) [t16, (.int .i64 1), (.int .i64 2), t20] w fun t21 w =>
  exQ t21 0 fun t22 =>
  exQ t21 1 fun t23 =>
  callW Try.prog (.func (.func 32) #[] #[]) [t16, (.int .i64 1), (.int .i64 2)] w fun t26 w =>
  exQ t26 0 fun t27 =>
  exQ t26 1 fun t28 =>
  binQ Try.prog w .eql 26 true t14 (.int .i64 0) fun t30 =>
  gd t30 true (fun k => k t13 w) w fun t32 w =>
  gd t30 true (fun k => binQ Try.prog w .eql 3 true t32 (.int .i64 4) fun v => k v w) w fun t33 w =>
  pickQ t30 t33 (.bool false) fun t34 =>
  gd t34 true (fun k => k t23 w) w fun t36 w =>
  gd t34 true (fun k => binQ Try.prog w .eql 26 true t36 (.int .i64 0) fun v => k v w) w fun t37 w =>
  pickQ t34 t37 (.bool false) fun t38 =>
  gd t38 true (fun k => k t22 w) w fun t40 w =>
  pickQ t38 t40 (.bool false) fun t41 =>
  gd t41 true (fun k => k t28 w) w fun t43 w =>
  gd t41 true (fun k => binQ Try.prog w .eql 26 true t43 (.int .i64 0) fun v => k v w) w fun t44 w =>
  pickQ t41 t44 (.bool false) fun t45 =>
  gd t45 true (fun k => k t27 w) w fun t47 w =>
  gd t45 true (fun k => ln1 t47 fun v => k v w) w fun t48 w =>
  gd t45 true (fun k => binQ Try.prog w .geq 3 true t48 (.int .i64 1) fun v => k v w) w fun t49 w =>
  pickQ t45 t49 (.bool false) fun t50 =>
  R (.returned t50) w

def A18 : Ann where
  live := fun _ => []
  wr := fun _ _ => false
  sched := fun _ => .done

set_option maxRecDepth 100000 in
theorem ok18 : (codeOk Try.f18.ntmps A18 (Try.f18.body.getD .skip) 0 && Nat.ble 0 Try.f18.ntmps) = true := by kernel_rfl
set_option maxRecDepth 100000 in
theorem lift18 {w : World} {R : Ending → World → Prop} (h : S18 w R) : Calls Try.prog 18 #[] w R :=
  calls_of_cw (fn := Try.f18) (c := Try.f18.body.getD .skip) A18 mixes Try.func18 (by kernel_rfl) ok18
    ((by kernel_rfl : (S18 w R) = cw Try.prog A18 (Try.f18.body.getD .skip) 0 (bodyQ Try.prog Try.f18 R) (frOf #[]) w).mp h)

theorem fok19 : fnOk Try.prog 19 = true := by kernel_rfl
theorem fok60 : fnOk Try.prog 60 = true := by kernel_rfl
theorem fok83 : fnOk Try.prog 83 = true := by kernel_rfl
theorem fok81 : fnOk Try.prog 81 = true := by kernel_rfl
theorem fok108 : fnOk Try.prog 108 = true := by kernel_rfl
theorem fok32 : fnOk Try.prog 32 = true := by kernel_rfl
theorem fok82 : fnOk Try.prog 82 = true := by kernel_rfl
theorem fok17 : fnOk Try.prog 17 = true := by kernel_rfl
theorem fok18 : fnOk Try.prog 18 = true := by kernel_rfl
end Go.Proofs.Ytgalbokmgffhkaa

/- Contracts: slices.Compare, slices.ContainsFunc at integers, the closures of Refutes. -/
namespace Go.Proofs.Ytgalbokmgffhkaa
open Go.Lf Go.RowKit Go.Wg

def cmp1 (x y : Int) : Int := if x < y then -1 else if y < x then 1 else 0
def cmpL : List Int → List Int → Int
  | [], [] => 0
  | [], _ :: _ => -1
  | _ :: _, [] => 1
  | x :: a, y :: b => if x < y then -1 else if y < x then 1 else cmpL a b

theorem cmp_calls (x y : Int) (w : World) : Calls Try.prog 103 #[.int .i64 x, .int .i64 y] w fun e w' => e = .returned (.int .i64 (cmp1 x y)) ∧ w = w' := by
  refine lift103 ?_
  unfold S103
  have hn : ∀ x, Calls Try.prog 118 #[.int .i64 x] w fun e w' => e = .returned (.bool false) ∧ w = w' := fun x => by
    refine lift118 ?_
    unfold S118
    simp only [r_ln, r_pick, r_pickT, r_pickF, r_condT, r_condF, r_gdTT, r_gdFF, r_gdTF, r_gdFT, r_gqTT, r_gqFF, r_gqTF, r_gqFT, r_not, r_lss, r_leq, r_gtr, r_geq, r_eql, r_neq, r_add, r_sub, r_min2, r_max2, r_min3, r_max3, r_fa, r_iaS, r_iaA, r_ex2a, r_ex2b, r_ex3a, r_ex3b, r_ex3c, r_nc, r_keepE, Nat.zero_add, Nat.add_zero, Nat.mul_one, Int.toNat_natCast, toNat_sub1, toNat_add1, decide_true, decide_false, Bool.not_true, Bool.not_false, if_true, if_false, Bool.false_eq_true, reduceCtorEq, decide_eq_true (rfl : x = x)]
    exact ⟨by first | rfl | trivial, by first | rfl | trivial⟩
  refine r_use fok118 (hn x) rfl ?_
  rintro _ _ ⟨rfl, rfl⟩
  refine ⟨_, rfl, ?_⟩
  refine r_use fok118 (hn y) rfl ?_
  rintro _ _ ⟨rfl, rfl⟩
  refine ⟨_, rfl, ?_⟩
  unfold cmp1
  by_cases h1 : x < y
  · simp only [r_ln, r_pick, r_pickT, r_pickF, r_condT, r_condF, r_gdTT, r_gdFF, r_gdTF, r_gdFT, r_gqTT, r_gqFF, r_gqTF, r_gqFT, r_not, r_lss, r_leq, r_gtr, r_geq, r_eql, r_neq, r_add, r_sub, r_min2, r_max2, r_min3, r_max3, r_fa, r_iaS, r_iaA, r_ex2a, r_ex2b, r_ex3a, r_ex3b, r_ex3c, r_nc, r_keepE, Nat.zero_add, Nat.add_zero, Nat.mul_one, Int.toNat_natCast, toNat_sub1, toNat_add1, decide_true, decide_false, Bool.not_true, Bool.not_false, if_true, if_false, Bool.false_eq_true, reduceCtorEq, h1]
    exact ⟨by first | rfl | trivial, by first | rfl | trivial⟩
  by_cases h2 : y < x
  · simp only [r_ln, r_pick, r_pickT, r_pickF, r_condT, r_condF, r_gdTT, r_gdFF, r_gdTF, r_gdFT, r_gqTT, r_gqFF, r_gqTF, r_gqFT, r_not, r_lss, r_leq, r_gtr, r_geq, r_eql, r_neq, r_add, r_sub, r_min2, r_max2, r_min3, r_max3, r_fa, r_iaS, r_iaA, r_ex2a, r_ex2b, r_ex3a, r_ex3b, r_ex3c, r_nc, r_keepE, Nat.zero_add, Nat.add_zero, Nat.mul_one, Int.toNat_natCast, toNat_sub1, toNat_add1, decide_true, decide_false, Bool.not_true, Bool.not_false, if_true, if_false, Bool.false_eq_true, reduceCtorEq, h1, h2]
    exact ⟨by first | rfl | trivial, by first | rfl | trivial⟩
  · simp only [r_ln, r_pick, r_pickT, r_pickF, r_condT, r_condF, r_gdTT, r_gdFF, r_gdTF, r_gdFT, r_gqTT, r_gqFF, r_gqTF, r_gqFT, r_not, r_lss, r_leq, r_gtr, r_geq, r_eql, r_neq, r_add, r_sub, r_min2, r_max2, r_min3, r_max3, r_fa, r_iaS, r_iaA, r_ex2a, r_ex2b, r_ex3a, r_ex3b, r_ex3c, r_nc, r_keepE, Nat.zero_add, Nat.add_zero, Nat.mul_one, Int.toNat_natCast, toNat_sub1, toNat_add1, decide_true, decide_false, Bool.not_true, Bool.not_false, if_true, if_false, Bool.false_eq_true, reduceCtorEq, h1, h2]
    exact ⟨by first | rfl | trivial, by first | rfl | trivial⟩

theorem cmpL_step {a b : List Int} {i : Nat} (ha : i < a.length) (hb : i < b.length) : cmpL (a.drop i) (b.drop i) = if cmp1 (a.getD i 0) (b.getD i 0) = 0 then cmpL (a.drop (i + 1)) (b.drop (i + 1)) else cmp1 (a.getD i 0) (b.getD i 0) := by
  rw [List.drop_eq_getElem_cons ha, List.drop_eq_getElem_cons hb, getD_lt _ _ _ ha, getD_lt _ _ _ hb]
  simp only [cmpL, cmp1]
  split
  · simp
  · split
    · simp
    · simp

set_option maxRecDepth 100000 in
theorem compare_calls {va vb : Value} {a b : List Int} (w : World) (ha : RdInts w va a) (hb : RdInts w vb b) : Calls Try.prog 57 #[va, vb] w fun e w' => e = .returned (.int .i64 (cmpL a b)) ∧ w = w' := by
  obtain ⟨aa, ac, rfl, hal⟩ := ha.len
  obtain ⟨ba, bc, rfl, hbl⟩ := hb.len
  refine lift57 ?_
  unfold S57
  simp only [r_ln, r_pick, r_pickT, r_pickF, r_condT, r_condF, r_gdTT, r_gdFF, r_gdTF, r_gdFT, r_gqTT, r_gqFF, r_gqTF, r_gqFT, r_not, r_lss, r_leq, r_gtr, r_geq, r_eql, r_neq, r_add, r_sub, r_min2, r_max2, r_min3, r_max3, r_fa, r_iaS, r_iaA, r_ex2a, r_ex2b, r_ex3a, r_ex3b, r_ex3c, r_nc, r_keepE, Nat.zero_add, Nat.add_zero, Nat.mul_one, Int.toNat_natCast, toNat_sub1, toNat_add1, decide_true, decide_false, Bool.not_true, Bool.not_false, if_true, if_false, Bool.false_eq_true, reduceCtorEq]
  refine ⟨fun t11 wr => ∃ i : Nat, i ≤ a.length ∧ i ≤ b.length ∧ t11 = .int .i64 i ∧ cmpL a b = cmpL (a.drop i) (b.drop i) ∧ w = wr, fun t11 _ => a.length - (intOf t11).toNat, ⟨0, by omega, by omega, rfl, by simp, rfl⟩, ?_⟩
  rintro _ _ _ ⟨i, hi, hib, rfl, hc, rfl⟩
  by_cases hlt : i < a.length
  case neg =>
    have hlt' : ¬ (i : Int) < (a.length : Int) := by omega
    rw [List.drop_eq_nil_of_le (show a.length ≤ i by omega)] at hc
    by_cases hl : a.length < b.length
    · have hl' : (a.length : Int) < (b.length : Int) := by omega
      have : ∃ y ys, b.drop i = y :: ys := ⟨b[i]'(by omega), b.drop (i + 1), List.drop_eq_getElem_cons (by omega)⟩
      obtain ⟨y, ys, e⟩ := this
      rw [e] at hc
      simp (disch := omega) only [r_ln, r_pick, r_pickT, r_pickF, r_condT, r_condF, r_gdTT, r_gdFF, r_gdTF, r_gdFT, r_gqTT, r_gqFF, r_gqTF, r_gqFT, r_not, r_lss, r_leq, r_gtr, r_geq, r_eql, r_neq, r_add, r_sub, r_min2, r_max2, r_min3, r_max3, r_fa, r_iaS, r_iaA, r_ex2a, r_ex2b, r_ex3a, r_ex3b, r_ex3c, r_nc, r_keepE, Nat.zero_add, Nat.add_zero, Nat.mul_one, Int.toNat_natCast, toNat_sub1, toNat_add1, decide_true, decide_false, Bool.not_true, Bool.not_false, if_true, if_false, Bool.false_eq_true, reduceCtorEq, hlt', hl']
      exact ⟨by rw [hc]; rfl, by first | rfl | trivial⟩
    · have hl' : ¬ (a.length : Int) < (b.length : Int) := by omega
      rw [List.drop_eq_nil_of_le (show b.length ≤ i by omega)] at hc
      simp (disch := omega) only [r_ln, r_pick, r_pickT, r_pickF, r_condT, r_condF, r_gdTT, r_gdFF, r_gdTF, r_gdFT, r_gqTT, r_gqFF, r_gqTF, r_gqFT, r_not, r_lss, r_leq, r_gtr, r_geq, r_eql, r_neq, r_add, r_sub, r_min2, r_max2, r_min3, r_max3, r_fa, r_iaS, r_iaA, r_ex2a, r_ex2b, r_ex3a, r_ex3b, r_ex3c, r_nc, r_keepE, Nat.zero_add, Nat.add_zero, Nat.mul_one, Int.toNat_natCast, toNat_sub1, toNat_add1, decide_true, decide_false, Bool.not_true, Bool.not_false, if_true, if_false, Bool.false_eq_true, reduceCtorEq, hlt', hl']
      exact ⟨by rw [hc]; rfl, by first | rfl | trivial⟩
  have hlt' : (i : Int) < (a.length : Int) := by omega
  obtain ⟨ab, ao, _, ea, ac'⟩ := ha.at hlt
  cases ea
  by_cases hbi : i < b.length
  case neg =>
    have hbi' : (b.length : Int) ≤ (i : Int) := by omega
    have e1 : a.drop i = a[i] :: a.drop (i + 1) := List.drop_eq_getElem_cons hlt
    rw [List.drop_eq_nil_of_le (show b.length ≤ i by omega), e1] at hc
    simp (disch := omega) only [r_ln, r_pick, r_pickT, r_pickF, r_condT, r_condF, r_gdTT, r_gdFF, r_gdTF, r_gdFT, r_gqTT, r_gqFF, r_gqTF, r_gqFT, r_not, r_lss, r_leq, r_gtr, r_geq, r_eql, r_neq, r_add, r_sub, r_min2, r_max2, r_min3, r_max3, r_fa, r_iaS, r_iaA, r_ex2a, r_ex2b, r_ex3a, r_ex3b, r_ex3c, r_nc, r_keepE, Nat.zero_add, Nat.add_zero, Nat.mul_one, Int.toNat_natCast, toNat_sub1, toNat_add1, decide_true, decide_false, Bool.not_true, Bool.not_false, if_true, if_false, Bool.false_eq_true, reduceCtorEq, decide_eq_true hlt', r_ld ac', decide_eq_true hbi']
    exact ⟨by rw [hc]; rfl, by first | rfl | trivial⟩
  have hbi' : ¬ (b.length : Int) ≤ (i : Int) := by omega
  obtain ⟨bb, bo, _, eb, bc'⟩ := hb.at hbi
  cases eb
  rw [cmpL_step hlt hbi] at hc
  simp (disch := omega) only [r_ln, r_pick, r_pickT, r_pickF, r_condT, r_condF, r_gdTT, r_gdFF, r_gdTF, r_gdFT, r_gqTT, r_gqFF, r_gqTF, r_gqFT, r_not, r_lss, r_leq, r_gtr, r_geq, r_eql, r_neq, r_add, r_sub, r_min2, r_max2, r_min3, r_max3, r_fa, r_iaS, r_iaA, r_ex2a, r_ex2b, r_ex3a, r_ex3b, r_ex3c, r_nc, r_keepE, Nat.zero_add, Nat.add_zero, Nat.mul_one, Int.toNat_natCast, toNat_sub1, toNat_add1, decide_true, decide_false, Bool.not_true, Bool.not_false, if_true, if_false, Bool.false_eq_true, reduceCtorEq, decide_eq_true hlt', r_ld ac', hbi', r_ld bc']
  refine r_use fok103 (cmp_calls _ _ w) rfl ?_
  rintro _ _ ⟨rfl, rfl⟩
  refine ⟨_, rfl, ?_⟩
  by_cases hz : cmp1 (a.getD i 0) (b.getD i 0) = 0
  · rw [if_pos hz] at hc
    simp (disch := omega) only [r_ln, r_pick, r_pickT, r_pickF, r_condT, r_condF, r_gdTT, r_gdFF, r_gdTF, r_gdFT, r_gqTT, r_gqFF, r_gqTF, r_gqFT, r_not, r_lss, r_leq, r_gtr, r_geq, r_eql, r_neq, r_add, r_sub, r_min2, r_max2, r_min3, r_max3, r_fa, r_iaS, r_iaA, r_ex2a, r_ex2b, r_ex3a, r_ex3b, r_ex3c, r_nc, r_keepE, Nat.zero_add, Nat.add_zero, Nat.mul_one, Int.toNat_natCast, toNat_sub1, toNat_add1, decide_true, decide_false, Bool.not_true, Bool.not_false, if_true, if_false, Bool.false_eq_true, reduceCtorEq, decide_eq_true hz]
    exact ⟨⟨i + 1, by omega, by omega, by go_num, hc, by first | rfl | trivial⟩, by simp only [intOf]; omega⟩
  · rw [if_neg hz] at hc
    simp (disch := omega) only [r_ln, r_pick, r_pickT, r_pickF, r_condT, r_condF, r_gdTT, r_gdFF, r_gdTF, r_gdFT, r_gqTT, r_gqFF, r_gqTF, r_gqFT, r_not, r_lss, r_leq, r_gtr, r_geq, r_eql, r_neq, r_add, r_sub, r_min2, r_max2, r_min3, r_max3, r_fa, r_iaS, r_iaA, r_ex2a, r_ex2b, r_ex3a, r_ex3b, r_ex3c, r_nc, r_keepE, Nat.zero_add, Nat.add_zero, Nat.mul_one, Int.toNat_natCast, toNat_sub1, toNat_add1, decide_true, decide_false, Bool.not_true, Bool.not_false, if_true, if_false, Bool.false_eq_true, reduceCtorEq, decide_eq_false hz]
    exact ⟨by rw [hc], by first | rfl | trivial⟩

set_option maxRecDepth 100000 in
/-- slices.ContainsFunc, IndexFunc at integers, for a test that keeps what is there. -/
theorem indexF_calls {v fv : Value} {l : List Int} (p : Int → Bool) (w : World) (hr : RdInts w v l)
    (hc : ∀ x ∈ l, ∀ (w' : World) (K : Value → World → Prop), Kp w w' → (∀ w'', Kp w' w'' → K (.bool (p x)) w'') → callW Try.prog fv [.int .i64 x] w' K) :
    Calls Try.prog 102 #[v, fv] w fun e w' => ∃ n : Int, e = .returned (.int .i64 n) ∧ decide (0 ≤ n) = l.any p ∧ Kp w w' := by
  obtain ⟨a, cap, rfl, hl⟩ := hr.len
  refine lift102 ?_
  unfold S102
  simp only [r_ln, r_pick, r_pickT, r_pickF, r_condT, r_condF, r_gdTT, r_gdFF, r_gdTF, r_gdFT, r_gqTT, r_gqFF, r_gqTF, r_gqFT, r_not, r_lss, r_leq, r_gtr, r_geq, r_eql, r_neq, r_add, r_sub, r_min2, r_max2, r_min3, r_max3, r_fa, r_iaS, r_iaA, r_ex2a, r_ex2b, r_ex3a, r_ex3b, r_ex3c, r_nc, r_keepE, Nat.zero_add, Nat.add_zero, Nat.mul_one, Int.toNat_natCast, toNat_sub1, toNat_add1, decide_true, decide_false, Bool.not_true, Bool.not_false, if_true, if_false, Bool.false_eq_true, reduceCtorEq]
  refine ⟨fun t8 wr => ∃ i : Nat, i ≤ l.length ∧ t8 = .int .i64 i ∧ (l.take i).any p = false ∧ Kp w wr, fun t8 _ => l.length - (intOf t8).toNat, ⟨0, by omega, rfl, by simp, Kp.refl _⟩, ?_⟩
  rintro _ _ wr ⟨i, hi, rfl, hn, hk⟩
  by_cases hlt : i < l.length
  case neg =>
    have hlt' : ¬ (i : Int) < (l.length : Int) := by omega
    rw [List.take_of_length_le (by omega)] at hn
    simp (disch := omega) only [r_ln, r_pick, r_pickT, r_pickF, r_condT, r_condF, r_gdTT, r_gdFF, r_gdTF, r_gdFT, r_gqTT, r_gqFF, r_gqTF, r_gqFT, r_not, r_lss, r_leq, r_gtr, r_geq, r_eql, r_neq, r_add, r_sub, r_min2, r_max2, r_min3, r_max3, r_fa, r_iaS, r_iaA, r_ex2a, r_ex2b, r_ex3a, r_ex3b, r_ex3c, r_nc, r_keepE, Nat.zero_add, Nat.add_zero, Nat.mul_one, Int.toNat_natCast, toNat_sub1, toNat_add1, decide_true, decide_false, Bool.not_true, Bool.not_false, if_true, if_false, Bool.false_eq_true, reduceCtorEq, hlt']
    exact ⟨-1, rfl, by rw [hn]; decide, hk⟩
  have hlt' : (i : Int) < (l.length : Int) := by omega
  obtain ⟨b, off, _, e, hcell⟩ := (hr.below hk).at hlt
  cases e
  simp (disch := omega) only [r_ln, r_pick, r_pickT, r_pickF, r_condT, r_condF, r_gdTT, r_gdFF, r_gdTF, r_gdFT, r_gqTT, r_gqFF, r_gqTF, r_gqFT, r_not, r_lss, r_leq, r_gtr, r_geq, r_eql, r_neq, r_add, r_sub, r_min2, r_max2, r_min3, r_max3, r_fa, r_iaS, r_iaA, r_ex2a, r_ex2b, r_ex3a, r_ex3b, r_ex3c, r_nc, r_keepE, Nat.zero_add, Nat.add_zero, Nat.mul_one, Int.toNat_natCast, toNat_sub1, toNat_add1, decide_true, decide_false, Bool.not_true, Bool.not_false, if_true, if_false, Bool.false_eq_true, reduceCtorEq, decide_eq_true hlt', r_ld hcell]
  refine hc _ (getD_mem hlt) wr _ hk fun w2 k2 => ?_
  have htk : l.take (i + 1) = l.take i ++ [l.getD i 0] := by rw [take_succ' _ _ hlt, getD_lt _ _ _ hlt]
  cases hp : p (l.getD i 0) with
  | true =>
    simp (disch := omega) only [r_ln, r_pick, r_pickT, r_pickF, r_condT, r_condF, r_gdTT, r_gdFF, r_gdTF, r_gdFT, r_gqTT, r_gqFF, r_gqTF, r_gqFT, r_not, r_lss, r_leq, r_gtr, r_geq, r_eql, r_neq, r_add, r_sub, r_min2, r_max2, r_min3, r_max3, r_fa, r_iaS, r_iaA, r_ex2a, r_ex2b, r_ex3a, r_ex3b, r_ex3c, r_nc, r_keepE, Nat.zero_add, Nat.add_zero, Nat.mul_one, Int.toNat_natCast, toNat_sub1, toNat_add1, decide_true, decide_false, Bool.not_true, Bool.not_false, if_true, if_false, Bool.false_eq_true, reduceCtorEq]
    refine ⟨i, rfl, ?_, Kp.trans hk k2⟩
    have : l.any p = true := List.any_eq_true.2 ⟨_, getD_mem hlt, hp⟩
    rw [this]
    exact decide_eq_true (by omega)
  | false =>
    simp (disch := omega) only [r_ln, r_pick, r_pickT, r_pickF, r_condT, r_condF, r_gdTT, r_gdFF, r_gdTF, r_gdFT, r_gqTT, r_gqFF, r_gqTF, r_gqFT, r_not, r_lss, r_leq, r_gtr, r_geq, r_eql, r_neq, r_add, r_sub, r_min2, r_max2, r_min3, r_max3, r_fa, r_iaS, r_iaA, r_ex2a, r_ex2b, r_ex3a, r_ex3b, r_ex3c, r_nc, r_keepE, Nat.zero_add, Nat.add_zero, Nat.mul_one, Int.toNat_natCast, toNat_sub1, toNat_add1, decide_true, decide_false, Bool.not_true, Bool.not_false, if_true, if_false, Bool.false_eq_true, reduceCtorEq]
    exact ⟨⟨i + 1, by omega, by go_num, by rw [htk, List.any_append, hn, List.any_cons, List.any_nil, hp]; rfl, Kp.trans hk k2⟩, by simp only [intOf]; omega⟩

theorem containsF_calls {v fv : Value} {l : List Int} (p : Int → Bool) (w : World) (hr : RdInts w v l)
    (hc : ∀ x ∈ l, ∀ (w' : World) (K : Value → World → Prop), Kp w w' → (∀ w'', Kp w' w'' → K (.bool (p x)) w'') → callW Try.prog fv [.int .i64 x] w' K) :
    Calls Try.prog 54 #[v, fv] w fun e w' => e = .returned (.bool (l.any p)) ∧ Kp w w' := by
  refine lift54 ?_
  unfold S54
  refine r_use fok102 (indexF_calls p w hr hc) rfl ?_
  rintro _ w1 ⟨n, rfl, hn, k1⟩
  refine ⟨_, rfl, ?_⟩
  simp only [r_ln, r_pick, r_pickT, r_pickF, r_condT, r_condF, r_gdTT, r_gdFF, r_gdTF, r_gdFT, r_gqTT, r_gqFF, r_gqTF, r_gqFT, r_not, r_lss, r_leq, r_gtr, r_geq, r_eql, r_neq, r_add, r_sub, r_min2, r_max2, r_min3, r_max3, r_fa, r_iaS, r_iaA, r_ex2a, r_ex2b, r_ex3a, r_ex3b, r_ex3c, r_nc, r_keepE, Nat.zero_add, Nat.add_zero, Nat.mul_one, Int.toNat_natCast, toNat_sub1, toNat_add1, decide_true, decide_false, Bool.not_true, Bool.not_false, if_true, if_false, Bool.false_eq_true, reduceCtorEq, hn]
  exact ⟨by first | rfl | trivial, k1⟩

/-- The test of Refutes: no colour. -/
theorem nocol_call (x : Int) (w : World) (K : Value → World → Prop) (h : ∀ w', Kp w w' → K (.bool (!colB x)) w') : callW Try.prog (.func (.func 55) #[] #[]) [.int .i64 x] w K := by
  have hc : Calls Try.prog 55 #[.int .i64 x] w fun e w' => e = .returned (.bool (!colB x)) ∧ w = w' := by
    refine lift55 ?_
    unfold S55
    refine r_use fok56 (colour_calls x w) rfl ?_
    rintro _ _ ⟨rfl, rfl⟩
    refine ⟨_, rfl, ?_⟩
    simp only [r_ln, r_pick, r_pickT, r_pickF, r_condT, r_condF, r_gdTT, r_gdFF, r_gdTF, r_gdFT, r_gqTT, r_gqFF, r_gqTF, r_gqFT, r_not, r_lss, r_leq, r_gtr, r_geq, r_eql, r_neq, r_add, r_sub, r_min2, r_max2, r_min3, r_max3, r_fa, r_iaS, r_iaA, r_ex2a, r_ex2b, r_ex3a, r_ex3b, r_ex3c, r_nc, r_keepE, Nat.zero_add, Nat.add_zero, Nat.mul_one, Int.toNat_natCast, toNat_sub1, toNat_add1, decide_true, decide_false, Bool.not_true, Bool.not_false, if_true, if_false, Bool.false_eq_true, reduceCtorEq]
    exact ⟨by first | rfl | trivial, by first | rfl | trivial⟩
  refine r_use fok55 hc rfl ?_
  rintro _ _ ⟨rfl, rfl⟩
  exact ⟨_, rfl, h w (Kp.refl _)⟩

theorem rd_from {w : World} {a : Option Addr} {n c j : Nat} {l : List Int} (h : RdInts w (.slice a n c) l) (hj : j ≤ l.length) : RdInts w (.slice (if c = j then a else a.map fun x => x.add (j * 1)) (n - j) (c - j)) (l.drop j) := by
  obtain ⟨a', cap, e, hl, hh⟩ := h
  cases e
  have hd : (l.drop j).length = l.length - j := List.length_drop
  refine ⟨_, c - j, by rw [hd], by omega, fun h0 => ?_⟩
  obtain ⟨b, off, rfl, hcell⟩ := hh (by omega)
  refine ⟨b, off + j, ?_, fun i hi => ?_⟩
  · rw [if_neg (by omega)]
    simp [r_addr]
  · have := hcell (j + i) (by omega)
    rw [Nat.add_assoc, this]
    simp [List.getD_eq_getElem?_getD, List.getElem?_drop]

end Go.Proofs.Ytgalbokmgffhkaa

/- Contract: Refutes of the program. -/
namespace Go.Proofs.Ytgalbokmgffhkaa
open Go.Lf Go.RowKit Go.Wg

abbrev nilS : Value := .slice none 0 0
def rowB (W H : Nat) (p : List Int) : Bool := decide (p.length = W + 1) && decide (1 ≤ p.getD 0 0) && decide (p.getD 0 0 < H) && (p.drop 1).all colB
def upB (proof : List (List Int)) (i : Nat) : Bool := decide (i = 0) || decide (cmpL (proof.getD (i - 1) []) (proof.getD i []) < 0)
def okP (W H : Nat) (proof : List (List Int)) : Prop := ∀ i, i < proof.length → rowB W H (proof.getD i []) = true ∧ upB proof i = true
def deadF (d : Int → Int) (p : List Int) : Int → Int := if d (code (p.drop 1)) = 0 then upd d (code (p.drop 1)) (p.getD 0 0) else d
def deadL (proof : List (List Int)) : Int → Int := proof.foldl deadF (fun _ => 0)
def finP (L : List Line) (d : Int → Int) : Prop := (∀ x ∈ L, d x.2.2.1 ≠ 0) ∧ ∀ c, d c ≠ 0 → ∀ x ∈ L, x.2.1 = c → d x.2.2.1 < d c
def grpL (L : List Line) (c : Int) : List Int := (L.filter fun x => decide (x.2.1 = c)).map fun x => x.2.2.1

theorem und68 : Try.prog.underlying 68 = some (.map 3 3) := by kernel_rfl
theorem und75 : Try.prog.underlying 75 = some (.map 3 30) := by kernel_rfl
theorem zero3 (w : World) : (zeroValue 3).run Try.prog w = .ok (iK 0) w := by kernel_rfl
theorem zero30 (w : World) : (zeroValue 30).run Try.prog w = .ok nilS w := by kernel_rfl

theorem any_not (l : List Int) : (l.any fun x => !colB x) = !(l.all colB) := by
  induction l with
  | nil => rfl
  | cons x l ih => simp [ih]
theorem all_cols {l : List Int} (h : l.all colB = true) : Cols l := fun x hx => by
  have := List.all_eq_true.1 h x hx
  simpa [colB] using this

/-- A map of lists, each in memory of its own. -/
def GrpAt (base : Nat) (w : World) (b : Nat) (N : Int → List Int) : Prop := ∃ f, MapF w b nilS f ∧ (∀ c, IntsAt base w (f c) (N c)) ∧ ∀ c c', c ≠ c' → ∀ k, (f c).ownBlock = some k → (f c').ownBlock ≠ some k

theorem GrpAt.chg {S : Nat → Prop} {base : Nat} {w w' : World} {b : Nat} {N : Int → List Int} (h : GrpAt base w b N) (hc : Chg S w w') (hb : ¬ S b) (hs : ∀ k, base ≤ k → k < w.heap.size → ¬ S k) : GrpAt base w' b N := by
  obtain ⟨f, h1, h2, h3⟩ := h
  exact ⟨f, h1.chg hc hb, fun c => (h2 c).chg hc fun k hk => hs k ((h2 c).lt hk).1 ((h2 c).lt hk).2, h3⟩
theorem GrpAt.kp {base : Nat} {w w' : World} {b : Nat} {N : Int → List Int} (h : GrpAt base w b N) (hc : Kp w w') : GrpAt base w' b N := by
  obtain ⟨f, h1, h2, h3⟩ := h
  exact ⟨f, h1.kp hc, fun c => (h2 c).kp hc, h3⟩

/-- The test of Refutes on the heights. -/
theorem high_call {d : Int → Int} {k x : Int} {bm b11 b20 : Nat} (w : World) (hm : MapF w bm (iK 0) fun c => iK (d c)) (h11 : w.heap[b11]? = some (.cells #[.map (some bm)] 68 (0, 0))) (h20 : w.heap[b20]? = some (.cells #[.int .i64 k] 3 (0, 0))) (hx : IKey x)
    (w' : World) (hk : Kp w w') (K : Value → World → Prop) (h : ∀ w'', Kp w' w'' → K (.bool (decide (k ≤ d x))) w'') : callW Try.prog (.func (.func 60) #[] #[.pointer (some ⟨b11, 0, none⟩), .pointer (some ⟨b20, 0, none⟩)]) [.int .i64 x] w' K := by
  have hc : Calls Try.prog 60 #[.int .i64 x, .pointer (some ⟨b11, 0, none⟩), .pointer (some ⟨b20, 0, none⟩)] w' fun e w'' => e = .returned (.bool (decide (k ≤ d x))) ∧ w' = w'' := by
    refine lift60 ?_
    unfold S60
    have c1 : w'.cell? ⟨b11, 0, none⟩ = some (.map (some bm)) := by rw [cell_row (block_below h11 hk)]; rfl
    have c2 : w'.cell? ⟨b20, 0, none⟩ = some (.int .i64 k) := by rw [cell_row (block_below h20 hk)]; rfl
    rw [r_ld c1, r_lkF und68 zero3 (hm.kp hk) hx, r_ld c2]
    simp only [r_ln, r_pick, r_pickT, r_pickF, r_condT, r_condF, r_gdTT, r_gdFF, r_gdTF, r_gdFT, r_gqTT, r_gqFF, r_gqTF, r_gqFT, r_not, r_lss, r_leq, r_gtr, r_geq, r_eql, r_neq, r_add, r_sub, r_min2, r_max2, r_min3, r_max3, r_fa, r_iaS, r_iaA, r_ex2a, r_ex2b, r_ex3a, r_ex3b, r_ex3c, r_nc, r_keepE, Nat.zero_add, Nat.add_zero, Nat.mul_one, Int.toNat_natCast, toNat_sub1, toNat_add1, decide_true, decide_false, Bool.not_true, Bool.not_false, if_true, if_false, Bool.false_eq_true, reduceCtorEq]
    exact ⟨by first | rfl | trivial, by first | rfl | trivial⟩
  refine r_use fok60 hc rfl ?_
  rintro _ _ ⟨rfl, rfl⟩
  exact ⟨_, rfl, h w' (Kp.refl _)⟩

set_option maxRecDepth 100000 in
/-- append(v, xs...) where v is one's own, and where the new slice lies. -/
theorem r_apAt {t e ty : TypeId} {size bytes base n m c : Nat} {v : Value} {xs news : List Value} {a : Addr} {w : World} {K : Value → World → Prop} (T : SlT t e size bytes)
    (hown : w.ownsRow base e size v n xs) (hl : news.length = m * size) (hnews : ∀ j u, news[j]? = some u → w.cell? (a.add j) = some u) (h1 : ∀ u ∈ news, u.oneCell' = true)
    (hn : n + m ≤ 1099511627776) (hby : bytes ≤ 128) (hb : base ≤ w.heap.size)
    (hk : ∀ v' w', w'.ownsRow base e size v' (n + m) (xs ++ news) → Chg (fun k => v.ownBlock = some k) w w' → (∀ k, v'.ownBlock = some k → v.ownBlock = some k ∨ w.heap.size ≤ k) → K v' w') : semW Try.prog (apS [t, t] ty [v, .slice (some a) m c]) w K := by
  obtain ⟨i, z, i1, i2, i3, i4, i5⟩ := T.info
  have hb2 : (n + m) * bytes ≤ 140737488355328 := Nat.le_trans (Nat.mul_le_mul hn hby) (by decide)
  obtain ⟨v', w', hr, ho, hg, _, hat⟩ := run_append_own_at (P := Try.prog) (w := w) base t ty e i z size bytes T.und i1 i2 i3 i4 i5 T.pos v n xs hown a m c news hl hnews h1 (by unfold maxLen; omega) hb2 hb
  refine semW_of_run (by simp [apS, hr]) (hk v' w' ho (Chg.of_grown hg fun k hk => hk) fun k hk => ?_)
  rcases hat with h | h
  · exact .inl (h ▸ hk)
  · rw [h] at hk
    cases hk
    exact .inr (by omega)

theorem grp_take {L : List Line} {i : Nat} {x : Line} (hx : L[i]? = some x) (c : Int) : grpL (L.take (i + 1)) c = grpL (L.take i) c ++ if x.2.1 = c then [x.2.2.1] else [] := by
  have : L.take (i + 1) = L.take i ++ [x] := by rw [List.take_add_one, hx]; rfl
  rw [this, grpL, List.filter_append, List.map_append]
  congr 1
  by_cases h : x.2.1 = c <;> simp [h]
theorem grp_len (L : List Line) (c : Int) : (grpL L c).length ≤ L.length := by
  rw [grpL, List.length_map]
  exact List.length_filter_le _ _
theorem mem_grp {L : List Line} {c s : Int} : s ∈ grpL L c ↔ ∃ x ∈ L, x.2.1 = c ∧ x.2.2.1 = s := by
  simp only [grpL, List.mem_map, List.mem_filter, decide_eq_true_eq]
  constructor
  · rintro ⟨x, ⟨h1, h2⟩, h3⟩; exact ⟨x, h1, h2, h3⟩
  · rintro ⟨x, h1, h2, h3⟩; exact ⟨x, ⟨h1, h2⟩, h3⟩

/-- What Refutes returns. -/
def RefPost (l : List Tile) (a b : Int) (proof : List (List Int)) (e : Ending) : Prop :=
  (ordErr l a b ≠ 0 ∧ e = .returned (.tuple #[.bool false, .int .i64 2])) ∨ (ordErr l a b = 0 ∧ 65535 < proof.length ∧ e = .returned (.tuple #[.bool false, .int .i64 3])) ∨
    (ordErr l a b = 0 ∧ proof.length ≤ 65535 ∧ ∃ r, e = .returned (.tuple #[.bool r, .int .i64 0]) ∧ (r = true ↔ okP a.toNat b.toNat proof ∧ finP (linesL l a.toNat) (deadL proof)))

set_option maxRecDepth 100000 in
set_option maxHeartbeats 800000 in
theorem refutes_calls {v pv : Value} {l : List Tile} {proof : List (List Int)} (a b : Int) (w : World) (hr : RdT w v l) (hp : RdRows w pv proof) :
    Calls Try.prog 19 #[v, .int .i64 a, .int .i64 b, pv] w fun e w' => Kp w w' ∧ RefPost l a b proof e := by
  obtain ⟨pa, pcap, rfl, hpl⟩ := hp.len
  refine lift19 ?_
  unfold S19
  refine r_use fok53 (board_calls a b w hr) rfl ?_
  rintro _ w1 ⟨rfl, k1⟩
  refine ⟨_, rfl, ?_⟩
  have h20 : ¬ ((2 : Int) = 0) := by decide
  rcases ordErr_cases l a b with he | he
  rotate_left
  · simp (disch := omega) only [r_ln, r_pick, r_pickT, r_pickF, r_condT, r_condF, r_gdTT, r_gdFF, r_gdTF, r_gdFT, r_gqTT, r_gqFF, r_gqTF, r_gqFT, r_not, r_lss, r_leq, r_gtr, r_geq, r_eql, r_neq, r_add, r_sub, r_min2, r_max2, r_min3, r_max3, r_fa, r_iaS, r_iaA, r_ex2a, r_ex2b, r_ex3a, r_ex3b, r_ex3c, r_nc, r_keepE, Nat.zero_add, Nat.add_zero, Nat.mul_one, Int.toNat_natCast, toNat_sub1, toNat_add1, decide_true, decide_false, Bool.not_true, Bool.not_false, if_true, if_false, Bool.false_eq_true, reduceCtorEq, he, h20]
    exact ⟨k1, .inl ⟨by rw [he]; decide, rfl⟩⟩
  obtain ⟨hs, W, H, rfl, rfl, hW, hH⟩ := ord_ok he
  by_cases hlen : (65535 : Int) < (proof.length : Int)
  · simp (disch := omega) only [r_ln, r_pick, r_pickT, r_pickF, r_condT, r_condF, r_gdTT, r_gdFF, r_gdTF, r_gdFT, r_gqTT, r_gqFF, r_gqTF, r_gqFT, r_not, r_lss, r_leq, r_gtr, r_geq, r_eql, r_neq, r_add, r_sub, r_min2, r_max2, r_min3, r_max3, r_fa, r_iaS, r_iaA, r_ex2a, r_ex2b, r_ex3a, r_ex3b, r_ex3c, r_nc, r_keepE, Nat.zero_add, Nat.add_zero, Nat.mul_one, Int.toNat_natCast, toNat_sub1, toNat_add1, decide_true, decide_false, Bool.not_true, Bool.not_false, if_true, if_false, Bool.false_eq_true, reduceCtorEq, he, decide_eq_true (rfl : (0 : Int) = 0), decide_eq_true hlen]
    exact ⟨k1, .inr (.inl ⟨he, by omega, rfl⟩)⟩
  simp (disch := omega) only [r_ln, r_pick, r_pickT, r_pickF, r_condT, r_condF, r_gdTT, r_gdFF, r_gdTF, r_gdFT, r_gqTT, r_gqFF, r_gqTF, r_gqFT, r_not, r_lss, r_leq, r_gtr, r_geq, r_eql, r_neq, r_add, r_sub, r_min2, r_max2, r_min3, r_max3, r_fa, r_iaS, r_iaA, r_ex2a, r_ex2b, r_ex3a, r_ex3b, r_ex3c, r_nc, r_keepE, Nat.zero_add, Nat.add_zero, Nat.mul_one, Int.toNat_natCast, toNat_sub1, toNat_add1, decide_true, decide_false, Bool.not_true, Bool.not_false, if_true, if_false, Bool.false_eq_true, reduceCtorEq, he, decide_eq_true (rfl : (0 : Int) = 0), hlen, mmW]
  have m2 := map_new w1 (iK 0)
  have k2 : Kp w1 (w1.alloc (.map #[] 0)) := below_alloc _
  have sz2 : (w1.alloc (.map #[] 0)).heap.size = w1.heap.size + 1 := by show (w1.heap.push _).size = _; simp
  generalize hbm : w1.heap.size = bm at *
  generalize w1.alloc (.map #[] 0) = w2 at *
  refine r_box fun b11 w3 e3 s3 h3 k3 => ?_
  refine r_stAll (n := 1) (ty := 68) (cs := #[.map none]) (by kernel_rfl) rfl (by intro u hu; simp [Value.cells] at hu; subst hu; rfl) h3 rfl fun w4 c4 s4 h4 => ?_
  have sk1 := k1.size
  have m4 : MapF w4 bm (iK 0) (fun c => iK (deadL [] c)) := (m2.kp k3).chg c4 (by omega)
  have k04 : Kp w w4 := Kp.of_chg (Kp.trans k1 (Kp.trans k2 k3)) c4 fun i e => by have := (Kp.trans k1 k2).size; omega
  try simp only [Int.toNat_natCast]
  have hbmw : w.heap.size ≤ bm := by omega
  refine ⟨fun t34 wr => ∃ i : Nat, i ≤ proof.length ∧ t34 = .int .i64 i ∧ (∀ k, k < i → rowB W H (proof.getD k []) = true ∧ upB proof k = true) ∧ MapF wr bm (iK 0) (fun c => iK (deadL (proof.take i) c)) ∧ wr.heap[b11]? = some (.cells #[.map (some bm)] 68 (0, 0)) ∧ Kp w wr ∧ Kp w1 wr,
    fun t34 _ => proof.length - (intOf t34).toNat, ⟨0, by omega, rfl, fun k hk => absurd hk (by omega), m4, h4, k04, Kp.of_chg (Kp.trans k2 k3) c4 fun i e => by omega⟩, ?_⟩
  rintro _ _ wr ⟨i, hi, rfl, hok, hmr, h11, kr, kr1⟩
  by_cases hlt : i < proof.length
  case neg =>
    have hlt' : ¬ (i : Int) < (proof.length : Int) := by omega
    rw [List.take_of_length_le (by omega)] at hmr
    have hokP : okP W H proof := fun k hk => hok k (by omega)
    have outF : ¬ finP (linesL l W) (deadL proof) → RefPost l W H proof (.returned (.tuple #[.bool false, .int .i64 0])) := fun hb => by
      refine .inr (.inr ⟨he, by omega, false, rfl, ?_⟩)
      constructor
      · intro h; cases h
      · intro h; exact absurd h.2 hb
    have outT : finP (linesL l W) (deadL proof) → RefPost l W H proof (.returned (.tuple #[.bool true, .int .i64 0])) := fun hb =>
      .inr (.inr ⟨he, by omega, true, rfl, fun _ => ⟨hokP, hb⟩, fun _ => rfl⟩)
    simp (disch := omega) only [r_ln, r_pick, r_pickT, r_pickF, r_condT, r_condF, r_gdTT, r_gdFF, r_gdTF, r_gdFT, r_gqTT, r_gqFF, r_gqTF, r_gqFT, r_not, r_lss, r_leq, r_gtr, r_geq, r_eql, r_neq, r_add, r_sub, r_min2, r_max2, r_min3, r_max3, r_fa, r_iaS, r_iaA, r_ex2a, r_ex2b, r_ex3a, r_ex3b, r_ex3c, r_nc, r_keepE, Nat.zero_add, Nat.add_zero, Nat.mul_one, Int.toNat_natCast, toNat_sub1, toNat_add1, decide_true, decide_false, Bool.not_true, Bool.not_false, if_true, if_false, Bool.false_eq_true, reduceCtorEq, hlt']
    refine r_use fok59 (rows_calls hs hW wr (hr.kp kr)) rfl ?_
    rintro _ w5 ⟨lv, rfl, k5, hL⟩
    refine ⟨_, rfl, ?_⟩
    change LnAt _ _ _ (linesL l W) at hL
    have hlo := lines_ok hs hW.2
    have hll := lines_len hs hW.2
    have h8 := pow8N_le hW.2
    try simp only [mmW]
    have mg := map_new w5 nilS
    have kg : Kp w5 (w5.alloc (.map #[] 0)) := below_alloc _
    have sg : (w5.alloc (.map #[] 0)).heap.size = w5.heap.size + 1 := by show (w5.heap.push _).size = _; simp
    generalize hbn : w5.heap.size = bn at *
    generalize w5.alloc (.map #[] 0) = w6 at *
    obtain ⟨la, lcap, rfl, hlc⟩ := hL.len
    have hkp5 : Kp w w5 := Kp.trans kr k5
    have m5 := hmr.kp k5
    have h115 := block_below h11 k5
    have hrdL := hL.rd lnC_len
    generalize linesL l W = L at *
    generalize deadL proof = D at *
    have ikey : ∀ x ∈ L, IKey x.2.1 ∧ IKey x.2.2.1 := fun x hx => by
      obtain ⟨⟨x1, x2⟩, x3, x4⟩ := hlo x hx
      have e8 : ((8 ^ W : Nat) : Int) ≤ 4096 := by exact_mod_cast h8
      exact ⟨⟨by omega, by omega⟩, by omega, by omega⟩
    try simp only [r_ln, r_pick, r_pickT, r_pickF, r_condT, r_condF, r_gdTT, r_gdFF, r_gdTF, r_gdFT, r_gqTT, r_gqFF, r_gqTF, r_gqFT, r_not, r_lss, r_leq, r_gtr, r_geq, r_eql, r_neq, r_add, r_sub, r_min2, r_max2, r_min3, r_max3, r_fa, r_iaS, r_iaA, r_ex2a, r_ex2b, r_ex3a, r_ex3b, r_ex3c, r_nc, r_keepE, Nat.zero_add, Nat.add_zero, Nat.mul_one, Int.toNat_natCast, toNat_sub1, toNat_add1, decide_true, decide_false, Bool.not_true, Bool.not_false, if_true, if_false, Bool.false_eq_true, reduceCtorEq]
    refine ⟨fun t95 wq => ∃ q : Nat, q ≤ L.length ∧ t95 = .int .i64 q ∧ (∀ x ∈ L.take q, D x.2.2.1 ≠ 0) ∧ GrpAt w6.heap.size wq bn (grpL (L.take q)) ∧ Kp w5 wq ∧ w6.heap.size ≤ wq.heap.size, fun t95 _ => L.length - (intOf t95).toNat,
      ⟨0, by omega, rfl, by simp, ⟨_, mg, fun c => by simp only [grpL, List.take_zero, List.filter_nil, List.map_nil]; exact RecAt.nil, fun c c' _ k h => by cases h⟩, kg, Nat.le_refl _⟩, ?_⟩
    rintro _ _ wq ⟨q, hq, rfl, hdq, hgq, kq, sq⟩
    have mq := m5.kp kq
    have h11q := block_below h115 kq
    have bm5 := m5.lt
    have b115 := block_lt h115
    have kwq := Kp.trans hkp5 kq
    by_cases hql : q < L.length
    case neg =>
      have hql' : ¬ (q : Int) < (L.length : Int) := by omega
      rw [List.take_of_length_le (by omega)] at hdq hgq
      have c11 : wq.cell? ⟨b11, 0, none⟩ = some (.map (some bm)) := by rw [cell_row h11q]; rfl
      simp (disch := omega) only [r_ln, r_pick, r_pickT, r_pickF, r_condT, r_condF, r_gdTT, r_gdFF, r_gdTF, r_gdFT, r_gqTT, r_gqFF, r_gqTF, r_gqFT, r_not, r_lss, r_leq, r_gtr, r_geq, r_eql, r_neq, r_add, r_sub, r_min2, r_max2, r_min3, r_max3, r_fa, r_iaS, r_iaA, r_ex2a, r_ex2b, r_ex3a, r_ex3b, r_ex3c, r_nc, r_keepE, Nat.zero_add, Nat.add_zero, Nat.mul_one, Int.toNat_natCast, toNat_sub1, toNat_add1, decide_true, decide_false, Bool.not_true, Bool.not_false, if_true, if_false, Bool.false_eq_true, reduceCtorEq, hql', r_ld c11]
      refine r_rgF und68 mq fun z1 left0 hit kz1 => ?_
      obtain ⟨f, hf1, hf2, hf3⟩ := hgq
      have sz1 := kz1.size
      have hwq := kwq.size
      have hbnq := hf1.lt
      refine ⟨fun wz => ∃ (left : Nat) (seen : Int → Prop), IterF wz bm wq.heap.size (iK 0) (fun c => iK (D c)) left seen ∧ (∀ c, seen c → ∀ x ∈ L, x.2.1 = c → D x.2.2.1 < D c) ∧ Chg (fun k => k = wq.heap.size) z1 wz, fun wz => leftW wz bm wq.heap.size, ⟨left0, _, hit, fun c h => h.elim, Chg.refl _ _⟩, ?_⟩
      rintro _ wz ⟨left, seen, hitz, hsz, cz⟩
      have kwz : Kp w wz := Kp.of_chg (Kp.trans kwq kz1) cz fun k e => by omega
      have hlw := hitz.left
      have bmq := mq.lt
      have b11q := block_lt h11q
      refine r_nxF hitz (fun hall => ?_) fun c w' left' hik hcz hll' hit' hch hss hen => ?_
      · rw [r_exQ _ 0 (.bool false) rfl, r_condF]
        exact ⟨kwz, outT ⟨hdq, fun c hc x hx hxc => hsz c (hall c fun e => hc (iK_inj e)) x hx hxc⟩⟩
      have hDc : D c ≠ 0 := fun e => hcz (by rw [e])
      simp only [r_ln, r_pick, r_pickT, r_pickF, r_condT, r_condF, r_gdTT, r_gdFF, r_gdTF, r_gdFT, r_gqTT, r_gqFF, r_gqTF, r_gqFT, r_not, r_lss, r_leq, r_gtr, r_geq, r_eql, r_neq, r_add, r_sub, r_min2, r_max2, r_min3, r_max3, r_fa, r_iaS, r_iaA, r_ex2a, r_ex2b, r_ex3a, r_ex3b, r_ex3c, r_nc, r_keepE, Nat.zero_add, Nat.add_zero, Nat.mul_one, Int.toNat_natCast, toNat_sub1, toNat_add1, decide_true, decide_false, Bool.not_true, Bool.not_false, if_true, if_false, Bool.false_eq_true, reduceCtorEq]
      rw [hen]
      simp only [r_ln, r_pick, r_pickT, r_pickF, r_condT, r_condF, r_gdTT, r_gdFF, r_gdTF, r_gdFT, r_gqTT, r_gqFF, r_gqTF, r_gqFT, r_not, r_lss, r_leq, r_gtr, r_geq, r_eql, r_neq, r_add, r_sub, r_min2, r_max2, r_min3, r_max3, r_fa, r_iaS, r_iaA, r_ex2a, r_ex2b, r_ex3a, r_ex3b, r_ex3c, r_nc, r_keepE, Nat.zero_add, Nat.add_zero, Nat.mul_one, Int.toNat_natCast, toNat_sub1, toNat_add1, decide_true, decide_false, Bool.not_true, Bool.not_false, if_true, if_false, Bool.false_eq_true, reduceCtorEq]
      have cz' : Chg (fun k => k = wq.heap.size) z1 w' := cz.trans hch
      refine r_box fun b20 u1 e20 s20 h20 v1 => ?_
      refine r_stAll (n := 1) (ty := 3) (cs := #[.int .i64 0]) (by kernel_rfl) rfl (by intro u hu; simp [Value.cells] at hu; subst hu; rfl) h20 rfl fun u2 d2 s2' h202 => ?_
      have v2 : Kp w' u2 := Kp.of_chg v1 d2 fun i e => by omega
      have kw' : Kp w w' := Kp.of_chg (Kp.trans kwq kz1) cz' fun k e => by omega
      have hfu : MapF u2 bn nilS f := ((hf1.kp kz1).chg cz' (by omega)).kp v2
      have hiu : IntsAt w6.heap.size u2 (f c) (grpL L c) := (((hf2 c).kp kz1).chg cz' fun k hk e => by have := ((hf2 c).lt hk).2; omega).kp v2
      have hdu : MapF u2 bm (iK 0) (fun c => iK (D c)) := ((mq.kp kz1).chg cz' (by omega)).kp v2
      have h11u : u2.heap[b11]? = some (.cells #[.map (some bm)] 68 (0, 0)) := block_below (cz'.at (block_below h11q kz1) (by omega)) v2
      rw [r_lkF und75 zero30 hfu hik]
      have hgl := grp_len L c
      refine r_use fok54 (containsF_calls (fun s => decide (D c ≤ D s)) u2 ((hiu.rd iC_len).ints (by omega)) fun s hs u3 K v3 hK => ?_) rfl ?_
      · obtain ⟨x, hx, _, rfl⟩ := mem_grp.1 hs
        exact high_call u2 hdu h11u h202 (ikey x hx).2 u3 v3 K hK
      rintro _ u4 ⟨rfl, v4⟩
      refine ⟨_, rfl, ?_⟩
      have v24 := Kp.trans v2 v4
      cases hany : (grpL L c).any fun s => decide (D c ≤ D s) with
      | true =>
        simp only [r_ln, r_pick, r_pickT, r_pickF, r_condT, r_condF, r_gdTT, r_gdFF, r_gdTF, r_gdFT, r_gqTT, r_gqFF, r_gqTF, r_gqFT, r_not, r_lss, r_leq, r_gtr, r_geq, r_eql, r_neq, r_add, r_sub, r_min2, r_max2, r_min3, r_max3, r_fa, r_iaS, r_iaA, r_ex2a, r_ex2b, r_ex3a, r_ex3b, r_ex3c, r_nc, r_keepE, Nat.zero_add, Nat.add_zero, Nat.mul_one, Int.toNat_natCast, toNat_sub1, toNat_add1, decide_true, decide_false, Bool.not_true, Bool.not_false, if_true, if_false, Bool.false_eq_true, reduceCtorEq]
        refine ⟨Kp.trans kw' v24, outF fun h => ?_⟩
        obtain ⟨s, hs, hle⟩ := List.any_eq_true.1 hany
        obtain ⟨x, hx, hxc, rfl⟩ := mem_grp.1 hs
        have := h.2 c hDc x hx hxc
        simp only [decide_eq_true_eq] at hle
        omega
      | false =>
        simp only [r_ln, r_pick, r_pickT, r_pickF, r_condT, r_condF, r_gdTT, r_gdFF, r_gdTF, r_gdFT, r_gqTT, r_gqFF, r_gqTF, r_gqFT, r_not, r_lss, r_leq, r_gtr, r_geq, r_eql, r_neq, r_add, r_sub, r_min2, r_max2, r_min3, r_max3, r_fa, r_iaS, r_iaA, r_ex2a, r_ex2b, r_ex3a, r_ex3b, r_ex3c, r_nc, r_keepE, Nat.zero_add, Nat.add_zero, Nat.mul_one, Int.toNat_natCast, toNat_sub1, toNat_add1, decide_true, decide_false, Bool.not_true, Bool.not_false, if_true, if_false, Bool.false_eq_true, reduceCtorEq]
        have hit2 : IterF u4 bm wq.heap.size (iK 0) (fun c => iK (D c)) left' (fun x => seen x ∨ x = c) := hit'.chg (Chg.of_kp (S := fun _ => False) v24) id id
        refine ⟨⟨left', _, hit2, fun c' hc' x hx hxc => ?_, cz'.trans (Chg.of_kp v24)⟩, by rw [hit2.left, hlw]; exact hll'⟩
        rcases hc' with h | rfl
        · exact hsz c' h x hx hxc
        · refine Int.lt_of_not_ge fun hge => ?_
          have := List.any_eq_false.1 hany _ (mem_grp.2 ⟨x, hx, hxc, rfl⟩)
          simp only [decide_eq_true_eq] at this
          exact this hge
    have hql' : (q : Int) < (L.length : Int) := by omega
    obtain ⟨x, hx⟩ : ∃ x, L[q]? = some x := ⟨_, List.getElem?_eq_getElem hql⟩
    have hxm := List.mem_of_getElem? hx
    obtain ⟨lb, lo, lc, el, _, hld⟩ := RdL.line (hrdL.kp kq) hx
    cases el
    simp (disch := omega) only [r_ln, r_pick, r_pickT, r_pickF, r_condT, r_condF, r_gdTT, r_gdFF, r_gdTF, r_gdFT, r_gqTT, r_gqFF, r_gqTF, r_gqFT, r_not, r_lss, r_leq, r_gtr, r_geq, r_eql, r_neq, r_add, r_sub, r_min2, r_max2, r_min3, r_max3, r_fa, r_iaS, r_iaA, r_ex2a, r_ex2b, r_ex3a, r_ex3b, r_ex3c, r_nc, r_keepE, Nat.zero_add, Nat.add_zero, Nat.mul_one, Int.toNat_natCast, toNat_sub1, toNat_add1, decide_true, decide_false, Bool.not_true, Bool.not_false, if_true, if_false, Bool.false_eq_true, reduceCtorEq, decide_eq_true hql', hld]
    refine r_box fun b18 x2 e18 s18 h18 y2 => ?_
    refine r_stAll (n := 7) (ty := 78) (by kernel_rfl) rfl (by intro u hu; simp [Value.cells] at hu; rcases hu with rfl | rfl | rfl | rfl | rfl | rfl | rfl <;> rfl) h18 rfl fun x3 c18 s18' h183 => ?_
    have y3 : Kp wq x3 := Kp.of_chg y2 c18 fun i e => by omega
    have c11 : x3.cell? ⟨b11, 0, none⟩ = some (.map (some bm)) := by rw [cell_row (block_below h11q y3)]; rfl
    have c5 : x3.cell? ⟨b18, 5, none⟩ = some (.int .i64 x.2.2.1) := by rw [cell_row h183]; rfl
    obtain ⟨ik1, ik2⟩ := ikey x hxm
    rw [r_ld c11]
    simp only [r_ln, r_pick, r_pickT, r_pickF, r_condT, r_condF, r_gdTT, r_gdFF, r_gdTF, r_gdFT, r_gqTT, r_gqFF, r_gqTF, r_gqFT, r_not, r_lss, r_leq, r_gtr, r_geq, r_eql, r_neq, r_add, r_sub, r_min2, r_max2, r_min3, r_max3, r_fa, r_iaS, r_iaA, r_ex2a, r_ex2b, r_ex3a, r_ex3b, r_ex3c, r_nc, r_keepE, Nat.zero_add, Nat.add_zero, Nat.mul_one, Int.toNat_natCast, toNat_sub1, toNat_add1, decide_true, decide_false, Bool.not_true, Bool.not_false, if_true, if_false, Bool.false_eq_true, reduceCtorEq]
    rw [r_ld c5, r_lkF und68 zero3 (mq.kp y3) ik2, r_eql]
    by_cases hd0 : D x.2.2.1 = 0
    · simp (disch := omega) only [r_ln, r_pick, r_pickT, r_pickF, r_condT, r_condF, r_gdTT, r_gdFF, r_gdTF, r_gdFT, r_gqTT, r_gqFF, r_gqTF, r_gqFT, r_not, r_lss, r_leq, r_gtr, r_geq, r_eql, r_neq, r_add, r_sub, r_min2, r_max2, r_min3, r_max3, r_fa, r_iaS, r_iaA, r_ex2a, r_ex2b, r_ex3a, r_ex3b, r_ex3c, r_nc, r_keepE, Nat.zero_add, Nat.add_zero, Nat.mul_one, Int.toNat_natCast, toNat_sub1, toNat_add1, decide_true, decide_false, Bool.not_true, Bool.not_false, if_true, if_false, Bool.false_eq_true, reduceCtorEq, decide_eq_true hd0]
      exact ⟨Kp.trans kwq y3, outF fun h => h.1 x hxm hd0⟩
    simp (disch := omega) only [r_ln, r_pick, r_pickT, r_pickF, r_condT, r_condF, r_gdTT, r_gdFF, r_gdTF, r_gdFT, r_gqTT, r_gqFF, r_gqTF, r_gqFT, r_not, r_lss, r_leq, r_gtr, r_geq, r_eql, r_neq, r_add, r_sub, r_min2, r_max2, r_min3, r_max3, r_fa, r_iaS, r_iaA, r_ex2a, r_ex2b, r_ex3a, r_ex3b, r_ex3c, r_nc, r_keepE, Nat.zero_add, Nat.add_zero, Nat.mul_one, Int.toNat_natCast, toNat_sub1, toNat_add1, decide_true, decide_false, Bool.not_true, Bool.not_false, if_true, if_false, Bool.false_eq_true, reduceCtorEq, hd0]
    refine r_drew fun x4 y4 _ => ?_
    have y04 := Kp.trans y3 y4
    have h184 := block_below h183 y4
    have c4' : x4.cell? ⟨b18, 4, none⟩ = some (.int .i64 x.2.1) := by rw [cell_row h184]; rfl
    have c5' : x4.cell? ⟨b18, 5, none⟩ = some (.int .i64 x.2.2.1) := by rw [cell_row h184]; rfl
    obtain ⟨f, hf1, hf2, hf3⟩ := hgq.kp y04
    have hfc := hf2 x.2.1
    have sy := y04.size
    have sx3 := y3.size
    have fb : ∀ c k, (f c).ownBlock = some k → w6.heap.size ≤ k ∧ k ≠ b18 := fun c k hk => by
      refine ⟨((hf2 c).lt hk).1, fun e => ?_⟩
      obtain ⟨f0, _, g2, _⟩ := hgq
      subst e
      rcases (hf2 c).2 with ⟨h, _⟩ | ⟨g, cap, cur, h, _, hg, _⟩
      · rw [h] at hk; cases hk
      · rw [h] at hk
        cases hk
        rw [h184] at hg
        injection hg with hg
        injection hg with _ h3 _
        exact absurd h3 (by decide)
    have nb18 : ¬ (fun k => (f x.2.1).ownBlock = some k) b18 := fun h => (fb _ _ h).2 rfl
    have nbn : ¬ (fun k => (f x.2.1).ownBlock = some k) bn := fun h => by have := (fb _ _ h).1; omega
    refine ⟨fun k => (f x.2.1).ownBlock = some k, ?_⟩
    simp only [r_ln, r_pick, r_pickT, r_pickF, r_condT, r_condF, r_gdTT, r_gdFF, r_gdTF, r_gdFT, r_gqTT, r_gqFF, r_gqTF, r_gqFT, r_not, r_lss, r_leq, r_gtr, r_geq, r_eql, r_neq, r_add, r_sub, r_min2, r_max2, r_min3, r_max3, r_fa, r_iaS, r_iaA, r_ex2a, r_ex2b, r_ex3a, r_ex3b, r_ex3c, r_nc, r_keepE, Nat.zero_add, Nat.add_zero, Nat.mul_one, Int.toNat_natCast, toNat_sub1, toNat_add1, decide_true, decide_false, Bool.not_true, Bool.not_false, if_true, if_false, Bool.false_eq_true, reduceCtorEq, r_tx, r_txl (X := fun k => (f x.2.1).ownBlock = some k) c4' nb18]
    refine r_txG und75 zero30 hf1 ik1 nbn ?_
    simp only [r_ln, r_pick, r_pickT, r_pickF, r_condT, r_condF, r_gdTT, r_gdFF, r_gdTF, r_gdFT, r_gqTT, r_gqFF, r_gqTF, r_gqFT, r_not, r_lss, r_leq, r_gtr, r_geq, r_eql, r_neq, r_add, r_sub, r_min2, r_max2, r_min3, r_max3, r_fa, r_iaS, r_iaA, r_ex2a, r_ex2b, r_ex3a, r_ex3b, r_ex3c, r_nc, r_keepE, Nat.zero_add, Nat.add_zero, Nat.mul_one, Int.toNat_natCast, toNat_sub1, toNat_add1, decide_true, decide_false, Bool.not_true, Bool.not_false, if_true, if_false, Bool.false_eq_true, reduceCtorEq, r_tx, r_txl (X := fun k => (f x.2.1).ownBlock = some k) c5' nb18]
    rw [bs30]
    refine ⟨BX.of_below (below_alloc _), ?_⟩
    have y5 : Kp x4 (x4.alloc (.cells #[.int .i64 x.2.2.1] 3)) := below_alloc _
    have n5 := heap_alloc_new x4 (.cells #[.int .i64 x.2.2.1] 3)
    generalize x4.alloc (.cells #[.int .i64 x.2.2.1] 3) = x5 at *
    have sx5 := y5.size
    have hglen := grp_len (L.take q) x.2.1
    rw [List.length_take] at hglen
    dsimp only
    refine r_apAt (news := [.int .i64 x.2.2.1]) slt30 (owns_kp hfc y5) rfl (cells_at_row n5) (by intro u hu; simp at hu; subst hu; rfl) (by omega) (by omega) (by omega) fun v' x6 ho6 c6 hv6 => ?_
    refine ⟨BX.of_chg c6, ?_⟩
    have hm6 : MapF x6 bn nilS f := (hf1.kp y5).chg c6 nbn
    have hv6n : v' ≠ nilS := fun e => by
      rcases ho6.2 with ⟨_, h⟩ | ⟨g, cap, cur, h, _⟩
      · omega
      · rw [e] at h; cases h
    refine r_muF und75 zero30 hm6 ik1 hv6n fun x7 hm7 c7 s7 => ?_
    have s6 := c6.size
    have fne : ∀ c k, c ≠ x.2.1 → (f c).ownBlock = some k → (f x.2.1).ownBlock ≠ some k := fun c k hc hk h => hf3 c x.2.1 hc k hk h
    try simp (disch := omega) only [r_ln, r_pick, r_pickT, r_pickF, r_condT, r_condF, r_gdTT, r_gdFF, r_gdTF, r_gdFT, r_gqTT, r_gqFF, r_gqTF, r_gqFT, r_not, r_lss, r_leq, r_gtr, r_geq, r_eql, r_neq, r_add, r_sub, r_min2, r_max2, r_min3, r_max3, r_fa, r_iaS, r_iaA, r_ex2a, r_ex2b, r_ex3a, r_ex3b, r_ex3c, r_nc, r_keepE, Nat.zero_add, Nat.add_zero, Nat.mul_one, Int.toNat_natCast, toNat_sub1, toNat_add1, decide_true, decide_false, Bool.not_true, Bool.not_false, if_true, if_false, Bool.false_eq_true, reduceCtorEq]
    refine ⟨⟨q + 1, by omega, by go_num, fun y hy => ?_, ⟨_, hm7, fun c => ?_, fun c c' hcc k hk hk' => ?_⟩, ?_, ?_⟩, by simp only [intOf]; omega⟩
    · rw [List.take_add_one, hx] at hy
      rcases List.mem_append.1 hy with hy | hy
      · exact hdq y hy
      · simp at hy; rw [hy]; exact hd0
    · rw [grp_take hx]
      by_cases hc : c = x.2.1
      · subst hc
        rw [upd_same, if_pos rfl]
        have : IntsAt w6.heap.size x6 v' (grpL (L.take q) x.2.1 ++ [x.2.2.1]) := by
          unfold IntsAt RecAt
          rw [recCells_append, List.length_append]
          exact ho6
        refine this.chg c7 fun k hk e => ?_
        rcases hv6 k hk with h | h
        · have := (fb _ _ h).1; omega
        · omega
      · rw [upd_ne hc, if_neg (fun e => hc e.symm), List.append_nil]
        refine (((hf2 c).kp y5).chg c6 fun k hk e => fne c k hc hk e).chg c7 fun k hk e => ?_
        have := (fb _ _ hk).1; omega
    · by_cases hc : c = x.2.1
      · subst hc
        have hc' : c' ≠ x.2.1 := fun e => hcc e.symm
        rw [upd_same] at hk
        rw [upd_ne hc'] at hk'
        rcases hv6 k hk with h | h
        · exact fne c' k hc' hk' h
        · have := ((hf2 c').lt hk').2; omega
      · rw [upd_ne hc] at hk
        by_cases hc' : c' = x.2.1
        · subst hc'
          rw [upd_same] at hk'
          rcases hv6 k hk' with h | h
          · exact fne c k hc hk h
          · have := ((hf2 c).lt hk).2; omega
        · rw [upd_ne hc'] at hk'
          exact hf3 c c' hcc k hk hk'
    · have kq5 : Kp w5 x5 := Kp.trans kq (Kp.trans y04 y5)
      refine Kp.of_chg (Kp.of_chg kq5 c6 fun k e => ?_) c7 fun k e => by omega
      have := (fb _ _ e).1; omega
    · omega
  have hlt' : (i : Int) < (proof.length : Int) := by omega
  obtain ⟨pb, po, _, rv, ep, hcell, hrow⟩ := (hp.below kr).row hlt
  cases ep
  obtain ⟨ra, rc, rfl, hrl⟩ := hrow.len
  have out : ¬ (rowB W H (proof.getD i []) = true ∧ upB proof i = true) → RefPost l W H proof (.returned (.tuple #[.bool false, .int .i64 0])) := fun hb => by
    refine .inr (.inr ⟨he, by omega, false, rfl, ?_⟩)
    constructor
    · intro h; cases h
    · intro h; exact absurd (h.1 i hlt) hb
  generalize hpe : proof.getD i [] = p at *
  by_cases hpl2 : (p.length : Int) = (W : Int) + 1
  case neg =>
    simp (disch := omega) only [r_ln, r_pick, r_pickT, r_pickF, r_condT, r_condF, r_gdTT, r_gdFF, r_gdTF, r_gdFT, r_gqTT, r_gqFF, r_gqTF, r_gqFT, r_not, r_lss, r_leq, r_gtr, r_geq, r_eql, r_neq, r_add, r_sub, r_min2, r_max2, r_min3, r_max3, r_fa, r_iaS, r_iaA, r_ex2a, r_ex2b, r_ex3a, r_ex3b, r_ex3c, r_nc, r_keepE, Nat.zero_add, Nat.add_zero, Nat.mul_one, Int.toNat_natCast, toNat_sub1, toNat_add1, decide_true, decide_false, Bool.not_true, Bool.not_false, if_true, if_false, Bool.false_eq_true, reduceCtorEq, decide_eq_true hlt', r_ld hcell, hpl2]
    exact ⟨kr, out fun h => hpl2 (by have := h.1; simp only [rowB, Bool.and_eq_true, decide_eq_true_eq] at this; omega)⟩
  obtain ⟨rb, ro, _, er, hx0⟩ := hrow.at (j := 0) (by omega)
  cases er
  have i0 : (0 : Int).toNat = 0 := rfl
  rw [Nat.add_zero] at hx0
  by_cases hp1 : p.getD 0 0 < 1
  · simp (disch := omega) only [r_ln, r_pick, r_pickT, r_pickF, r_condT, r_condF, r_gdTT, r_gdFF, r_gdTF, r_gdFT, r_gqTT, r_gqFF, r_gqTF, r_gqFT, r_not, r_lss, r_leq, r_gtr, r_geq, r_eql, r_neq, r_add, r_sub, r_min2, r_max2, r_min3, r_max3, r_fa, r_iaS, r_iaA, r_ex2a, r_ex2b, r_ex3a, r_ex3b, r_ex3c, r_nc, r_keepE, Nat.zero_add, Nat.add_zero, Nat.mul_one, Int.toNat_natCast, toNat_sub1, toNat_add1, decide_true, decide_false, Bool.not_true, Bool.not_false, if_true, if_false, Bool.false_eq_true, reduceCtorEq, decide_eq_true hlt', r_ld hcell, decide_eq_true hpl2, i0, Nat.zero_mul, r_ld hx0, decide_eq_true hp1]
    exact ⟨kr, out fun h => by have := h.1; simp only [rowB, Bool.and_eq_true, decide_eq_true_eq] at this; omega⟩
  by_cases hp2 : (H : Int) ≤ p.getD 0 0
  · simp (disch := omega) only [r_ln, r_pick, r_pickT, r_pickF, r_condT, r_condF, r_gdTT, r_gdFF, r_gdTF, r_gdFT, r_gqTT, r_gqFF, r_gqTF, r_gqFT, r_not, r_lss, r_leq, r_gtr, r_geq, r_eql, r_neq, r_add, r_sub, r_min2, r_max2, r_min3, r_max3, r_fa, r_iaS, r_iaA, r_ex2a, r_ex2b, r_ex3a, r_ex3b, r_ex3c, r_nc, r_keepE, Nat.zero_add, Nat.add_zero, Nat.mul_one, Int.toNat_natCast, toNat_sub1, toNat_add1, decide_true, decide_false, Bool.not_true, Bool.not_false, if_true, if_false, Bool.false_eq_true, reduceCtorEq, decide_eq_true hlt', r_ld hcell, decide_eq_true hpl2, i0, Nat.zero_mul, r_ld hx0, hp1, decide_eq_true hp2]
    exact ⟨kr, out fun h => by have := h.1; simp only [rowB, Bool.and_eq_true, decide_eq_true_eq] at this; omega⟩
  have i1 : (1 : Int).toNat = 1 := rfl
  simp (disch := omega) only [r_ln, r_pick, r_pickT, r_pickF, r_condT, r_condF, r_gdTT, r_gdFF, r_gdTF, r_gdFT, r_gqTT, r_gqFF, r_gqTF, r_gqFT, r_not, r_lss, r_leq, r_gtr, r_geq, r_eql, r_neq, r_add, r_sub, r_min2, r_max2, r_min3, r_max3, r_fa, r_iaS, r_iaA, r_ex2a, r_ex2b, r_ex3a, r_ex3b, r_ex3c, r_nc, r_keepE, Nat.zero_add, Nat.add_zero, Nat.mul_one, Int.toNat_natCast, toNat_sub1, toNat_add1, decide_true, decide_false, Bool.not_true, Bool.not_false, if_true, if_false, Bool.false_eq_true, reduceCtorEq, decide_eq_true hlt', r_ld hcell, decide_eq_true hpl2, i0, Nat.zero_mul, r_ld hx0, hp1, hp2, r_slFrom, i1]
  have htail := rd_from (j := 1) hrow (by omega)
  rw [Nat.mul_one] at htail
  refine r_use fok54 (containsF_calls (fun x => !colB x) wr htail fun x _ w' K _ hK => nocol_call x w' K hK) rfl ?_
  rintro _ w5 ⟨rfl, k5⟩
  refine ⟨_, rfl, ?_⟩
  rw [any_not]
  have kr5 := Kp.trans kr k5
  cases hcol : (p.drop 1).all colB with
  | false =>
    simp (disch := omega) only [r_ln, r_pick, r_pickT, r_pickF, r_condT, r_condF, r_gdTT, r_gdFF, r_gdTF, r_gdFT, r_gqTT, r_gqFF, r_gqTF, r_gqFT, r_not, r_lss, r_leq, r_gtr, r_geq, r_eql, r_neq, r_add, r_sub, r_min2, r_max2, r_min3, r_max3, r_fa, r_iaS, r_iaA, r_ex2a, r_ex2b, r_ex3a, r_ex3b, r_ex3c, r_nc, r_keepE, Nat.zero_add, Nat.add_zero, Nat.mul_one, Int.toNat_natCast, toNat_sub1, toNat_add1, decide_true, decide_false, Bool.not_true, Bool.not_false, if_true, if_false, Bool.false_eq_true, reduceCtorEq]
    exact ⟨kr5, out fun h => by
      have := h.1
      simp only [rowB, Bool.and_eq_true, decide_eq_true_eq, hcol] at this
      exact absurd this.2 (by decide)⟩
  | true =>
  have hrowB : rowB W H p = true := by
    simp only [rowB, Bool.and_eq_true, decide_eq_true_eq, hcol]
    exact ⟨⟨⟨by omega, by omega⟩, by omega⟩, trivial⟩
  have hcols := all_cols hcol
  have hdl : (p.drop 1).length = W := by rw [List.length_drop]; omega
  have hrg := code_range hcols (by omega)
  have hkey : IKey (code (p.drop 1)) := ⟨by omega, by omega⟩
  have hdead : deadL (proof.take (i + 1)) = deadF (deadL (proof.take i)) p := by
    rw [take_succ' _ _ hlt, deadL, List.foldl_append, ← getD_lt proof i [] hlt, hpe]
    rfl
  simp (disch := omega) only [r_ln, r_pick, r_pickT, r_pickF, r_condT, r_condF, r_gdTT, r_gdFF, r_gdTF, r_gdFT, r_gqTT, r_gqFF, r_gqTF, r_gqFT, r_not, r_lss, r_leq, r_gtr, r_geq, r_eql, r_neq, r_add, r_sub, r_min2, r_max2, r_min3, r_max3, r_fa, r_iaS, r_iaA, r_ex2a, r_ex2b, r_ex3a, r_ex3b, r_ex3c, r_nc, r_keepE, Nat.zero_add, Nat.add_zero, Nat.mul_one, Int.toNat_natCast, toNat_sub1, toNat_add1, decide_true, decide_false, Bool.not_true, Bool.not_false, if_true, if_false, Bool.false_eq_true, reduceCtorEq]
  by_cases hup : upB proof i = true
  case neg =>
    have hi0 : 0 < i := by
      refine Nat.pos_of_ne_zero fun e => hup ?_
      simp [upB, e]
    have hi0' : (0 : Int) < (i : Int) := by omega
    have hcm : ¬ cmpL (proof.getD (i - 1) []) p < 0 := fun h => hup (by simp only [upB, hpe, Bool.or_eq_true, decide_eq_true_eq]; exact .inr h)
    obtain ⟨qb, qo, _, qv, eq, qcell, qrow⟩ := (hp.below kr5).row (i := i - 1) (by omega)
    cases eq
    simp (disch := omega) only [r_ln, r_pick, r_pickT, r_pickF, r_condT, r_condF, r_gdTT, r_gdFF, r_gdTF, r_gdFT, r_gqTT, r_gqFF, r_gqTF, r_gqFT, r_not, r_lss, r_leq, r_gtr, r_geq, r_eql, r_neq, r_add, r_sub, r_min2, r_max2, r_min3, r_max3, r_fa, r_iaS, r_iaA, r_ex2a, r_ex2b, r_ex3a, r_ex3b, r_ex3c, r_nc, r_keepE, Nat.zero_add, Nat.add_zero, Nat.mul_one, Int.toNat_natCast, toNat_sub1, toNat_add1, decide_true, decide_false, Bool.not_true, Bool.not_false, if_true, if_false, Bool.false_eq_true, reduceCtorEq, decide_eq_true hi0', r_ld qcell]
    refine r_use fok57 (compare_calls w5 qrow (hrow.below k5)) rfl ?_
    rintro _ _ ⟨rfl, rfl⟩
    refine ⟨_, rfl, ?_⟩
    have hcm' : 0 ≤ cmpL (proof.getD (i - 1) []) p := by omega
    simp (disch := omega) only [r_ln, r_pick, r_pickT, r_pickF, r_condT, r_condF, r_gdTT, r_gdFF, r_gdTF, r_gdFT, r_gqTT, r_gqFF, r_gqTF, r_gqFT, r_not, r_lss, r_leq, r_gtr, r_geq, r_eql, r_neq, r_add, r_sub, r_min2, r_max2, r_min3, r_max3, r_fa, r_iaS, r_iaA, r_ex2a, r_ex2b, r_ex3a, r_ex3b, r_ex3c, r_nc, r_keepE, Nat.zero_add, Nat.add_zero, Nat.mul_one, Int.toNat_natCast, toNat_sub1, toNat_add1, decide_true, decide_false, Bool.not_true, Bool.not_false, if_true, if_false, Bool.false_eq_true, reduceCtorEq, decide_eq_true hcm']
    exact ⟨kr5, out fun h => hup h.2⟩
  have nexti : ∀ (x : World) (d' : Int → Int), Kp w x → Kp w1 x → MapF x bm (iK 0) (fun c => iK (d' c)) → d' = deadL (proof.take (i + 1)) → x.heap[b11]? = some (.cells #[.map (some bm)] 68 (0, 0)) →
      ∃ i' : Nat, i' ≤ proof.length ∧ Value.int .i64 ((i : Int) + 1) = .int .i64 i' ∧ (∀ k, k < i' → rowB W H (proof.getD k []) = true ∧ upB proof k = true) ∧ MapF x bm (iK 0) (fun c => iK (deadL (proof.take i') c)) ∧ x.heap[b11]? = some (.cells #[.map (some bm)] 68 (0, 0)) ∧ Kp w x ∧ Kp w1 x := fun x d' q1 q2 q3 q4 q5 => by
    subst q4
    refine ⟨i + 1, by omega, by go_num, fun k hk => ?_, q3, q5, q1, q2⟩
    by_cases hki : k < i
    · exact hok k hki
    · have : k = i := by omega
      subst this
      exact ⟨by rw [hpe]; exact hrowB, hup⟩
  rcases Nat.eq_zero_or_pos i with hi0 | hi0
  have hi0' : ¬ (0 : Int) < (i : Int) := by omega
  simp (disch := omega) only [r_ln, r_pick, r_pickT, r_pickF, r_condT, r_condF, r_gdTT, r_gdFF, r_gdTF, r_gdFT, r_gqTT, r_gqFF, r_gqTF, r_gqFT, r_not, r_lss, r_leq, r_gtr, r_geq, r_eql, r_neq, r_add, r_sub, r_min2, r_max2, r_min3, r_max3, r_fa, r_iaS, r_iaA, r_ex2a, r_ex2b, r_ex3a, r_ex3b, r_ex3c, r_nc, r_keepE, Nat.zero_add, Nat.add_zero, Nat.mul_one, Int.toNat_natCast, toNat_sub1, toNat_add1, decide_true, decide_false, Bool.not_true, Bool.not_false, if_true, if_false, Bool.false_eq_true, reduceCtorEq, hi0', r_slFrom, i1]
  rotate_left
  have hi0' : (0 : Int) < (i : Int) := by omega
  have hcm : cmpL (proof.getD (i - 1) []) p < 0 := by
    simp only [upB, hpe, Bool.or_eq_true, decide_eq_true_eq] at hup
    rcases hup with h | h
    · omega
    · exact h
  obtain ⟨qb, qo, _, qv, eq, qcell, qrow⟩ := (hp.below kr5).row (i := i - 1) (by omega)
  cases eq
  simp (disch := omega) only [r_ln, r_pick, r_pickT, r_pickF, r_condT, r_condF, r_gdTT, r_gdFF, r_gdTF, r_gdFT, r_gqTT, r_gqFF, r_gqTF, r_gqFT, r_not, r_lss, r_leq, r_gtr, r_geq, r_eql, r_neq, r_add, r_sub, r_min2, r_max2, r_min3, r_max3, r_fa, r_iaS, r_iaA, r_ex2a, r_ex2b, r_ex3a, r_ex3b, r_ex3c, r_nc, r_keepE, Nat.zero_add, Nat.add_zero, Nat.mul_one, Int.toNat_natCast, toNat_sub1, toNat_add1, decide_true, decide_false, Bool.not_true, Bool.not_false, if_true, if_false, Bool.false_eq_true, reduceCtorEq, decide_eq_true hi0', r_ld qcell]
  refine r_use fok57 (compare_calls w5 qrow (hrow.below k5)) rfl ?_
  rintro _ _ ⟨rfl, rfl⟩
  refine ⟨_, rfl, ?_⟩
  have hcm' : ¬ 0 ≤ cmpL (proof.getD (i - 1) []) p := by omega
  simp (disch := omega) only [r_ln, r_pick, r_pickT, r_pickF, r_condT, r_condF, r_gdTT, r_gdFF, r_gdTF, r_gdFT, r_gqTT, r_gqFF, r_gqTF, r_gqFT, r_not, r_lss, r_leq, r_gtr, r_geq, r_eql, r_neq, r_add, r_sub, r_min2, r_max2, r_min3, r_max3, r_fa, r_iaS, r_iaA, r_ex2a, r_ex2b, r_ex3a, r_ex3b, r_ex3c, r_nc, r_keepE, Nat.zero_add, Nat.add_zero, Nat.mul_one, Int.toNat_natCast, toNat_sub1, toNat_add1, decide_true, decide_false, Bool.not_true, Bool.not_false, if_true, if_false, Bool.false_eq_true, reduceCtorEq, hcm', r_slFrom, i1]
  rotate_left
  all_goals
    refine r_use fok58 (number_calls w5 (htail.below k5) hcols (by omega)) rfl ?_
    rintro _ _ ⟨rfl, rfl⟩
    refine ⟨_, rfl, ?_⟩
    have m5 := hmr.kp k5
    have h115 := block_below h11 k5
    have kr15 := Kp.trans kr1 k5
    have c11 : w5.cell? ⟨b11, 0, none⟩ = some (.map (some bm)) := by rw [cell_row h115]; rfl
    rw [r_ld c11, r_lkF und68 zero3 m5 hkey, r_eql]
    refine r_join0 (fun x => ∃ d', Kp w x ∧ Kp w1 x ∧ MapF x bm (iK 0) (fun c => iK (d' c)) ∧ d' = deadL (proof.take (i + 1)) ∧ x.heap[b11]? = some (.cells #[.map (some bm)] 68 (0, 0))) ?_ ?_
    · rintro x ⟨d', q1, q2, q3, q4, q5⟩
      try simp (disch := omega) only [r_ln, r_pick, r_pickT, r_pickF, r_condT, r_condF, r_gdTT, r_gdFF, r_gdTF, r_gdFT, r_gqTT, r_gqFF, r_gqTF, r_gqFT, r_not, r_lss, r_leq, r_gtr, r_geq, r_eql, r_neq, r_add, r_sub, r_min2, r_max2, r_min3, r_max3, r_fa, r_iaS, r_iaA, r_ex2a, r_ex2b, r_ex3a, r_ex3b, r_ex3c, r_nc, r_keepE, Nat.zero_add, Nat.add_zero, Nat.mul_one, Int.toNat_natCast, toNat_sub1, toNat_add1, decide_true, decide_false, Bool.not_true, Bool.not_false, if_true, if_false, Bool.false_eq_true, reduceCtorEq]
      exact ⟨nexti x d' q1 q2 q3 q4 q5, by simp only [intOf]; omega⟩
    intro kk hkk
    by_cases hd0 : deadL (proof.take i) (code (p.drop 1)) = 0
    · simp (disch := omega) only [r_ln, r_pick, r_pickT, r_pickF, r_condT, r_condF, r_gdTT, r_gdFF, r_gdTF, r_gdFT, r_gqTT, r_gqFF, r_gqTF, r_gqFT, r_not, r_lss, r_leq, r_gtr, r_geq, r_eql, r_neq, r_add, r_sub, r_min2, r_max2, r_min3, r_max3, r_fa, r_iaS, r_iaA, r_ex2a, r_ex2b, r_ex3a, r_ex3b, r_ex3c, r_nc, r_keepE, Nat.zero_add, Nat.add_zero, Nat.mul_one, Int.toNat_natCast, toNat_sub1, toNat_add1, decide_true, decide_false, Bool.not_true, Bool.not_false, if_true, if_false, Bool.false_eq_true, reduceCtorEq, decide_eq_true hd0]
      refine r_drew fun w7 k7 _ => ?_
      have c117 : w7.cell? ⟨b11, 0, none⟩ = some (.map (some bm)) := cell_later k7 c11
      have hx07 := cell_later (Kp.trans k5 k7) hx0
      simp (disch := omega) only [r_ln, r_pick, r_pickT, r_pickF, r_condT, r_condF, r_gdTT, r_gdFF, r_gdTF, r_gdFT, r_gqTT, r_gqFF, r_gqTF, r_gqFT, r_not, r_lss, r_leq, r_gtr, r_geq, r_eql, r_neq, r_add, r_sub, r_min2, r_max2, r_min3, r_max3, r_fa, r_iaS, r_iaA, r_ex2a, r_ex2b, r_ex3a, r_ex3b, r_ex3c, r_nc, r_keepE, Nat.zero_add, Nat.add_zero, Nat.mul_one, Int.toNat_natCast, toNat_sub1, toNat_add1, decide_true, decide_false, Bool.not_true, Bool.not_false, if_true, if_false, Bool.false_eq_true, reduceCtorEq, r_ld c117, i0, Nat.zero_mul, r_ld hx07]
      refine r_muF und68 zero3 (m5.kp k7) hkey (fun e => by have := iK_inj e; omega) fun w8 m8 c8 s8 => ?_
      have sbm := m5.lt
      refine hkk w8 ⟨upd (deadL (proof.take i)) (code (p.drop 1)) (p.getD 0 0), Kp.of_chg (Kp.trans kr5 k7) c8 fun k e => by omega, Kp.of_chg (Kp.trans kr15 k7) c8 fun k e => by omega, ?_, ?_, c8.at (block_below h115 k7) (by omega)⟩
      · have e : (fun c => iK (upd (deadL (proof.take i)) (code (p.drop 1)) (p.getD 0 0) c)) = upd (fun c => iK (deadL (proof.take i) c)) (code (p.drop 1)) (iK (p.getD 0 0)) := by
          funext c
          simp only [upd]
          split <;> rfl
        rw [e]
        exact m8
      · rw [hdead, deadF, if_pos hd0]
    · simp (disch := omega) only [r_ln, r_pick, r_pickT, r_pickF, r_condT, r_condF, r_gdTT, r_gdFF, r_gdTF, r_gdFT, r_gqTT, r_gqFF, r_gqTF, r_gqFT, r_not, r_lss, r_leq, r_gtr, r_geq, r_eql, r_neq, r_add, r_sub, r_min2, r_max2, r_min3, r_max3, r_fa, r_iaS, r_iaA, r_ex2a, r_ex2b, r_ex3a, r_ex3b, r_ex3c, r_nc, r_keepE, Nat.zero_add, Nat.add_zero, Nat.mul_one, Int.toNat_natCast, toNat_sub1, toNat_add1, decide_true, decide_false, Bool.not_true, Bool.not_false, if_true, if_false, Bool.false_eq_true, reduceCtorEq, hd0]
      exact hkk w5 ⟨deadL (proof.take i), kr5, kr15, m5, by rw [hdead, deadF, if_neg hd0], h115⟩

end Go.Proofs.Ytgalbokmgffhkaa
