/- Lifted texts, printed by program (gen.py): what each function's code asks. The ties are by the kernel. -/
import Derived.Test.YtgalbokmgffhkaaBase
set_option linter.all false
namespace Go.Proofs.Ytgalbokmgffhkaa
open Go.Lf Go.RowKit

def S85 (t0 t1 : Value) (w : World) (R : Ending → World → Prop) : Prop :=
  callW Try.prog (.func (.func 57) #[] #[]) [t0, t1] w fun t7 w =>
  R (.returned t7) w

def A85 : Ann where
  live := fun _ => []
  wr := fun _ _ => false
  sched := fun _ => .done

set_option maxRecDepth 100000 in
theorem ok85 : (codeOk Try.f85.ntmps A85 (Try.f85.body.getD .skip) 0 && Nat.ble 2 Try.f85.ntmps) = true := by kernel_rfl
set_option maxRecDepth 100000 in
theorem lift85 {t0 t1 : Value} {w : World} {R : Ending → World → Prop} (h : S85 t0 t1 w R) : Calls Try.prog 85 #[t0, t1] w R :=
  calls_of_cw (fn := Try.f85) (c := Try.f85.body.getD .skip) A85 mixes Try.func85 (by kernel_rfl) ok85
    ((by kernel_rfl : (S85 t0 t1 w R) = cw Try.prog A85 (Try.f85.body.getD .skip) 0 (bodyQ Try.prog Try.f85 R) (frOf #[t0, t1]) w).mp h)

def S21 (t0 t1 : Value) (w : World) (R : Ending → World → Prop) : Prop :=
  boxW 22 t0 w fun t2 w =>
  ld1 w t2 fun t19 =>
  callW Try.prog (.func (.func 65) #[] #[]) [t19] w fun t20 w =>
  unQ .not t20 fun t21 =>
  gd t21 false (fun k => k t1 w) w fun t23 w =>
  gd t21 false (fun k => ln1 t23 fun v => k v w) w fun t24 w =>
  gd t21 false (fun k => callW Try.prog (.func (.func 66) #[] #[]) [t24] w k) w fun t25 w =>
  gd t21 false (fun k => unQ .not t25 fun v => k v w) w fun t26 w =>
  pickQ t21 (.bool true) t26 fun t27 =>
  gd t27 false (fun k => k t1 w) w fun t29 w =>
  gd t27 false (fun k => iaS 1 t29 (.int .i64 0) fun v => k v w) w fun t30 w =>
  gd t27 false (fun k => ld1 w t30 fun v => k v w) w fun t31 w =>
  gd t27 false (fun k => ln1 t31 fun v => k v w) w fun t32 w =>
  gd t27 false (fun k => callW Try.prog (.func (.func 66) #[] #[]) [t32] w k) w fun t33 w =>
  gd t27 false (fun k => unQ .not t33 fun v => k v w) w fun t34 w =>
  pickQ t27 (.bool true) t34 fun t35 =>
  condW t35 (
    R (.returned (.tuple #[(.bool false), (.bool false), (.int .i64 2)])) w
  ) (
    iaS 1 t1 (.int .i64 0) fun t37 =>
    ld1 w t37 fun t38 =>
    ln1 t38 fun t39 =>
    ln1 t1 fun t41 =>
    ln1 t1 fun t43 =>
    Loop1 (.int .i64 0) w fun _ t44 w next =>
      binQ Try.prog w .lss 3 false t44 t43 fun t45 =>
      condW t45 (
        iaS 1 t1 t44 fun t46 =>
        ld1 w t46 fun t47 =>
        ln1 t47 fun t49 =>
        binQ Try.prog w .neq 3 false t49 t39 fun t51 =>
        gd t51 false (fun k => k t47 w) w fun t53 w =>
        gd t51 false (fun k => k (.func (.func 67) #[] #[t2]) w) w fun t54 w =>
        gd t51 false (fun k => callW Try.prog (.func (.func 54) #[] #[]) [t53, t54] w k) w fun t55 w =>
        pickQ t51 (.bool true) t55 fun t56 =>
        condW t56 (
          R (.returned (.tuple #[(.bool false), (.bool false), (.int .i64 2)])) w
        ) (
          binQ Try.prog w .add 3 true t44 (.int .i64 1) fun t57 =>
          next t57 w
        )
      ) (
        ln1 t1 fun t59 =>
        Loop3 (.bool true) (.bool true) (.int .i64 0) w fun _ t11 t12 t60 w next_2 =>
          binQ Try.prog w .lss 3 false t60 t59 fun t61 =>
          condW t61 (
            iaS 1 t1 t60 fun t63 =>
            ld1 w t63 fun t64 =>
            ln1 t64 fun t66 =>
            Loop3 t11 t12 (.int .i64 0) w fun _ t11_2 t12_2 t67 w next_3 =>
              binQ Try.prog w .lss 3 false t67 t66 fun t68 =>
              condW t68 (
                iaS 1 t64 t67 fun t70 =>
                ld1 w t70 fun t71 =>
                Drew w fun w =>
                Join (fun (k_2 : Value → Value → World → Prop) =>
                  ∃ X : Nat → Prop,
                  takeX X w (fun w k => ld1 w t2 k) fun t72 =>
                  takeX X w (fun w k => k t64) fun t73 =>
                  takeX X w (fun w k => k t67) fun t74 =>
                  takeX X w (fun w k => binQ Try.prog w .add 3 true t74 (.int .i64 1) k) fun t75 =>
                  takeX X w (fun w k => k t39) fun t76 =>
                  takeX X w (fun w k => binQ Try.prog w .rem 3 false t75 t76 k) fun t77 =>
                  takeX X w (fun w k => iaS 1 t73 t77 k) fun t78 =>
                  takeX X w (fun w k => ld1 w t78 k) fun t79 =>
                  takeX X w (fun w k => iaS 4 t72 t79 k) fun t80 =>
                  takeX X w (fun w k => ldN 4 w t80 k) fun t81 =>
                  takeX X w (fun w k => ld1 w t2 k) fun t82 =>
                  takeX X w (fun w k => k t1) fun t83 =>
                  takeX X w (fun w k => k t60) fun t84 =>
                  takeX X w (fun w k => binQ Try.prog w .add 3 true t84 (.int .i64 1) k) fun t85 =>
                  takeX X w (fun w k => k t41) fun t86 =>
                  takeX X w (fun w k => binQ Try.prog w .rem 3 false t85 t86 k) fun t87 =>
                  takeX X w (fun w k => iaS 1 t83 t87 k) fun t88 =>
                  takeX X w (fun w k => ld1 w t88 k) fun t89 =>
                  takeX X w (fun w k => k t67) fun t90 =>
                  takeX X w (fun w k => iaS 1 t89 t90 k) fun t91 =>
                  takeX X w (fun w k => ld1 w t91 k) fun t92 =>
                  takeX X w (fun w k => iaS 4 t82 t92 k) fun t93 =>
                  takeX X w (fun w k => ldN 4 w t93 k) fun t94 =>
                  And (
                    boxW 32 (.agg #[(.int .i64 0), (.int .i64 0), (.int .i64 0), (.int .i64 0)]) w <| keepX X w fun t17_2 w =>
                    boxW 32 (.agg #[(.int .i64 0), (.int .i64 0), (.int .i64 0), (.int .i64 0)]) w <| keepX X w fun t18_2 w =>
                    stW Try.prog 32 t17_2 t81 w <| keepW X w fun w =>
                    stW Try.prog 32 t18_2 t94 w fun w =>
                    k_2 t17_2 t18_2 w
                  ) <|
                  And (
                    boxW 32 (.agg #[(.int .i64 0), (.int .i64 0), (.int .i64 0), (.int .i64 0)]) w <| keepX X w fun t18_3 w =>
                    boxW 32 (.agg #[(.int .i64 0), (.int .i64 0), (.int .i64 0), (.int .i64 0)]) w <| keepX X w fun t17_3 w =>
                    stW Try.prog 32 t17_3 t81 w <| keepW X w fun w =>
                    stW Try.prog 32 t18_3 t94 w fun w =>
                    k_2 t17_3 t18_3 w
                  ) <|
                  True
                ) fun t17 t18 w =>
                Drew w fun w =>
                ld1 w t2 fun t95 =>
                iaS 4 t95 t71 fun t97 =>
                fa1 t97 1 fun t98 =>
                ld1 w t98 fun t99 =>
                fa1 t17 3 fun t100 =>
                ld1 w t100 fun t101 =>
                binQ Try.prog w .neq 3 false t99 t101 fun t102 =>
                Join (fun (k_4 : Value → Value → World → Prop) =>
                  condW t102 (
                    gd t11_2 true (fun k => k t67 w) w fun t105 w =>
                    gd t11_2 true (fun k => k t39 w) w fun t106 w =>
                    gd t11_2 true (fun k => binQ Try.prog w .sub 3 true t106 (.int .i64 1) fun v => k v w) w fun t107 w =>
                    gd t11_2 true (fun k => binQ Try.prog w .eql 3 false t105 t107 fun v => k v w) w fun t108 w =>
                    pickQ t11_2 t108 (.bool false) fun t109 =>
                    k_4 t109 (.bool false) w
                  ) (
                    k_4 t11_2 t12_2 w
                  )
                ) fun t11_4 t12_4 w =>
                Drew w fun w =>
                ld1 w t2 fun t110_2 =>
                iaS 4 t110_2 t71 fun t112_2 =>
                fa1 t112_2 2 fun t113_2 =>
                ld1 w t113_2 fun t114_2 =>
                fa1 t18 0 fun t115_2 =>
                ld1 w t115_2 fun t116_2 =>
                binQ Try.prog w .neq 3 false t114_2 t116_2 fun t117_2 =>
                Join (fun (k_5 : Value → Value → World → Prop) =>
                  condW t117_2 (
                    gd t11_4 true (fun k => k t60 w) w fun t120_2 w =>
                    gd t11_4 true (fun k => k t41 w) w fun t121_2 w =>
                    gd t11_4 true (fun k => binQ Try.prog w .sub 3 true t121_2 (.int .i64 1) fun v => k v w) w fun t122_2 w =>
                    gd t11_4 true (fun k => binQ Try.prog w .eql 3 false t120_2 t122_2 fun v => k v w) w fun t123_2 w =>
                    pickQ t11_4 t123_2 (.bool false) fun t124_2 =>
                    k_5 t124_2 (.bool false) w
                  ) (
                    k_5 t11_4 t12_4 w
                  )
                ) fun t11_5 t12_5 w =>
                binQ Try.prog w .add 3 true t67 (.int .i64 1) fun t125_4 =>
                next_3 t11_5 t12_5 t125_4 w
              ) (
                binQ Try.prog w .add 3 true t60 (.int .i64 1) fun t126 =>
                next_2 t11_2 t12_2 t126 w
              )
          ) (
            R (.returned (.tuple #[t11, t12, (.int .i64 0)])) w
          )
      )
  )

def A21 : Ann where
  live := fun
    | 0 => [44]
    | 2 => [11, 12, 60]
    | 4 => [11, 12, 67]
    | _ => []
  wr := fun
    | 0 => fun i => (Nat.ble 4 i && Nat.ble i 6) || Nat.beq i 10 || (Nat.ble 44 i && Nat.ble i 57)
    | 2 => fun i => (Nat.ble 11 i && Nat.ble i 18) || (Nat.ble 60 i && Nat.ble i 126)
    | 4 => fun i => (Nat.ble 11 i && Nat.ble i 12) || (Nat.ble 15 i && Nat.ble i 18) || (Nat.ble 67 i && Nat.ble i 125)
    | _ => fun _ => false
  sched := fun
    | 17 => (.cls (.take 0 (.take 1 (.take 2 (.take 3 (.take 4 (.take 5 (.take 6 (.take 7 (.take 8 (.take 9 (.take 10 (.take 11 (.take 12 (.take 13 (.take 14 (.take 15 (.take 16 (.take 17 (.take 18 (.take 19 (.take 20 (.take 21 (.take 22 (.alt 23 (.eff 24 (.eff 25 (.bar 26 .done))) (.alt 24 (.eff 23 (.eff 25 (.bar 26 .done))) .nomore))))))))))))))))))))))))))
    | 18 => (.take 0 (.take 1 (.take 2 (.take 3 (.take 4 (.take 5 (.take 6 (.take 7 .done))))))))
    | 21 => (.take 0 (.take 1 (.take 2 (.take 3 (.take 4 (.take 5 (.take 6 (.take 7 .done))))))))
    | _ => .done

set_option maxRecDepth 100000 in
theorem ok21 : (codeOk Try.f21.ntmps A21 (Try.f21.body.getD .skip) 0 && Nat.ble 2 Try.f21.ntmps) = true := by kernel_rfl
set_option maxRecDepth 100000 in
theorem lift21 {t0 t1 : Value} {w : World} {R : Ending → World → Prop} (h : S21 t0 t1 w R) : Calls Try.prog 21 #[t0, t1] w R :=
  calls_of_cw (fn := Try.f21) (c := Try.f21.body.getD .skip) A21 mixes Try.func21 (by kernel_rfl) ok21
    ((by kernel_rfl : (S21 t0 t1 w R) = cw Try.prog A21 (Try.f21.body.getD .skip) 0 (bodyQ Try.prog Try.f21 R) (frOf #[t0, t1]) w).mp h)

def S22 (t0 t1 : Value) (w : World) (R : Ending → World → Prop) : Prop :=
  callW Try.prog (.func (.func 35) #[] #[]) [t0] w fun t17 w =>
  unQ .not t17 fun t18 =>
  gd t18 false (fun k => k t1 w) w fun t20 w =>
  gd t18 false (fun k => ln1 t20 fun v => k v w) w fun t21 w =>
  gd t18 false (fun k => callW Try.prog (.func (.func 68) #[] #[]) [t21] w k) w fun t22 w =>
  gd t18 false (fun k => unQ .not t22 fun v => k v w) w fun t23 w =>
  pickQ t18 (.bool true) t23 fun t24 =>
  gd t24 false (fun k => k t1 w) w fun t26 w =>
  gd t24 false (fun k => iaS 1 t26 (.int .i64 0) fun v => k v w) w fun t27 w =>
  gd t24 false (fun k => ld1 w t27 fun v => k v w) w fun t28 w =>
  gd t24 false (fun k => ln1 t28 fun v => k v w) w fun t29 w =>
  gd t24 false (fun k => callW Try.prog (.func (.func 68) #[] #[]) [t29] w k) w fun t30 w =>
  gd t24 false (fun k => unQ .not t30 fun v => k v w) w fun t31 w =>
  pickQ t24 (.bool true) t31 fun t32 =>
  condW t32 (
    R (.returned (.tuple #[(.bool false), (.bool false), (.int .i64 2)])) w
  ) (
    iaS 1 t1 (.int .i64 0) fun t34 =>
    ld1 w t34 fun t35 =>
    ln1 t35 fun t36 =>
    ln1 t1 fun t38 =>
    Loop1 (.int .i64 0) w fun _ t9 w next =>
      binQ Try.prog w .lss 3 false t9 t38 fun t41 =>
      condW t41 (
        iaS 1 t1 t9 fun t46 =>
        ld1 w t46 fun t47 =>
        ln1 t47 fun t48 =>
        binQ Try.prog w .neq 3 false t48 t36 fun t50 =>
        condW t50 (
          R (.returned (.tuple #[(.bool false), (.bool false), (.int .i64 2)])) w
        ) (
          Loop1 (.int .i64 0) w fun _ t10 w next_2 =>
            binQ Try.prog w .lss 3 false t10 t36 fun t53 =>
            condW t53 (
              iaS 1 t1 t9 fun t58 =>
              ld1 w t58 fun t59 =>
              iaS 1 t59 t10 fun t61 =>
              ld1 w t61 fun t62 =>
              binQ Try.prog w .lss 3 true t62 (.int .i64 0) fun t63 =>
              gd t63 false (fun k => k t1 w) w fun t65 w =>
              gd t63 false (fun k => k t9 w) w fun t66 w =>
              gd t63 false (fun k => iaS 1 t65 t66 fun v => k v w) w fun t67 w =>
              gd t63 false (fun k => ld1 w t67 fun v => k v w) w fun t68 w =>
              gd t63 false (fun k => k t10 w) w fun t69 w =>
              gd t63 false (fun k => iaS 1 t68 t69 fun v => k v w) w fun t70 w =>
              gd t63 false (fun k => ld1 w t70 fun v => k v w) w fun t71 w =>
              gd t63 false (fun k => k t0 w) w fun t72 w =>
              gd t63 false (fun k => ln1 t72 fun v => k v w) w fun t73 w =>
              gd t63 false (fun k => binQ Try.prog w .geq 3 false t71 t73 fun v => k v w) w fun t74 w =>
              pickQ t63 (.bool true) t74 fun t75 =>
              condW t75 (
                R (.returned (.tuple #[(.bool false), (.bool false), (.int .i64 2)])) w
              ) (
                binQ Try.prog w .add 3 true t10 (.int .i64 1) fun t55 =>
                next_2 t55 w
              )
            ) (
              binQ Try.prog w .add 3 true t9 (.int .i64 1) fun t43 =>
              next t43 w
            )
        )
      ) (
        Loop3 (.bool true) (.bool true) (.int .i64 0) w fun _ t11 t12 t13 w next_3 =>
          binQ Try.prog w .lss 3 false t13 t38 fun t78 =>
          condW t78 (
            Loop3 t11 t12 (.int .i64 0) w fun _ t11_2 t12_2 t14 w next_4 =>
              binQ Try.prog w .lss 3 false t14 t36 fun t83 =>
              condW t83 (
                iaS 1 t1 t13 fun t89 =>
                ld1 w t89 fun t90 =>
                iaS 1 t90 t14 fun t92 =>
                ld1 w t92 fun t93 =>
                iaS 4 t0 t93 fun t94 =>
                ldN 4 w t94 fun t95 =>
                boxW 32 (.agg #[(.int .i64 0), (.int .i64 0), (.int .i64 0), (.int .i64 0)]) w fun t15 w =>
                stW Try.prog 32 t15 t95 w fun w =>
                Drew w fun w =>
                fa1 t15 1 fun t96 =>
                ld1 w t96 fun t97 =>
                iaS 1 t1 t13 fun t101 =>
                ld1 w t101 fun t102 =>
                binQ Try.prog w .add 3 true t14 (.int .i64 1) fun t104 =>
                binQ Try.prog w .rem 3 false t104 t36 fun t106 =>
                iaS 1 t102 t106 fun t107 =>
                ld1 w t107 fun t108 =>
                iaS 4 t0 t108 fun t109 =>
                fa1 t109 3 fun t110 =>
                ld1 w t110 fun t111 =>
                binQ Try.prog w .neq 3 false t97 t111 fun t112 =>
                Join (fun (k_3 : Value → Value → World → Prop) =>
                  condW t112 (
                    gd t11_2 true (fun k => k t14 w) w fun t115 w =>
                    gd t11_2 true (fun k => binQ Try.prog w .add 3 true t115 (.int .i64 1) fun v => k v w) w fun t116 w =>
                    gd t11_2 true (fun k => k t36 w) w fun t117 w =>
                    gd t11_2 true (fun k => binQ Try.prog w .eql 3 false t116 t117 fun v => k v w) w fun t118 w =>
                    pickQ t11_2 t118 (.bool false) fun t119 =>
                    k_3 t119 (.bool false) w
                  ) (
                    k_3 t11_2 t12_2 w
                  )
                ) fun t11_4 t12_4 w =>
                Drew w fun w =>
                fa1 t15 2 fun t120_2 =>
                ld1 w t120_2 fun t121_2 =>
                binQ Try.prog w .add 3 true t13 (.int .i64 1) fun t125_2 =>
                binQ Try.prog w .rem 3 false t125_2 t38 fun t127_2 =>
                iaS 1 t1 t127_2 fun t128_2 =>
                ld1 w t128_2 fun t129_2 =>
                iaS 1 t129_2 t14 fun t131_2 =>
                ld1 w t131_2 fun t132_2 =>
                iaS 4 t0 t132_2 fun t133_2 =>
                fa1 t133_2 0 fun t134_2 =>
                ld1 w t134_2 fun t135_2 =>
                binQ Try.prog w .neq 3 false t121_2 t135_2 fun t136_2 =>
                Join (fun (k_4 : Value → Value → World → Prop) =>
                  condW t136_2 (
                    gd t11_4 true (fun k => k t13 w) w fun t139_2 w =>
                    gd t11_4 true (fun k => binQ Try.prog w .add 3 true t139_2 (.int .i64 1) fun v => k v w) w fun t140_2 w =>
                    gd t11_4 true (fun k => k t38 w) w fun t141_2 w =>
                    gd t11_4 true (fun k => binQ Try.prog w .eql 3 false t140_2 t141_2 fun v => k v w) w fun t142_2 w =>
                    pickQ t11_4 t142_2 (.bool false) fun t143_2 =>
                    k_4 t143_2 (.bool false) w
                  ) (
                    k_4 t11_4 t12_4 w
                  )
                ) fun t11_5 t12_5 w =>
                binQ Try.prog w .add 3 true t14 (.int .i64 1) fun t85_4 =>
                next_4 t11_5 t12_5 t85_4 w
              ) (
                binQ Try.prog w .add 3 true t13 (.int .i64 1) fun t80 =>
                next_3 t11_2 t12_2 t80 w
              )
          ) (
            gd t11 true (fun k => k t12 w) w fun t147 w =>
            pickQ t11 t147 (.bool false) fun t148 =>
            R (.returned (.tuple #[t11, t148, (.int .i64 0)])) w
          )
      )
  )

def A22 : Ann where
  live := fun
    | 0 => [9]
    | 2 => [10]
    | 4 => [11, 12, 13]
    | 6 => [11, 12, 14]
    | _ => []
  wr := fun
    | 0 => fun i => (Nat.ble 4 i && Nat.ble i 6) || (Nat.ble 9 i && Nat.ble i 10) || (Nat.ble 39 i && Nat.ble i 75)
    | 2 => fun i => (Nat.ble 4 i && Nat.ble i 6) || Nat.beq i 10 || (Nat.ble 51 i && Nat.ble i 75)
    | 4 => fun i => (Nat.ble 11 i && Nat.ble i 15) || (Nat.ble 76 i && Nat.ble i 143)
    | 6 => fun i => (Nat.ble 11 i && Nat.ble i 12) || (Nat.ble 14 i && Nat.ble i 15) || (Nat.ble 81 i && Nat.ble i 143)
    | _ => fun _ => false
  sched := fun
    | 22 => (.take 0 (.take 1 (.take 2 (.take 3 (.take 4 (.take 5 (.take 6 (.take 7 (.take 8 (.take 9 (.take 10 (.take 11 (.take 12 (.take 13 (.take 14 (.take 15 (.take 16 .done)))))))))))))))))
    | 25 => (.take 0 (.take 1 (.take 2 (.take 3 (.take 4 (.take 5 (.take 6 (.take 7 (.take 8 (.take 9 (.take 10 (.take 11 (.take 12 (.take 13 (.take 14 (.take 15 (.take 16 .done)))))))))))))))))
    | _ => .done

set_option maxRecDepth 100000 in
theorem ok22 : (codeOk Try.f22.ntmps A22 (Try.f22.body.getD .skip) 0 && Nat.ble 2 Try.f22.ntmps) = true := by kernel_rfl
set_option maxRecDepth 100000 in
theorem lift22 {t0 t1 : Value} {w : World} {R : Ending → World → Prop} (h : S22 t0 t1 w R) : Calls Try.prog 22 #[t0, t1] w R :=
  calls_of_cw (fn := Try.f22) (c := Try.f22.body.getD .skip) A22 mixes Try.func22 (by kernel_rfl) ok22
    ((by kernel_rfl : (S22 t0 t1 w R) = cw Try.prog A22 (Try.f22.body.getD .skip) 0 (bodyQ Try.prog Try.f22 R) (frOf #[t0, t1]) w).mp h)

def S3 (t0 t1 t2 t3 : Value) (w : World) (R : Ending → World → Prop) : Prop :=
  ln1 t0 fun t14 =>
  binQ Try.prog w .gtr 3 true t14 (.int .i64 40) fun t15 =>
  gd t15 false (fun k => k t3 w) w fun t17 w =>
  gd t15 false (fun k => callW Try.prog (.func (.func 17) #[] #[]) [t17, (.int .i64 200)] w k) w fun t18 w =>
  gd t15 false (fun k => unQ .not t18 fun v => k v w) w fun t19 w =>
  pickQ t15 (.bool true) t19 fun t20 =>
  condW t20 (
    callW Try.prog (.func (.func 18) #[] #[]) [] w fun t21 w =>
    R (.returned t21) w
  ) (
    callW Try.prog (.func (.func 19) #[] #[]) [t0, t1, t2, t3] w fun t27 w =>
    exQ t27 0 fun t28 =>
    exQ t27 1 fun t29 =>
    callW Try.prog (.func (.func 20) #[] #[]) [t0, t1, t2, t3] w fun t35 w =>
    exQ t35 0 fun t36 =>
    exQ t35 1 fun t37 =>
    binQ Try.prog w .eql 4 false t28 t36 fun t40 =>
    gd t40 true (fun k => k t29 w) w fun t42 w =>
    gd t40 true (fun k => k t37 w) w fun t43 w =>
    gd t40 true (fun k => binQ Try.prog w .eql 26 false t42 t43 fun v => k v w) w fun t44 w =>
    pickQ t40 t44 (.bool false) fun t45 =>
    gd t45 true (fun k => callW Try.prog (.func (.func 18) #[] #[]) [] w k) w fun t47 w =>
    pickQ t45 t47 (.bool false) fun t48 =>
    R (.returned t48) w
  )

def A3 : Ann where
  live := fun _ => []
  wr := fun _ _ => false
  sched := fun _ => .done

set_option maxRecDepth 100000 in
theorem ok3 : (codeOk Try.f3.ntmps A3 (Try.f3.body.getD .skip) 0 && Nat.ble 4 Try.f3.ntmps) = true := by kernel_rfl
set_option maxRecDepth 100000 in
theorem lift3 {t0 t1 t2 t3 : Value} {w : World} {R : Ending → World → Prop} (h : S3 t0 t1 t2 t3 w R) : Calls Try.prog 3 #[t0, t1, t2, t3] w R :=
  calls_of_cw (fn := Try.f3) (c := Try.f3.body.getD .skip) A3 mixes Try.func3 (by kernel_rfl) ok3
    ((by kernel_rfl : (S3 t0 t1 t2 t3 w R) = cw Try.prog A3 (Try.f3.body.getD .skip) 0 (bodyQ Try.prog Try.f3 R) (frOf #[t0, t1, t2, t3]) w).mp h)

def S4 (t0 : Value) (w : World) (R : Ending → World → Prop) : Prop :=
  Join (fun (k_2 : Value → World → Prop) =>
    condW t0 (
      binQ Try.prog w .add 3 true (.int .i64 65535) (.int .i64 1) fun t10 =>
      k_2 t10 w
    ) (
      k_2 (.int .i64 65535) w
    )
  ) fun t3 w =>
  mkW Try.prog 23 t3 t3 w fun t12_2 w =>
  Loop1 (.int .i64 0) w fun _ t5_2 w next_2 =>
    binQ Try.prog w .lss 3 false t5_2 t3 fun t15_2 =>
    condW t15_2 (
      bsW Try.prog 30 2 [(0, (.int .i64 1)), (1, (.int .i64 1))] w fun t20_2 w =>
      iaS 1 t12_2 t5_2 fun t21_2 =>
      stW Try.prog 30 t21_2 t20_2 w fun w =>
      binQ Try.prog w .add 3 true t5_2 (.int .i64 1) fun t17_2 =>
      next_2 t17_2 w
    ) (
      bdQ Try.prog 32 [(2, (.int .i64 1))] fun t23_2 =>
      bsW Try.prog 22 1 [(0, t23_2)] w fun t24_2 w =>
      callW Try.prog (.func (.func 19) #[] #[]) [t24_2, (.int .i64 1), (.int .i64 2), t12_2] w fun t26_2 w =>
      exQ t26_2 0 fun t27_2 =>
      exQ t26_2 1 fun t28_2 =>
      condW t0 (
        unQ .not t27_2 fun t31_2 =>
        gd t31_2 true (fun k => k t28_2 w) w fun t33_2 w =>
        gd t31_2 true (fun k => binQ Try.prog w .eql 26 true t33_2 (.int .i64 3) fun v => k v w) w fun t34_2 w =>
        pickQ t31_2 t34_2 (.bool false) fun t35_2 =>
        gd t35_2 true (fun k => callW Try.prog (.func (.func 18) #[] #[]) [] w k) w fun t37_2 w =>
        pickQ t35_2 t37_2 (.bool false) fun t38_2 =>
        R (.returned t38_2) w
      ) (
        unQ .not t27_2 fun t40_2 =>
        gd t40_2 true (fun k => k t28_2 w) w fun t42_2 w =>
        gd t40_2 true (fun k => binQ Try.prog w .eql 26 true t42_2 (.int .i64 0) fun v => k v w) w fun t43_2 w =>
        pickQ t40_2 t43_2 (.bool false) fun t44_2 =>
        gd t44_2 true (fun k => callW Try.prog (.func (.func 18) #[] #[]) [] w k) w fun t46_2 w =>
        pickQ t44_2 t46_2 (.bool false) fun t47_2 =>
        R (.returned t47_2) w
      )
    )

def A4 : Ann where
  live := fun
    | 0 => [5]
    | _ => []
  wr := fun
    | 0 => fun i => Nat.beq i 5 || (Nat.ble 13 i && Nat.ble i 21)
    | _ => fun _ => false
  sched := fun _ => .done

set_option maxRecDepth 100000 in
theorem ok4 : (codeOk Try.f4.ntmps A4 (Try.f4.body.getD .skip) 0 && Nat.ble 1 Try.f4.ntmps) = true := by kernel_rfl
set_option maxRecDepth 100000 in
theorem lift4 {t0 : Value} {w : World} {R : Ending → World → Prop} (h : S4 t0 w R) : Calls Try.prog 4 #[t0] w R :=
  calls_of_cw (fn := Try.f4) (c := Try.f4.body.getD .skip) A4 mixes Try.func4 (by kernel_rfl) ok4
    ((by kernel_rfl : (S4 t0 w R) = cw Try.prog A4 (Try.f4.body.getD .skip) 0 (bodyQ Try.prog Try.f4 R) (frOf #[t0]) w).mp h)

def S5 (t0 t1 : Value) (w : World) (R : Ending → World → Prop) : Prop :=
  ln1 t0 fun t12 =>
  binQ Try.prog w .gtr 3 true t12 (.int .i64 40) fun t13 =>
  gd t13 false (fun k => k t1 w) w fun t15 w =>
  gd t13 false (fun k => callW Try.prog (.func (.func 17) #[] #[]) [t15, (.int .i64 20)] w k) w fun t16 w =>
  gd t13 false (fun k => unQ .not t16 fun v => k v w) w fun t17 w =>
  pickQ t13 (.bool true) t17 fun t18 =>
  condW t18 (
    callW Try.prog (.func (.func 18) #[] #[]) [] w fun t19 w =>
    R (.returned t19) w
  ) (
    callW Try.prog (.func (.func 21) #[] #[]) [t0, t1] w fun t23 w =>
    exQ t23 0 fun t24 =>
    exQ t23 1 fun t25 =>
    exQ t23 2 fun t26 =>
    callW Try.prog (.func (.func 22) #[] #[]) [t0, t1] w fun t30 w =>
    exQ t30 0 fun t31 =>
    exQ t30 1 fun t32 =>
    exQ t30 2 fun t33 =>
    binQ Try.prog w .eql 4 false t24 t31 fun t36 =>
    gd t36 true (fun k => k t25 w) w fun t38 w =>
    gd t36 true (fun k => k t32 w) w fun t39 w =>
    gd t36 true (fun k => binQ Try.prog w .eql 4 false t38 t39 fun v => k v w) w fun t40 w =>
    pickQ t36 t40 (.bool false) fun t41 =>
    gd t41 true (fun k => k t26 w) w fun t43 w =>
    gd t41 true (fun k => k t33 w) w fun t44 w =>
    gd t41 true (fun k => binQ Try.prog w .eql 26 false t43 t44 fun v => k v w) w fun t45 w =>
    pickQ t41 t45 (.bool false) fun t46 =>
    gd t46 true (fun k => callW Try.prog (.func (.func 18) #[] #[]) [] w k) w fun t48 w =>
    pickQ t46 t48 (.bool false) fun t49 =>
    R (.returned t49) w
  )

def A5 : Ann where
  live := fun _ => []
  wr := fun _ _ => false
  sched := fun _ => .done

set_option maxRecDepth 100000 in
theorem ok5 : (codeOk Try.f5.ntmps A5 (Try.f5.body.getD .skip) 0 && Nat.ble 2 Try.f5.ntmps) = true := by kernel_rfl
set_option maxRecDepth 100000 in
theorem lift5 {t0 t1 : Value} {w : World} {R : Ending → World → Prop} (h : S5 t0 t1 w R) : Calls Try.prog 5 #[t0, t1] w R :=
  calls_of_cw (fn := Try.f5) (c := Try.f5.body.getD .skip) A5 mixes Try.func5 (by kernel_rfl) ok5
    ((by kernel_rfl : (S5 t0 t1 w R) = cw Try.prog A5 (Try.f5.body.getD .skip) 0 (bodyQ Try.prog Try.f5 R) (frOf #[t0, t1]) w).mp h)

theorem fok85 : fnOk Try.prog 85 = true := by kernel_rfl
theorem fok21 : fnOk Try.prog 21 = true := by kernel_rfl
theorem fok22 : fnOk Try.prog 22 = true := by kernel_rfl
theorem fok3 : fnOk Try.prog 3 = true := by kernel_rfl
theorem fok4 : fnOk Try.prog 4 = true := by kernel_rfl
theorem fok5 : fnOk Try.prog 5 = true := by kernel_rfl
end Go.Proofs.Ytgalbokmgffhkaa
