/- Texts of my own, merged by program: Sd B5 B6. -/
import Derived.Test.YtgalbokmgffhkaaM03
import Derived.Test.YtgalbokmgffhkaaM11
set_option linter.all false
/- Lifted texts, printed by program (gen.py): what each function's code asks. The ties are by the kernel. -/
namespace Go.Proofs.Ytgalbokmgffhkaa
open Go.Lf Go.RowKit

def S85 (t0 t1 : Value) (w : World) (R : Ending → World → Prop) : Prop :=
  callW Try.prog (.func (.func 57) #[] #[]) [t0, t1] w fun t7 w =>
  R (.returned t7) w

def A85 : Ann where
  live := fun _ => []
  wr := fun _ _ => false
  sched := fun _ => .done

set_option maxRecDepth 100000 in
theorem ok85 : (codeOk Try.f85.ntmps A85 (Try.f85.body.getD .skip) 0 && Nat.ble 2 Try.f85.ntmps) = true := by kernel_rfl
set_option maxRecDepth 100000 in
theorem lift85 {t0 t1 : Value} {w : World} {R : Ending → World → Prop} (h : S85 t0 t1 w R) : Calls Try.prog 85 #[t0, t1] w R :=
  calls_of_cw (fn := Try.f85) (c := Try.f85.body.getD .skip) A85 mixes Try.func85 (by kernel_rfl) ok85
    ((by kernel_rfl : (S85 t0 t1 w R) = cw Try.prog A85 (Try.f85.body.getD .skip) 0 (bodyQ Try.prog Try.f85 R) (frOf #[t0, t1]) w).mp h)

def S21 (t0 t1 : Value) (w : World) (R : Ending → World → Prop) : Prop :=
  boxW 22 t0 w fun t2 w =>
  ld1 w t2 fun t19 =>
  callW Try.prog (.func (.func 65) #[] #[]) [t19] w fun t20 w =>
  unQ .not t20 fun t21 =>
  gd t21 false (fun k => k t1 w) w fun t23 w =>
  gd t21 false (fun k => ln1 t23 fun v => k v w) w fun t24 w =>
  gd t21 false (fun k => callW Try.prog (.func (.func 66) #[] #[]) [t24] w k) w fun t25 w =>
  gd t21 false (fun k => unQ .not t25 fun v => k v w) w fun t26 w =>
  pickQ t21 (.bool true) t26 fun t27 =>
  gd t27 false (fun k => k t1 w) w fun t29 w =>
  gd t27 false (fun k => iaS 1 t29 (.int .i64 0) fun v => k v w) w fun t30 w =>
  gd t27 false (fun k => ld1 w t30 fun v => k v w) w fun t31 w =>
  gd t27 false (fun k => ln1 t31 fun v => k v w) w fun t32 w =>
  gd t27 false (fun k => callW Try.prog (.func (.func 66) #[] #[]) [t32] w k) w fun t33 w =>
  gd t27 false (fun k => unQ .not t33 fun v => k v w) w fun t34 w =>
  pickQ t27 (.bool true) t34 fun t35 =>
  condW t35 (
    R (.returned (.tuple #[(.bool false), (.bool false), (.int .i64 2)])) w
  ) (
    iaS 1 t1 (.int .i64 0) fun t37 =>
    ld1 w t37 fun t38 =>
    ln1 t38 fun t39 =>
    ln1 t1 fun t41 =>
    ln1 t1 fun t43 =>
    Loop1 (.int .i64 0) w fun _ t44 w next =>
      binQ Try.prog w .lss 3 false t44 t43 fun t45 =>
      condW t45 (
        iaS 1 t1 t44 fun t46 =>
        ld1 w t46 fun t47 =>
        ln1 t47 fun t49 =>
        binQ Try.prog w .neq 3 false t49 t39 fun t51 =>
        gd t51 false (fun k => k t47 w) w fun t53 w =>
        gd t51 false (fun k => k (.func (.func 67) #[] #[t2]) w) w fun t54 w =>
        gd t51 false (fun k => callW Try.prog (.func (.func 54) #[] #[]) [t53, t54] w k) w fun t55 w =>
        pickQ t51 (.bool true) t55 fun t56 =>
        condW t56 (
          R (.returned (.tuple #[(.bool false), (.bool false), (.int .i64 2)])) w
        ) (
          binQ Try.prog w .add 3 true t44 (.int .i64 1) fun t57 =>
          next t57 w
        )
      ) (
        ln1 t1 fun t59 =>
        Loop3 (.bool true) (.bool true) (.int .i64 0) w fun _ t11 t12 t60 w next_2 =>
          binQ Try.prog w .lss 3 false t60 t59 fun t61 =>
          condW t61 (
            iaS 1 t1 t60 fun t63 =>
            ld1 w t63 fun t64 =>
            ln1 t64 fun t66 =>
            Loop3 t11 t12 (.int .i64 0) w fun _ t11_2 t12_2 t67 w next_3 =>
              binQ Try.prog w .lss 3 false t67 t66 fun t68 =>
              condW t68 (
                iaS 1 t64 t67 fun t70 =>
                ld1 w t70 fun t71 =>
                Drew w fun w =>
                Join (fun (k_2 : Value → Value → World → Prop) =>
                  ∃ X : Nat → Prop,
                  takeX X w (fun w k => ld1 w t2 k) fun t72 =>
                  takeX X w (fun w k => k t64) fun t73 =>
                  takeX X w (fun w k => k t67) fun t74 =>
                  takeX X w (fun w k => binQ Try.prog w .add 3 true t74 (.int .i64 1) k) fun t75 =>
                  takeX X w (fun w k => k t39) fun t76 =>
                  takeX X w (fun w k => binQ Try.prog w .rem 3 false t75 t76 k) fun t77 =>
                  takeX X w (fun w k => iaS 1 t73 t77 k) fun t78 =>
                  takeX X w (fun w k => ld1 w t78 k) fun t79 =>
                  takeX X w (fun w k => iaS 4 t72 t79 k) fun t80 =>
                  takeX X w (fun w k => ldN 4 w t80 k) fun t81 =>
                  takeX X w (fun w k => ld1 w t2 k) fun t82 =>
                  takeX X w (fun w k => k t1) fun t83 =>
                  takeX X w (fun w k => k t60) fun t84 =>
                  takeX X w (fun w k => binQ Try.prog w .add 3 true t84 (.int .i64 1) k) fun t85 =>
                  takeX X w (fun w k => k t41) fun t86 =>
                  takeX X w (fun w k => binQ Try.prog w .rem 3 false t85 t86 k) fun t87 =>
                  takeX X w (fun w k => iaS 1 t83 t87 k) fun t88 =>
                  takeX X w (fun w k => ld1 w t88 k) fun t89 =>
                  takeX X w (fun w k => k t67) fun t90 =>
                  takeX X w (fun w k => iaS 1 t89 t90 k) fun t91 =>
                  takeX X w (fun w k => ld1 w t91 k) fun t92 =>
                  takeX X w (fun w k => iaS 4 t82 t92 k) fun t93 =>
                  takeX X w (fun w k => ldN 4 w t93 k) fun t94 =>
                  And (
                    boxW 32 (.agg #[(.int .i64 0), (.int .i64 0), (.int .i64 0), (.int .i64 0)]) w <| keepX X w fun t17_2 w =>
                    boxW 32 (.agg #[(.int .i64 0), (.int .i64 0), (.int .i64 0), (.int .i64 0)]) w <| keepX X w fun t18_2 w =>
                    stW Try.prog 32 t17_2 t81 w <| keepW X w fun w =>
                    stW Try.prog 32 t18_2 t94 w fun w =>
                    k_2 t17_2 t18_2 w
                  ) <|
                  And (
                    boxW 32 (.agg #[(.int .i64 0), (.int .i64 0), (.int .i64 0), (.int .i64 0)]) w <| keepX X w fun t18_3 w =>
                    boxW 32 (.agg #[(.int .i64 0), (.int .i64 0), (.int .i64 0), (.int .i64 0)]) w <| keepX X w fun t17_3 w =>
                    stW Try.prog 32 t17_3 t81 w <| keepW X w fun w =>
                    stW Try.prog 32 t18_3 t94 w fun w =>
                    k_2 t17_3 t18_3 w
                  ) <|
                  True
                ) fun t17 t18 w =>
                Drew w fun w =>
                ld1 w t2 fun t95 =>
                iaS 4 t95 t71 fun t97 =>
                fa1 t97 1 fun t98 =>
                ld1 w t98 fun t99 =>
                fa1 t17 3 fun t100 =>
                ld1 w t100 fun t101 =>
                binQ Try.prog w .neq 3 false t99 t101 fun t102 =>
                Join (fun (k_4 : Value → Value → World → Prop) =>
                  condW t102 (
                    gd t11_2 true (fun k => k t67 w) w fun t105 w =>
                    gd t11_2 true (fun k => k t39 w) w fun t106 w =>
                    gd t11_2 true (fun k => binQ Try.prog w .sub 3 true t106 (.int .i64 1) fun v => k v w) w fun t107 w =>
                    gd t11_2 true (fun k => binQ Try.prog w .eql 3 false t105 t107 fun v => k v w) w fun t108 w =>
                    pickQ t11_2 t108 (.bool false) fun t109 =>
                    k_4 t109 (.bool false) w
                  ) (
                    k_4 t11_2 t12_2 w
                  )
                ) fun t11_4 t12_4 w =>
                Drew w fun w =>
                ld1 w t2 fun t110_2 =>
                iaS 4 t110_2 t71 fun t112_2 =>
                fa1 t112_2 2 fun t113_2 =>
                ld1 w t113_2 fun t114_2 =>
                fa1 t18 0 fun t115_2 =>
                ld1 w t115_2 fun t116_2 =>
                binQ Try.prog w .neq 3 false t114_2 t116_2 fun t117_2 =>
                Join (fun (k_5 : Value → Value → World → Prop) =>
                  condW t117_2 (
                    gd t11_4 true (fun k => k t60 w) w fun t120_2 w =>
                    gd t11_4 true (fun k => k t41 w) w fun t121_2 w =>
                    gd t11_4 true (fun k => binQ Try.prog w .sub 3 true t121_2 (.int .i64 1) fun v => k v w) w fun t122_2 w =>
                    gd t11_4 true (fun k => binQ Try.prog w .eql 3 false t120_2 t122_2 fun v => k v w) w fun t123_2 w =>
                    pickQ t11_4 t123_2 (.bool false) fun t124_2 =>
                    k_5 t124_2 (.bool false) w
                  ) (
                    k_5 t11_4 t12_4 w
                  )
                ) fun t11_5 t12_5 w =>
                binQ Try.prog w .add 3 true t67 (.int .i64 1) fun t125_4 =>
                next_3 t11_5 t12_5 t125_4 w
              ) (
                binQ Try.prog w .add 3 true t60 (.int .i64 1) fun t126 =>
                next_2 t11_2 t12_2 t126 w
              )
          ) (
            R (.returned (.tuple #[t11, t12, (.int .i64 0)])) w
          )
      )
  )

def A21 : Ann where
  live := fun
    | 0 => [44]
    | 2 => [11, 12, 60]
    | 4 => [11, 12, 67]
    | _ => []
  wr := fun
    | 0 => fun i => (Nat.ble 4 i && Nat.ble i 6) || Nat.beq i 10 || (Nat.ble 44 i && Nat.ble i 57)
    | 2 => fun i => (Nat.ble 11 i && Nat.ble i 18) || (Nat.ble 60 i && Nat.ble i 126)
    | 4 => fun i => (Nat.ble 11 i && Nat.ble i 12) || (Nat.ble 15 i && Nat.ble i 18) || (Nat.ble 67 i && Nat.ble i 125)
    | _ => fun _ => false
  sched := fun
    | 17 => (.cls (.take 0 (.take 1 (.take 2 (.take 3 (.take 4 (.take 5 (.take 6 (.take 7 (.take 8 (.take 9 (.take 10 (.take 11 (.take 12 (.take 13 (.take 14 (.take 15 (.take 16 (.take 17 (.take 18 (.take 19 (.take 20 (.take 21 (.take 22 (.alt 23 (.eff 24 (.eff 25 (.bar 26 .done))) (.alt 24 (.eff 23 (.eff 25 (.bar 26 .done))) .nomore))))))))))))))))))))))))))
    | 18 => (.take 0 (.take 1 (.take 2 (.take 3 (.take 4 (.take 5 (.take 6 (.take 7 .done))))))))
    | 21 => (.take 0 (.take 1 (.take 2 (.take 3 (.take 4 (.take 5 (.take 6 (.take 7 .done))))))))
    | _ => .done

set_option maxRecDepth 100000 in
theorem ok21 : (codeOk Try.f21.ntmps A21 (Try.f21.body.getD .skip) 0 && Nat.ble 2 Try.f21.ntmps) = true := by kernel_rfl
set_option maxRecDepth 100000 in
theorem lift21 {t0 t1 : Value} {w : World} {R : Ending → World → Prop} (h : S21 t0 t1 w R) : Calls Try.prog 21 #[t0, t1] w R :=
  calls_of_cw (fn := Try.f21) (c := Try.f21.body.getD .skip) A21 mixes Try.func21 (by kernel_rfl) ok21
    ((by kernel_rfl : (S21 t0 t1 w R) = cw Try.prog A21 (Try.f21.body.getD .skip) 0 (bodyQ Try.prog Try.f21 R) (frOf #[t0, t1]) w).mp h)

def S22 (t0 t1 : Value) (w : World) (R : Ending → World → Prop) : Prop :=
  callW Try.prog (.func (.func 35) #[] #[]) [t0] w fun t17 w =>
  unQ .not t17 fun t18 =>
  gd t18 false (fun k => k t1 w) w fun t20 w =>
  gd t18 false (fun k => ln1 t20 fun v => k v w) w fun t21 w =>
  gd t18 false (fun k => callW Try.prog (.func (.func 68) #[] #[]) [t21] w k) w fun t22 w =>
  gd t18 false (fun k => unQ .not t22 fun v => k v w) w fun t23 w =>
  pickQ t18 (.bool true) t23 fun t24 =>
  gd t24 false (fun k => k t1 w) w fun t26 w =>
  gd t24 false (fun k => iaS 1 t26 (.int .i64 0) fun v => k v w) w fun t27 w =>
  gd t24 false (fun k => ld1 w t27 fun v => k v w) w fun t28 w =>
  gd t24 false (fun k => ln1 t28 fun v => k v w) w fun t29 w =>
  gd t24 false (fun k => callW Try.prog (.func (.func 68) #[] #[]) [t29] w k) w fun t30 w =>
  gd t24 false (fun k => unQ .not t30 fun v => k v w) w fun t31 w =>
  pickQ t24 (.bool true) t31 fun t32 =>
  condW t32 (
    R (.returned (.tuple #[(.bool false), (.bool false), (.int .i64 2)])) w
  ) (
    iaS 1 t1 (.int .i64 0) fun t34 =>
    ld1 w t34 fun t35 =>
    ln1 t35 fun t36 =>
    ln1 t1 fun t38 =>
    Loop1 (.int .i64 0) w fun _ t9 w next =>
      binQ Try.prog w .lss 3 false t9 t38 fun t41 =>
      condW t41 (
        iaS 1 t1 t9 fun t46 =>
        ld1 w t46 fun t47 =>
        ln1 t47 fun t48 =>
        binQ Try.prog w .neq 3 false t48 t36 fun t50 =>
        condW t50 (
          R (.returned (.tuple #[(.bool false), (.bool false), (.int .i64 2)])) w
        ) (
          Loop1 (.int .i64 0) w fun _ t10 w next_2 =>
            binQ Try.prog w .lss 3 false t10 t36 fun t53 =>
            condW t53 (
              iaS 1 t1 t9 fun t58 =>
              ld1 w t58 fun t59 =>
              iaS 1 t59 t10 fun t61 =>
              ld1 w t61 fun t62 =>
              binQ Try.prog w .lss 3 true t62 (.int .i64 0) fun t63 =>
              gd t63 false (fun k => k t1 w) w fun t65 w =>
              gd t63 false (fun k => k t9 w) w fun t66 w =>
              gd t63 false (fun k => iaS 1 t65 t66 fun v => k v w) w fun t67 w =>
              gd t63 false (fun k => ld1 w t67 fun v => k v w) w fun t68 w =>
              gd t63 false (fun k => k t10 w) w fun t69 w =>
              gd t63 false (fun k => iaS 1 t68 t69 fun v => k v w) w fun t70 w =>
              gd t63 false (fun k => ld1 w t70 fun v => k v w) w fun t71 w =>
              gd t63 false (fun k => k t0 w) w fun t72 w =>
              gd t63 false (fun k => ln1 t72 fun v => k v w) w fun t73 w =>
              gd t63 false (fun k => binQ Try.prog w .geq 3 false t71 t73 fun v => k v w) w fun t74 w =>
              pickQ t63 (.bool true) t74 fun t75 =>
              condW t75 (
                R (.returned (.tuple #[(.bool false), (.bool false), (.int .i64 2)])) w
              ) (
                binQ Try.prog w .add 3 true t10 (.int .i64 1) fun t55 =>
                next_2 t55 w
              )
            ) (
              binQ Try.prog w .add 3 true t9 (.int .i64 1) fun t43 =>
              next t43 w
            )
        )
      ) (
        Loop3 (.bool true) (.bool true) (.int .i64 0) w fun _ t11 t12 t13 w next_3 =>
          binQ Try.prog w .lss 3 false t13 t38 fun t78 =>
          condW t78 (
            Loop3 t11 t12 (.int .i64 0) w fun _ t11_2 t12_2 t14 w next_4 =>
              binQ Try.prog w .lss 3 false t14 t36 fun t83 =>
              condW t83 (
                iaS 1 t1 t13 fun t89 =>
                ld1 w t89 fun t90 =>
                iaS 1 t90 t14 fun t92 =>
                ld1 w t92 fun t93 =>
                iaS 4 t0 t93 fun t94 =>
                ldN 4 w t94 fun t95 =>
                boxW 32 (.agg #[(.int .i64 0), (.int .i64 0), (.int .i64 0), (.int .i64 0)]) w fun t15 w =>
                stW Try.prog 32 t15 t95 w fun w =>
                Drew w fun w =>
                fa1 t15 1 fun t96 =>
                ld1 w t96 fun t97 =>
                iaS 1 t1 t13 fun t101 =>
                ld1 w t101 fun t102 =>
                binQ Try.prog w .add 3 true t14 (.int .i64 1) fun t104 =>
                binQ Try.prog w .rem 3 false t104 t36 fun t106 =>
                iaS 1 t102 t106 fun t107 =>
                ld1 w t107 fun t108 =>
                iaS 4 t0 t108 fun t109 =>
                fa1 t109 3 fun t110 =>
                ld1 w t110 fun t111 =>
                binQ Try.prog w .neq 3 false t97 t111 fun t112 =>
                Join (fun (k_3 : Value → Value → World → Prop) =>
                  condW t112 (
                    gd t11_2 true (fun k => k t14 w) w fun t115 w =>
                    gd t11_2 true (fun k => binQ Try.prog w .add 3 true t115 (.int .i64 1) fun v => k v w) w fun t116 w =>
                    gd t11_2 true (fun k => k t36 w) w fun t117 w =>
                    gd t11_2 true (fun k => binQ Try.prog w .eql 3 false t116 t117 fun v => k v w) w fun t118 w =>
                    pickQ t11_2 t118 (.bool false) fun t119 =>
                    k_3 t119 (.bool false) w
                  ) (
                    k_3 t11_2 t12_2 w
                  )
                ) fun t11_4 t12_4 w =>
                Drew w fun w =>
                fa1 t15 2 fun t120_2 =>
                ld1 w t120_2 fun t121_2 =>
                binQ Try.prog w .add 3 true t13 (.int .i64 1) fun t125_2 =>
                binQ Try.prog w .rem 3 false t125_2 t38 fun t127_2 =>
                iaS 1 t1 t127_2 fun t128_2 =>
                ld1 w t128_2 fun t129_2 =>
                iaS 1 t129_2 t14 fun t131_2 =>
                ld1 w t131_2 fun t132_2 =>
                iaS 4 t0 t132_2 fun t133_2 =>
                fa1 t133_2 0 fun t134_2 =>
                ld1 w t134_2 fun t135_2 =>
                binQ Try.prog w .neq 3 false t121_2 t135_2 fun t136_2 =>
                Join (fun (k_4 : Value → Value → World → Prop) =>
                  condW t136_2 (
                    gd t11_4 true (fun k => k t13 w) w fun t139_2 w =>
                    gd t11_4 true (fun k => binQ Try.prog w .add 3 true t139_2 (.int .i64 1) fun v => k v w) w fun t140_2 w =>
                    gd t11_4 true (fun k => k t38 w) w fun t141_2 w =>
                    gd t11_4 true (fun k => binQ Try.prog w .eql 3 false t140_2 t141_2 fun v => k v w) w fun t142_2 w =>
                    pickQ t11_4 t142_2 (.bool false) fun t143_2 =>
                    k_4 t143_2 (.bool false) w
                  ) (
                    k_4 t11_4 t12_4 w
                  )
                ) fun t11_5 t12_5 w =>
                binQ Try.prog w .add 3 true t14 (.int .i64 1) fun t85_4 =>
                next_4 t11_5 t12_5 t85_4 w
              ) (
                binQ Try.prog w .add 3 true t13 (.int .i64 1) fun t80 =>
                next_3 t11_2 t12_2 t80 w
              )
          ) (
            gd t11 true (fun k => k t12 w) w fun t147 w =>
            pickQ t11 t147 (.bool false) fun t148 =>
            R (.returned (.tuple #[t11, t148, (.int .i64 0)])) w
          )
      )
  )

def A22 : Ann where
  live := fun
    | 0 => [9]
    | 2 => [10]
    | 4 => [11, 12, 13]
    | 6 => [11, 12, 14]
    | _ => []
  wr := fun
    | 0 => fun i => (Nat.ble 4 i && Nat.ble i 6) || (Nat.ble 9 i && Nat.ble i 10) || (Nat.ble 39 i && Nat.ble i 75)
    | 2 => fun i => (Nat.ble 4 i && Nat.ble i 6) || Nat.beq i 10 || (Nat.ble 51 i && Nat.ble i 75)
    | 4 => fun i => (Nat.ble 11 i && Nat.ble i 15) || (Nat.ble 76 i && Nat.ble i 143)
    | 6 => fun i => (Nat.ble 11 i && Nat.ble i 12) || (Nat.ble 14 i && Nat.ble i 15) || (Nat.ble 81 i && Nat.ble i 143)
    | _ => fun _ => false
  sched := fun
    | 22 => (.take 0 (.take 1 (.take 2 (.take 3 (.take 4 (.take 5 (.take 6 (.take 7 (.take 8 (.take 9 (.take 10 (.take 11 (.take 12 (.take 13 (.take 14 (.take 15 (.take 16 .done)))))))))))))))))
    | 25 => (.take 0 (.take 1 (.take 2 (.take 3 (.take 4 (.take 5 (.take 6 (.take 7 (.take 8 (.take 9 (.take 10 (.take 11 (.take 12 (.take 13 (.take 14 (.take 15 (.take 16 .done)))))))))))))))))
    | _ => .done

set_option maxRecDepth 100000 in
theorem ok22 : (codeOk Try.f22.ntmps A22 (Try.f22.body.getD .skip) 0 && Nat.ble 2 Try.f22.ntmps) = true := by kernel_rfl
set_option maxRecDepth 100000 in
theorem lift22 {t0 t1 : Value} {w : World} {R : Ending → World → Prop} (h : S22 t0 t1 w R) : Calls Try.prog 22 #[t0, t1] w R :=
  calls_of_cw (fn := Try.f22) (c := Try.f22.body.getD .skip) A22 mixes Try.func22 (by kernel_rfl) ok22
    ((by kernel_rfl : (S22 t0 t1 w R) = cw Try.prog A22 (Try.f22.body.getD .skip) 0 (bodyQ Try.prog Try.f22 R) (frOf #[t0, t1]) w).mp h)

def S3 (t0 t1 t2 t3 : Value) (w : World) (R : Ending → World → Prop) : Prop :=
  ln1 t0 fun t14 =>
  binQ Try.prog w .gtr 3 true t14 (.int .i64 40) fun t15 =>
  gd t15 false (fun k => k t3 w) w fun t17 w =>
  gd t15 false (fun k => callW Try.prog (.func (.func 17) #[] #[]) [t17, (.int .i64 200)] w k) w fun t18 w =>
  gd t15 false (fun k => unQ .not t18 fun v => k v w) w fun t19 w =>
  pickQ t15 (.bool true) t19 fun t20 =>
  condW t20 (
    callW Try.prog (.func (.func 18) #[] #[]) [] w fun t21 w =>
    R (.returned t21) w
  ) (
    callW Try.prog (.func (.func 19) #[] #[]) [t0, t1, t2, t3] w fun t27 w =>
    exQ t27 0 fun t28 =>
    exQ t27 1 fun t29 =>
    callW Try.prog (.func (.func 20) #[] #[]) [t0, t1, t2, t3] w fun t35 w =>
    exQ t35 0 fun t36 =>
    exQ t35 1 fun t37 =>
    binQ Try.prog w .eql 4 false t28 t36 fun t40 =>
    gd t40 true (fun k => k t29 w) w fun t42 w =>
    gd t40 true (fun k => k t37 w) w fun t43 w =>
    gd t40 true (fun k => binQ Try.prog w .eql 26 false t42 t43 fun v => k v w) w fun t44 w =>
    pickQ t40 t44 (.bool false) fun t45 =>
    gd t45 true (fun k => callW Try.prog (.func (.func 18) #[] #[]) [] w k) w fun t47 w =>
    pickQ t45 t47 (.bool false) fun t48 =>
    R (.returned t48) w
  )

def A3 : Ann where
  live := fun _ => []
  wr := fun _ _ => false
  sched := fun _ => .done

set_option maxRecDepth 100000 in
theorem ok3 : (codeOk Try.f3.ntmps A3 (Try.f3.body.getD .skip) 0 && Nat.ble 4 Try.f3.ntmps) = true := by kernel_rfl
set_option maxRecDepth 100000 in
theorem lift3 {t0 t1 t2 t3 : Value} {w : World} {R : Ending → World → Prop} (h : S3 t0 t1 t2 t3 w R) : Calls Try.prog 3 #[t0, t1, t2, t3] w R :=
  calls_of_cw (fn := Try.f3) (c := Try.f3.body.getD .skip) A3 mixes Try.func3 (by kernel_rfl) ok3
    ((by kernel_rfl : (S3 t0 t1 t2 t3 w R) = cw Try.prog A3 (Try.f3.body.getD .skip) 0 (bodyQ Try.prog Try.f3 R) (frOf #[t0, t1, t2, t3]) w).mp h)

def S4 (t0 : Value) (w : World) (R : Ending → World → Prop) : Prop :=
  Join (fun (k_2 : Value → World → Prop) =>
    condW t0 (
      binQ Try.prog w .add 3 true (.int .i64 65535) (.int .i64 1) fun t10 =>
      k_2 t10 w
    ) (
      k_2 (.int .i64 65535) w
    )
  ) fun t3 w =>
  mkW Try.prog 23 t3 t3 w fun t12_2 w =>
  Loop1 (.int .i64 0) w fun _ t5_2 w next_2 =>
    binQ Try.prog w .lss 3 false t5_2 t3 fun t15_2 =>
    condW t15_2 (
      bsW Try.prog 30 2 [(0, (.int .i64 1)), (1, (.int .i64 1))] w fun t20_2 w =>
      iaS 1 t12_2 t5_2 fun t21_2 =>
      stW Try.prog 30 t21_2 t20_2 w fun w =>
      binQ Try.prog w .add 3 true t5_2 (.int .i64 1) fun t17_2 =>
      next_2 t17_2 w
    ) (
      bdQ Try.prog 32 [(2, (.int .i64 1))] fun t23_2 =>
      bsW Try.prog 22 1 [(0, t23_2)] w fun t24_2 w =>
      callW Try.prog (.func (.func 19) #[] #[]) [t24_2, (.int .i64 1), (.int .i64 2), t12_2] w fun t26_2 w =>
      exQ t26_2 0 fun t27_2 =>
      exQ t26_2 1 fun t28_2 =>
      condW t0 (
        unQ .not t27_2 fun t31_2 =>
        gd t31_2 true (fun k => k t28_2 w) w fun t33_2 w =>
        gd t31_2 true (fun k => binQ Try.prog w .eql 26 true t33_2 (.int .i64 3) fun v => k v w) w fun t34_2 w =>
        pickQ t31_2 t34_2 (.bool false) fun t35_2 =>
        gd t35_2 true (fun k => callW Try.prog (.func (.func 18) #[] #[]) [] w k) w fun t37_2 w =>
        pickQ t35_2 t37_2 (.bool false) fun t38_2 =>
        R (.returned t38_2) w
      ) (
        unQ .not t27_2 fun t40_2 =>
        gd t40_2 true (fun k => k t28_2 w) w fun t42_2 w =>
        gd t40_2 true (fun k => binQ Try.prog w .eql 26 true t42_2 (.int .i64 0) fun v => k v w) w fun t43_2 w =>
        pickQ t40_2 t43_2 (.bool false) fun t44_2 =>
        gd t44_2 true (fun k => callW Try.prog (.func (.func 18) #[] #[]) [] w k) w fun t46_2 w =>
        pickQ t44_2 t46_2 (.bool false) fun t47_2 =>
        R (.returned t47_2) w
      )
    )

def A4 : Ann where
  live := fun
    | 0 => [5]
    | _ => []
  wr := fun
    | 0 => fun i => Nat.beq i 5 || (Nat.ble 13 i && Nat.ble i 21)
    | _ => fun _ => false
  sched := fun _ => .done

set_option maxRecDepth 100000 in
theorem ok4 : (codeOk Try.f4.ntmps A4 (Try.f4.body.getD .skip) 0 && Nat.ble 1 Try.f4.ntmps) = true := by kernel_rfl
set_option maxRecDepth 100000 in
theorem lift4 {t0 : Value} {w : World} {R : Ending → World → Prop} (h : S4 t0 w R) : Calls Try.prog 4 #[t0] w R :=
  calls_of_cw (fn := Try.f4) (c := Try.f4.body.getD .skip) A4 mixes Try.func4 (by kernel_rfl) ok4
    ((by kernel_rfl : (S4 t0 w R) = cw Try.prog A4 (Try.f4.body.getD .skip) 0 (bodyQ Try.prog Try.f4 R) (frOf #[t0]) w).mp h)

def S5 (t0 t1 : Value) (w : World) (R : Ending → World → Prop) : Prop :=
  ln1 t0 fun t12 =>
  binQ Try.prog w .gtr 3 true t12 (.int .i64 40) fun t13 =>
  gd t13 false (fun k => k t1 w) w fun t15 w =>
  gd t13 false (fun k => callW Try.prog (.func (.func 17) #[] #[]) [t15, (.int .i64 20)] w k) w fun t16 w =>
  gd t13 false (fun k => unQ .not t16 fun v => k v w) w fun t17 w =>
  pickQ t13 (.bool true) t17 fun t18 =>
  condW t18 (
    callW Try.prog (.func (.func 18) #[] #[]) [] w fun t19 w =>
    R (.returned t19) w
  ) (
    callW Try.prog (.func (.func 21) #[] #[]) [t0, t1] w fun t23 w =>
    exQ t23 0 fun t24 =>
    exQ t23 1 fun t25 =>
    exQ t23 2 fun t26 =>
    callW Try.prog (.func (.func 22) #[] #[]) [t0, t1] w fun t30 w =>
    exQ t30 0 fun t31 =>
    exQ t30 1 fun t32 =>
    exQ t30 2 fun t33 =>
    binQ Try.prog w .eql 4 false t24 t31 fun t36 =>
    gd t36 true (fun k => k t25 w) w fun t38 w =>
    gd t36 true (fun k => k t32 w) w fun t39 w =>
    gd t36 true (fun k => binQ Try.prog w .eql 4 false t38 t39 fun v => k v w) w fun t40 w =>
    pickQ t36 t40 (.bool false) fun t41 =>
    gd t41 true (fun k => k t26 w) w fun t43 w =>
    gd t41 true (fun k => k t33 w) w fun t44 w =>
    gd t41 true (fun k => binQ Try.prog w .eql 26 false t43 t44 fun v => k v w) w fun t45 w =>
    pickQ t41 t45 (.bool false) fun t46 =>
    gd t46 true (fun k => callW Try.prog (.func (.func 18) #[] #[]) [] w k) w fun t48 w =>
    pickQ t46 t48 (.bool false) fun t49 =>
    R (.returned t49) w
  )

def A5 : Ann where
  live := fun _ => []
  wr := fun _ _ => false
  sched := fun _ => .done

set_option maxRecDepth 100000 in
theorem ok5 : (codeOk Try.f5.ntmps A5 (Try.f5.body.getD .skip) 0 && Nat.ble 2 Try.f5.ntmps) = true := by kernel_rfl
set_option maxRecDepth 100000 in
theorem lift5 {t0 t1 : Value} {w : World} {R : Ending → World → Prop} (h : S5 t0 t1 w R) : Calls Try.prog 5 #[t0, t1] w R :=
  calls_of_cw (fn := Try.f5) (c := Try.f5.body.getD .skip) A5 mixes Try.func5 (by kernel_rfl) ok5
    ((by kernel_rfl : (S5 t0 t1 w R) = cw Try.prog A5 (Try.f5.body.getD .skip) 0 (bodyQ Try.prog Try.f5 R) (frOf #[t0, t1]) w).mp h)

theorem fok85 : fnOk Try.prog 85 = true := by kernel_rfl
theorem fok21 : fnOk Try.prog 21 = true := by kernel_rfl
theorem fok22 : fnOk Try.prog 22 = true := by kernel_rfl
theorem fok3 : fnOk Try.prog 3 = true := by kernel_rfl
theorem fok4 : fnOk Try.prog 4 = true := by kernel_rfl
theorem fok5 : fnOk Try.prog 5 = true := by kernel_rfl
end Go.Proofs.Ytgalbokmgffhkaa

/- Contracts: colours, Contains at booleans, SortFunc of one list. -/
namespace Go.Proofs.Ytgalbokmgffhkaa
open Go.Lf Go.RowKit Go.Wg

/-- The colours that a number is made of. -/
def colsL : Nat → Int → List Int
  | 0, _ => []
  | a + 1, c => colsL a (c / 8) ++ [c % 8]
theorem colsL_len : ∀ (a : Nat) (c : Int), (colsL a c).length = a
  | 0, _ => rfl
  | a + 1, c => by rw [colsL, List.length_append, colsL_len a]; rfl

set_option maxRecDepth 100000 in
theorem colours_calls {a : Nat} {c : Int} (w : World) (ha : a ≤ 4) (h0 : 0 ≤ c) (h1 : c ≤ 4096) : Calls Try.prog 83 #[.int .i64 c, .int .i64 a] w fun e w' => ∃ v, e = .returned v ∧ Kp w w' ∧ IntsAt w.heap.size w' v (colsL a c) := by
  refine lift83 ?_
  unfold S83
  refine mk30' (by omega) fun v w1 hv k1 hvb => ?_
  simp (disch := omega) only [r_ln, r_pick, r_pickT, r_pickF, r_condT, r_condF, r_gdTT, r_gdFF, r_gdTF, r_gdFT, r_gqTT, r_gqFF, r_gqTF, r_gqFT, r_not, r_lss, r_leq, r_gtr, r_geq, r_eql, r_neq, r_add, r_sub, r_min2, r_max2, r_min3, r_max3, r_fa, r_iaS, r_iaA, r_ex2a, r_ex2b, r_ex3a, r_ex3b, r_ex3c, r_nc, r_keepE, Nat.zero_add, Nat.add_zero, Nat.mul_one, Int.toNat_natCast, toNat_sub1, toNat_add1, decide_true, decide_false, Bool.not_true, Bool.not_false, if_true, if_false, Bool.false_eq_true, reduceCtorEq]
  refine ⟨fun t0 t6 wr => ∃ (i : Nat) (d : Int) (suf : List Int), i ≤ a ∧ t6 = .int .i64 ((i : Int) - 1) ∧ t0 = .int .i64 d ∧ 0 ≤ d ∧ d ≤ 4096 ∧ colsL a c = colsL i d ++ suf ∧ IntsAt w.heap.size wr v (List.replicate i 0 ++ suf) ∧ Kp w wr, fun _ t6 _ => (intOf t6 + 1).toNat,
    ⟨a, c, [], by omega, rfl, rfl, h0, h1, by simp, by simpa using hv, k1⟩, ?_⟩
  rintro _ _ _ wr ⟨i, d, suf, hi, rfl, rfl, hd0, hd1, hc, hr, hk⟩
  by_cases hlt : 0 < i
  case neg =>
    have : i = 0 := by omega
    subst this
    have hlt' : ¬ (0 : Int) ≤ ((0 : Nat) : Int) - 1 := by omega
    simp (disch := omega) only [r_ln, r_pick, r_pickT, r_pickF, r_condT, r_condF, r_gdTT, r_gdFF, r_gdTF, r_gdFT, r_gqTT, r_gqFF, r_gqTF, r_gqFT, r_not, r_lss, r_leq, r_gtr, r_geq, r_eql, r_neq, r_add, r_sub, r_min2, r_max2, r_min3, r_max3, r_fa, r_iaS, r_iaA, r_ex2a, r_ex2b, r_ex3a, r_ex3b, r_ex3c, r_nc, r_keepE, Nat.zero_add, Nat.add_zero, Nat.mul_one, Int.toNat_natCast, toNat_sub1, toNat_add1, decide_true, decide_false, Bool.not_true, Bool.not_false, if_true, if_false, Bool.false_eq_true, reduceCtorEq, hlt']
    refine ⟨_, rfl, hk, ?_⟩
    rw [hc]
    simpa [colsL] using hr
  have hlt' : (0 : Int) ≤ (i : Int) - 1 := by omega
  obtain ⟨j, rfl⟩ : ∃ j, i = j + 1 := ⟨i - 1, by omega⟩
  have e1 : ((j + 1 : Nat) : Int) - 1 = (j : Int) := by omega
  rw [e1] at hlt' ⊢
  have hsl : (List.replicate (j + 1) (0 : Int) ++ suf).length = a := by
    have := congrArg List.length hc
    rw [List.length_append, colsL_len, colsL_len] at this
    rw [List.length_append, List.length_replicate]
    omega
  obtain ⟨g, cap, ev, hgb, gc, gf, gset⟩ := IntsAt.put hr (q := j) (by omega) (d % 8)
  subst ev
  rw [hsl]
  simp (disch := omega) only [r_ln, r_pick, r_pickT, r_pickF, r_condT, r_condF, r_gdTT, r_gdFF, r_gdTF, r_gdFT, r_gqTT, r_gqFF, r_gqTF, r_gqFT, r_not, r_lss, r_leq, r_gtr, r_geq, r_eql, r_neq, r_add, r_sub, r_min2, r_max2, r_min3, r_max3, r_fa, r_iaS, r_iaA, r_ex2a, r_ex2b, r_ex3a, r_ex3b, r_ex3c, r_nc, r_keepE, Nat.zero_add, Nat.add_zero, Nat.mul_one, Int.toNat_natCast, toNat_sub1, toNat_add1, decide_true, decide_false, Bool.not_true, Bool.not_false, if_true, if_false, Bool.false_eq_true, reduceCtorEq, decide_eq_true hlt', r_rem]
  rw [st3 gc gf]
  simp (disch := omega) only [r_ln, r_pick, r_pickT, r_pickF, r_condT, r_condF, r_gdTT, r_gdFF, r_gdTF, r_gdFT, r_gqTT, r_gqFF, r_gqTF, r_gqFT, r_not, r_lss, r_leq, r_gtr, r_geq, r_eql, r_neq, r_add, r_sub, r_min2, r_max2, r_min3, r_max3, r_fa, r_iaS, r_iaA, r_ex2a, r_ex2b, r_ex3a, r_ex3b, r_ex3c, r_nc, r_keepE, Nat.zero_add, Nat.add_zero, Nat.mul_one, Int.toNat_natCast, toNat_sub1, toNat_add1, decide_true, decide_false, Bool.not_true, Bool.not_false, if_true, if_false, Bool.false_eq_true, reduceCtorEq, r_quo]
  refine ⟨⟨j, d / 8, d % 8 :: suf, by omega, by go_num, rfl, by omega, by omega, by rw [hc, colsL]; simp, ?_, Kp.of_chg hk (Chg.setCell (S := fun k => k = g) _ _ rfl) fun k e => by omega⟩, by simp only [intOf]; omega⟩
  have e2 : (List.replicate (j + 1) (0 : Int) ++ suf).set j (d % 8) = List.replicate j 0 ++ d % 8 :: suf := by
    rw [List.replicate_succ', List.append_assoc, List.set_append_right _ _ (by simp)]
    simp
  rw [e2, hsl] at gset
  exact gset

theorem eqBl (x y : Bool) (w : World) (K : Value → Prop) : binQ Try.prog w .eql 4 false (.bool x) (.bool y) K = genQ Try.prog w (semBin .eql 4 false (.bool x) (.bool y)) K := by kernel_rfl
theorem r_eqlB {x y : Bool} {w : World} {K : Value → Prop} (h : K (.bool (x == y))) : binQ Try.prog w .eql 4 false (.bool x) (.bool y) K := by
  rw [eqBl]
  refine ⟨.bool (x == y), fun _ _ => ?_, h⟩
  cases x <;> cases y <;> kernel_rfl

set_option maxRecDepth 100000 in
/-- slices.Contains of true. -/
theorem containsB_calls {v : Value} {l : List Bool} (w : World) (hr : Rd 1 bC w v l) (hl : l.length ≤ 1000000) : Calls Try.prog 81 #[v, .bool true] w fun e w' => e = .returned (.bool (l.any id)) ∧ Kp w w' := by
  have hidx : Calls Try.prog 108 #[v, .bool true] w fun e w' => ∃ n : Int, e = .returned (.int .i64 n) ∧ decide (0 ≤ n) = l.any id ∧ Kp w w' := by
    obtain ⟨a, cap, rfl, hcap⟩ := hr.len
    refine lift108 ?_
    unfold S108
    simp only [r_ln, r_pick, r_pickT, r_pickF, r_condT, r_condF, r_gdTT, r_gdFF, r_gdTF, r_gdFT, r_gqTT, r_gqFF, r_gqTF, r_gqFT, r_not, r_lss, r_leq, r_gtr, r_geq, r_eql, r_neq, r_add, r_sub, r_min2, r_max2, r_min3, r_max3, r_fa, r_iaS, r_iaA, r_ex2a, r_ex2b, r_ex3a, r_ex3b, r_ex3c, r_nc, r_keepE, Nat.zero_add, Nat.add_zero, Nat.mul_one, Int.toNat_natCast, toNat_sub1, toNat_add1, decide_true, decide_false, Bool.not_true, Bool.not_false, if_true, if_false, Bool.false_eq_true, reduceCtorEq]
    refine ⟨fun t8 wr => ∃ i : Nat, i ≤ l.length ∧ t8 = .int .i64 i ∧ (l.take i).any id = false ∧ Kp w wr, fun t8 _ => l.length - (intOf t8).toNat, ⟨0, by omega, rfl, by simp, Kp.refl _⟩, ?_⟩
    rintro _ _ wr ⟨i, hi, rfl, hn, hk⟩
    by_cases hlt : i < l.length
    case neg =>
      have hlt' : ¬ (i : Int) < (l.length : Int) := by omega
      rw [List.take_of_length_le (by omega)] at hn
      simp (disch := omega) only [r_ln, r_pick, r_pickT, r_pickF, r_condT, r_condF, r_gdTT, r_gdFF, r_gdTF, r_gdFT, r_gqTT, r_gqFF, r_gqTF, r_gqFT, r_not, r_lss, r_leq, r_gtr, r_geq, r_eql, r_neq, r_add, r_sub, r_min2, r_max2, r_min3, r_max3, r_fa, r_iaS, r_iaA, r_ex2a, r_ex2b, r_ex3a, r_ex3b, r_ex3c, r_nc, r_keepE, Nat.zero_add, Nat.add_zero, Nat.mul_one, Int.toNat_natCast, toNat_sub1, toNat_add1, decide_true, decide_false, Bool.not_true, Bool.not_false, if_true, if_false, Bool.false_eq_true, reduceCtorEq, hlt']
      exact ⟨-1, rfl, by rw [hn]; decide, hk⟩
    have hlt' : (i : Int) < (l.length : Int) := by omega
    obtain ⟨b, off, _, e, _, hc⟩ := (hr.kp hk).at (i := i) (x := l.getD i false) (by rw [List.getElem?_eq_getElem hlt, getD_lt _ _ _ hlt])
    cases e
    have hc0 := hc 0 _ rfl
    simp only [Nat.mul_one, Nat.add_zero] at hc0
    simp (disch := omega) only [r_ln, r_pick, r_pickT, r_pickF, r_condT, r_condF, r_gdTT, r_gdFF, r_gdTF, r_gdFT, r_gqTT, r_gqFF, r_gqTF, r_gqFT, r_not, r_lss, r_leq, r_gtr, r_geq, r_eql, r_neq, r_add, r_sub, r_min2, r_max2, r_min3, r_max3, r_fa, r_iaS, r_iaA, r_ex2a, r_ex2b, r_ex3a, r_ex3b, r_ex3c, r_nc, r_keepE, Nat.zero_add, Nat.add_zero, Nat.mul_one, Int.toNat_natCast, toNat_sub1, toNat_add1, decide_true, decide_false, Bool.not_true, Bool.not_false, if_true, if_false, Bool.false_eq_true, reduceCtorEq, decide_eq_true hlt', r_ld hc0]
    refine r_eqlB ?_
    have htk : l.take (i + 1) = l.take i ++ [l.getD i false] := by rw [take_succ' _ _ hlt, getD_lt _ _ _ hlt]
    cases hp : l.getD i false with
    | true =>
      simp (disch := omega) only [r_ln, r_pick, r_pickT, r_pickF, r_condT, r_condF, r_gdTT, r_gdFF, r_gdTF, r_gdFT, r_gqTT, r_gqFF, r_gqTF, r_gqFT, r_not, r_lss, r_leq, r_gtr, r_geq, r_eql, r_neq, r_add, r_sub, r_min2, r_max2, r_min3, r_max3, r_fa, r_iaS, r_iaA, r_ex2a, r_ex2b, r_ex3a, r_ex3b, r_ex3c, r_nc, r_keepE, Nat.zero_add, Nat.add_zero, Nat.mul_one, Int.toNat_natCast, toNat_sub1, toNat_add1, decide_true, decide_false, Bool.not_true, Bool.not_false, if_true, if_false, Bool.false_eq_true, reduceCtorEq, beq_self_eq_true]
      refine ⟨i, rfl, ?_, hk⟩
      have : l.any id = true := List.any_eq_true.2 ⟨true, by rw [← hp]; exact getD_mem hlt, rfl⟩
      rw [this]
      exact decide_eq_true (by omega)
    | false =>
      have e : (true == false) = false := rfl
      simp (disch := omega) only [r_ln, r_pick, r_pickT, r_pickF, r_condT, r_condF, r_gdTT, r_gdFF, r_gdTF, r_gdFT, r_gqTT, r_gqFF, r_gqTF, r_gqFT, r_not, r_lss, r_leq, r_gtr, r_geq, r_eql, r_neq, r_add, r_sub, r_min2, r_max2, r_min3, r_max3, r_fa, r_iaS, r_iaA, r_ex2a, r_ex2b, r_ex3a, r_ex3b, r_ex3c, r_nc, r_keepE, Nat.zero_add, Nat.add_zero, Nat.mul_one, Int.toNat_natCast, toNat_sub1, toNat_add1, decide_true, decide_false, Bool.not_true, Bool.not_false, if_true, if_false, Bool.false_eq_true, reduceCtorEq, e]
      exact ⟨⟨i + 1, by omega, by go_num, by rw [htk, List.any_append, hn, hp]; rfl, hk⟩, by simp only [intOf]; omega⟩
  refine lift81 ?_
  unfold S81
  refine r_use fok108 hidx rfl ?_
  rintro _ w1 ⟨n, rfl, hn, k1⟩
  refine ⟨_, rfl, ?_⟩
  simp only [r_ln, r_pick, r_pickT, r_pickF, r_condT, r_condF, r_gdTT, r_gdFF, r_gdTF, r_gdFT, r_gqTT, r_gqFF, r_gqTF, r_gqFT, r_not, r_lss, r_leq, r_gtr, r_geq, r_eql, r_neq, r_add, r_sub, r_min2, r_max2, r_min3, r_max3, r_fa, r_iaS, r_iaA, r_ex2a, r_ex2b, r_ex3a, r_ex3b, r_ex3c, r_nc, r_keepE, Nat.zero_add, Nat.add_zero, Nat.mul_one, Int.toNat_natCast, toNat_sub1, toNat_add1, decide_true, decide_false, Bool.not_true, Bool.not_false, if_true, if_false, Bool.false_eq_true, reduceCtorEq, hn]
  exact ⟨by first | rfl | trivial, k1⟩

end Go.Proofs.Ytgalbokmgffhkaa

/- Contract: the closure by which Refute names what is dead. -/
namespace Go.Proofs.Ytgalbokmgffhkaa
open Go.Lf Go.RowKit Go.Wg

/-- Lists of integers, each in memory of its own. -/
def IRows (base : Nat) (w : World) (v : Value) (R : List (List Int)) : Prop :=
  ∃ vs : List Value, RecAt 30 1 vE base w v vs ∧ vs.length = R.length ∧ ∀ (i : Nat) (u : Value) (r : List Int), vs[i]? = some u → R[i]? = some r → IntsAt base w u r
theorem IRows.kp {base : Nat} {w w' : World} {v : Value} {R : List (List Int)} (h : IRows base w v R) (hk : Kp w w') : IRows base w' v R :=
  let ⟨vs, h1, h2, h3⟩ := h; ⟨vs, h1.kp hk, h2, fun i u r hu hr => (h3 i u r hu hr).kp hk⟩

theorem st23 {w : World} {a : Addr} {x : Option Addr} {n c : Nat} {v : Value} {K : World → Prop} (hc : w.cell? a = some v) (hf : w.frozen? a = false) : stW Try.prog 23 (.pointer (some a)) (.slice x n c) w K = K (w.setCell a (.slice x n c)) := by
  have e : stW Try.prog 23 (.pointer (some a)) (.slice x n c) w K = ((w.cell? (a.add 0)).isSome = true ∧ w.frozen? (a.add 0) = false ∧ true = true ∧ K (w.setCell (a.add 0) (.slice x n c))) := by kernel_rfl
  rw [e]
  have ha : a.add 0 = a := rfl
  simp [ha, hc, hf]

theorem IRows.chg {S : Nat → Prop} {base : Nat} {w w' : World} {v : Value} {R : List (List Int)} (h : IRows base w v R) (hc : Chg S w w') (hs : ∀ k, base ≤ k → k < w.heap.size → ¬ S k) : IRows base w' v R :=
  let ⟨vs, h1, h2, h3⟩ := h; ⟨vs, h1.chg hc fun k hk => hs k (h1.lt hk).1 (h1.lt hk).2, h2, fun i u r hu hr => (h3 i u r hu hr).chg hc fun k hk => hs k ((h3 i u r hu hr).lt hk).1 ((h3 i u r hu hr).lt hk).2⟩

/-- What was owned in w stays while blocks that came later turn. -/
theorem IRows.later {S : Nat → Prop} {base : Nat} {w w1 w2 : World} {v : Value} {R : List (List Int)} (h : IRows base w v R) (hk : Kp w w1) (hc : Chg S w1 w2) (hs : ∀ k, k < w.heap.size → ¬ S k) : IRows base w2 v R :=
  let ⟨vs, h1, h2, h3⟩ := h; ⟨vs, (h1.kp hk).chg hc fun k hk' => hs k (h1.lt hk').2, h2, fun i u r hu hr => ((h3 i u r hu hr).kp hk).chg hc fun k hk' => hs k ((h3 i u r hu hr).lt hk').2⟩

set_option maxRecDepth 100000 in
/-- append(out, row) -/
theorem r_pushRow {base : Nat} {w : World} {v : Value} {R : List (List Int)} {a : Option Addr} {n c : Nat} {r : List Int} {K : Value → World → Prop} (h : IRows base w v R) (hr : IntsAt base w (.slice a n c) r) (hn : R.length + 1 ≤ 1000000) (hb : base ≤ w.heap.size)
    (hk : ∀ v' w', IRows base w' v' (R ++ [r]) → Chg (fun k => v.ownBlock = some k) w w' → (∃ a n c, v' = .slice a n c) → K v' w') :
    bsW Try.prog 23 1 [(0, .slice a n c)] w fun s w => semW Try.prog (apS [23, 23] 23 [v, s]) w K := by
  obtain ⟨vs, h1, h2, h3⟩ := h
  refine r_pushRec (x := .slice a n c) slt23 vE_len rfl (bs23 _ _ _ _) (by intro u hu; simp at hu; subst hu; rfl) (by omega) h1 (by omega) hb fun v' w' p1 p2 p3 => ?_
  refine hk v' w' ⟨_, p1, by simp [h2], fun j u r' hu hr' => ?_⟩ p2 ?_
  · have key : ∀ u r, IntsAt base w u r → IntsAt base w' u r := fun u r hb => hb.chg p2 fun q hq => rec_ne hb h1 (by decide) q hq
    by_cases hj : j < vs.length
    · rw [List.getElem?_append_left hj] at hu
      rw [List.getElem?_append_left (by rw [← h2]; exact hj)] at hr'
      exact key u r' (h3 j u r' hu hr')
    · rw [List.getElem?_append_right (by omega)] at hu
      rw [List.getElem?_append_right (by rw [← h2]; omega), ← h2] at hr'
      match hjj : j - vs.length with
      | 0 =>
        rw [hjj] at hu hr'
        cases hu
        cases hr'
        exact key _ _ hr
      | n + 1 => rw [hjj] at hu; simp at hu
  · obtain ⟨a, c, e, _⟩ := p1.len
    exact ⟨_, _, _, e⟩

theorem own_type {α : Type} {e : TypeId} {m : Nat} {enc : α → List Value} {base : Nat} {w : World} {v : Value} {P : List α} (h : RecAt e m enc base w v P) {k : Nat} (hk : v.ownBlock = some k) : ∃ cur, w.heap[k]? = some (.cells cur e (0, 0)) := by
  rcases h.2 with ⟨rfl, _⟩ | ⟨g, cap, cur, rfl, _, hg, _⟩
  · cases hk
  · cases hk
    exact ⟨cur, hg⟩

set_option maxRecDepth 100000 in
/-- append(out, row), the row's slice already in a block of its own. -/
theorem r_pushRow2 {base : Nat} {w : World} {v : Value} {R : List (List Int)} {a : Option Addr} {n c q : Nat} {r : List Int} {K : Value → World → Prop} (h : IRows base w v R) (hr : IntsAt base w (.slice a n c) r) (hn : R.length + 1 ≤ 1000000) (hb : base ≤ w.heap.size)
    (hq : w.heap[q]? = some (.cells #[.slice a n c] 30 (0, 0)))
    (hk : ∀ v' w', IRows base w' v' (R ++ [r]) → Chg (fun k => v.ownBlock = some k) w w' → (∃ a n c, v' = .slice a n c) → K v' w') :
    semW Try.prog (apS [23, 23] 23 [v, .slice (some ⟨q, 0, none⟩) 1 1]) w K := by
  obtain ⟨vs, h1, h2, h3⟩ := h
  refine r_apAt (news := [.slice a n c]) slt23 h1 rfl (cells_at_row hq) (by intro u hu; simp at hu; subst hu; rfl) (by omega) (by omega) hb fun v' w' ho p2 _ => ?_
  have p1 : RecAt 30 1 vE base w' v' (vs ++ [.slice a n c]) := by
    unfold RecAt
    rw [recCells_append, List.length_append]
    exact ho
  refine hk v' w' ⟨_, p1, by simp [h2], fun j u r' hu hr' => ?_⟩ p2 ?_
  · have key : ∀ u r, IntsAt base w u r → IntsAt base w' u r := fun u r hb => hb.chg p2 fun q hq => rec_ne hb h1 (by decide) q hq
    by_cases hj : j < vs.length
    · rw [List.getElem?_append_left hj] at hu
      rw [List.getElem?_append_left (by rw [← h2]; exact hj)] at hr'
      exact key u r' (h3 j u r' hu hr')
    · rw [List.getElem?_append_right (by omega)] at hu
      rw [List.getElem?_append_right (by rw [← h2]; omega), ← h2] at hr'
      match hjj : j - vs.length with
      | 0 =>
        rw [hjj] at hu hr'
        cases hu
        cases hr'
        exact key _ _ hr
      | n + 1 => rw [hjj] at hu; simp at hu
  · obtain ⟨a, c, e, _⟩ := p1.len
    exact ⟨_, _, _, e⟩

abbrev ptrV (b : Nat) : Value := .pointer (some ⟨b, 0, none⟩)
abbrev nameF (b15 b10 b11 b4 b12 b16 : Nat) : Value := .func (.func 82) #[] #[ptrV b15, ptrV b10, ptrV b11, ptrV b4, ptrV b12, ptrV b16]

section
variable {L : List Line} {a h N : Nat} {kO : Nat → Nat} {w0 : World} {b15 b10 b11 b4 b12 b16 bm base0 : Nat} {nv av : Value}

/-- What stays while dead lists are named. -/
structure NmCtx (L : List Line) (a h N : Nat) (kO : Nat → Nat) (w0 : World) (b15 b10 b11 b4 b12 b16 bm base0 : Nat) (nv av : Value) : Prop where
  ha : 1 ≤ a ∧ a ≤ 4
  hN : N = 8 ^ a
  ok : LnOk N L
  len : L.length ≤ 65536
  hh : h ≤ 100
  h4 : w0.heap[b4]? = some (.cells #[.int .i64 a] 3 (0, 0))
  h10 : w0.heap[b10]? = some (.cells #[av] 88 (0, 0))
  rows : BRows base0 w0 av ((List.range (h + 1)).map (alvL L N))
  h12 : w0.heap[b12]? = some (.cells #[.map (some bm)] 75 (0, 0))
  grp : ∃ bG, GrpAt bG w0 bm (grpL L)
  ne4 : b4 ≠ b11
  ne10 : b10 ≠ b11
  ne12 : b12 ≠ b11
  nem : bm ≠ b11
  h11 : ∃ cs, w0.heap[b11]? = some (.cells cs 23 (0, 0))
  kO1 : ∀ i, i < N → 1 ≤ kO i ∧ kO i ≤ h ∧ (alvL L N (kO i)).getD i false = false ∧ ∀ j, 1 ≤ j → j < kO i → (alvL L N j).getD i false = true

def rowOf (kO : Nat → Nat) (a i : Nat) : List Int := (kO i : Int) :: colsL a i

structure NmSt (L : List Line) (a N : Nat) (kO : Nat → Nat) (w0 : World) (b15 b10 b11 b4 b12 b16 : Nat) (nv : Value) (w : World) (nm : List Bool) (ov : Value) (out : List (List Int)) : Prop where
  c0 : Chg (fun k => k = b11) w0 w
  h15 : w.heap[b15]? = some (.cells #[nv] 91 (0, 0))
  h16 : w.heap[b16]? = some (.cells #[nameF b15 b10 b11 b4 b12 b16] 96 (0, 0))
  nms : BoolsAt w0.heap.size w nv nm
  nlen : nm.length = N
  h11 : w.heap[b11]? = some (.cells #[ov] 23 (0, 0))
  outs : IRows w0.heap.size w ov out
  ne15 : b15 ≠ b11
  ne16 : b16 ≠ b11

def nF (nm : List Bool) : Nat := nm.countP (fun b => !b)
theorem nF_set {nm : List Bool} {c : Nat} (hc : c < nm.length) (hf : nm.getD c false = false) : nF (nm.set c true) < nF nm := by
  unfold nF
  have e : nm = nm.take c ++ nm[c] :: nm.drop (c + 1) := by rw [← List.drop_eq_getElem_cons hc, List.take_append_drop]
  have e2 : nm.set c true = nm.take c ++ true :: nm.drop (c + 1) := by rw [List.set_eq_take_append_cons_drop, if_pos hc]
  have hf' : nm[c] = false := by rw [← getD_lt nm c false hc]; exact hf
  rw [e2]
  conv => rhs; rw [e]
  simp [List.countP_append, List.countP_cons, hf']
theorem nF_le : ∀ {nm nm' : List Bool}, nm.length = nm'.length → (∀ i, nm.getD i false = true → nm'.getD i false = true) → nF nm' ≤ nF nm
  | [], [], _, _ => Nat.le_refl _
  | b :: nm, b' :: nm', hl, hm => by
    have ih := nF_le (nm := nm) (nm' := nm') (by simpa using hl) fun i hi => by simpa using hm (i + 1) (by simpa using hi)
    have h0 := hm 0
    simp only [List.getD_cons_zero] at h0
    unfold nF at *
    simp only [List.countP_cons]
    cases b <;> cases b' <;> simp at h0 ⊢ <;> omega

theorem NmCtx.grpk (C : NmCtx L a h N kO w0 b15 b10 b11 b4 b12 b16 bm base0 nv av) {c s : Int} (hs : s ∈ grpL L c) : ∃ k : Nat, s = k ∧ k < N ∧ ∃ x ∈ L, x.2.2.1 = s := by
  obtain ⟨x, hx, _, rfl⟩ := mem_grp.1 hs
  obtain ⟨_, x3, x4⟩ := C.ok x hx
  exact ⟨x.2.2.1.toNat, by omega, by omega, x, hx, rfl⟩

theorem not_box {α : Type} {e : TypeId} {m : Nat} {enc : α → List Value} {base : Nat} {w : World} {v : Value} {P : List α} {b : Nat} (h : RecAt e m enc base w v P) (hne : e ≠ 23) (hb : ∃ cs, w.heap[b]? = some (.cells cs 23 (0, 0))) (hk : v.ownBlock = some b) : False := by
  obtain ⟨cur, hcur⟩ := own_type h hk
  obtain ⟨cs, hcs⟩ := hb
  rw [hcs] at hcur
  injection hcur with hcur
  injection hcur with _ h3 _
  exact hne h3.symm

theorem BRows.kp0 {base : Nat} {w w' : World} {v : Value} {R : List (List Bool)} (h : BRows base w v R) (hc : Chg (fun k => k = b11) w w') (hb : ∃ cs, w.heap[b11]? = some (.cells cs 23 (0, 0))) : BRows base w' v R :=
  let ⟨vs, h1, h2, h3⟩ := h; ⟨vs, h1.chg hc fun k hk e => not_box h1 (by decide) hb (e ▸ hk), h2, fun i u r hu hr => (h3 i u r hu hr).chg hc fun k hk e => not_box (h3 i u r hu hr) (by decide) hb (e ▸ hk)⟩

theorem NmSt.kp {w w' : World} {nm : List Bool} {ov : Value} {out : List (List Int)} (S : NmSt L a N kO w0 b15 b10 b11 b4 b12 b16 nv w nm ov out) (hk : Kp w w') : NmSt L a N kO w0 b15 b10 b11 b4 b12 b16 nv w' nm ov out :=
  ⟨S.c0.trans (Chg.of_kp hk), block_below S.h15 hk, block_below S.h16 hk, S.nms.kp hk, S.nlen, block_below S.h11 hk, S.outs.kp hk, S.ne15, S.ne16⟩

set_option maxRecDepth 100000 in
set_option maxHeartbeats 1000000 in
theorem name_calls (C : NmCtx L a h N kO w0 b15 b10 b11 b4 b12 b16 bm base0 nv av) : ∀ (m : Nat) (c : Nat) (w : World) (nm : List Bool) (ov : Value) (out : List (List Int)), nF nm ≤ m → c < N → NmSt L a N kO w0 b15 b10 b11 b4 b12 b16 nv w nm ov out → out.length + nF nm ≤ 10000 →
    Calls Try.prog 82 #[.int .i64 c, ptrV b15, ptrV b10, ptrV b11, ptrV b4, ptrV b12, ptrV b16] w fun e w' => e = .returned (.tuple #[]) ∧ ∃ (nm' : List Bool) (ov' : Value) (new : List Nat), NmSt L a N kO w0 b15 b10 b11 b4 b12 b16 nv w' nm' ov' (out ++ new.map (rowOf kO a)) ∧
      (∀ i, nm.getD i false = true → nm'.getD i false = true) ∧ nm'.getD c false = true ∧ new.Nodup ∧ (∀ i, i ∈ new ↔ nm'.getD i false = true ∧ nm.getD i false = false) ∧ (∀ i ∈ new, i = c ∨ ∃ x ∈ L, x.2.2.1 = (i : Nat)) ∧ (∀ i ∈ new, ∀ s ∈ grpL L (i : Nat), nm'.getD s.toNat false = true) ∧ new.length + nF nm' ≤ nF nm := by
  have done : ∀ (c : Nat) (w : World) (nm : List Bool) (ov : Value) (out : List (List Int)), c < N → NmSt L a N kO w0 b15 b10 b11 b4 b12 b16 nv w nm ov out → nm.getD c false = true →
      Calls Try.prog 82 #[.int .i64 c, ptrV b15, ptrV b10, ptrV b11, ptrV b4, ptrV b12, ptrV b16] w fun e w' => e = .returned (.tuple #[]) ∧ ∃ (nm' : List Bool) (ov' : Value) (new : List Nat), NmSt L a N kO w0 b15 b10 b11 b4 b12 b16 nv w' nm' ov' (out ++ new.map (rowOf kO a)) ∧
      (∀ i, nm.getD i false = true → nm'.getD i false = true) ∧ nm'.getD c false = true ∧ new.Nodup ∧ (∀ i, i ∈ new ↔ nm'.getD i false = true ∧ nm.getD i false = false) ∧ (∀ i ∈ new, i = c ∨ ∃ x ∈ L, x.2.2.1 = (i : Nat)) ∧ (∀ i ∈ new, ∀ s ∈ grpL L (i : Nat), nm'.getD s.toNat false = true) ∧ new.length + nF nm' ≤ nF nm := by
    intro c w nm ov out hc S hnc
    have hcl : c < nm.length := by rw [S.nlen]; exact hc
    obtain ⟨g, cap, ev, _, gc, _, _⟩ := BoolsAt.put S.nms hcl true
    have c15 : w.cell? ⟨b15, 0, none⟩ = some nv := by rw [cell_row S.h15]; rfl
    refine lift82 ?_
    unfold S82
    rw [hnc] at gc
    rw [ev] at c15
    simp (disch := omega) only [r_ln, r_pick, r_pickT, r_pickF, r_condT, r_condF, r_gdTT, r_gdFF, r_gdTF, r_gdFT, r_gqTT, r_gqFF, r_gqTF, r_gqFT, r_not, r_lss, r_leq, r_gtr, r_geq, r_eql, r_neq, r_add, r_sub, r_min2, r_max2, r_min3, r_max3, r_fa, r_iaS, r_iaA, r_ex2a, r_ex2b, r_ex3a, r_ex3b, r_ex3c, r_nc, r_keepE, Nat.zero_add, Nat.add_zero, Nat.mul_one, Int.toNat_natCast, toNat_sub1, toNat_add1, decide_true, decide_false, Bool.not_true, Bool.not_false, if_true, if_false, Bool.false_eq_true, reduceCtorEq, r_ld c15, r_ld gc]
    refine ⟨by first | rfl | trivial, nm, ov, [], by simpa using S, fun i h => h, hnc, by simp, fun i => ⟨fun h => by simp at h, fun h => by rw [h.1] at h; exact absurd h.2 (by decide)⟩, by simp, by simp, by simp⟩
  intro m
  induction m with
  | zero =>
    intro c w nm ov out hm hc S hlen
    have hcl : c < nm.length := by rw [S.nlen]; exact hc
    cases hnc : nm.getD c false with
    | false =>
      have := nF_set hcl hnc
      omega
    | true => exact done c w nm ov out hc S hnc
  | succ m ih =>
    intro c w nm ov out hm hc S hlen
    have hcl : c < nm.length := by rw [S.nlen]; exact hc
    cases hnc : nm.getD c false with
    | true => exact done c w nm ov out hc S hnc
    | false =>
    obtain ⟨g, cap, ev, hgb, gc, gf, gset⟩ := BoolsAt.put S.nms hcl true
    have c15 : w.cell? ⟨b15, 0, none⟩ = some nv := by rw [cell_row S.h15]; rfl
    have hset := nF_set hcl hnc
    refine lift82 ?_
    unfold S82
    rw [hnc] at gc
    rw [ev] at c15
    simp (disch := omega) only [r_ln, r_pick, r_pickT, r_pickF, r_condT, r_condF, r_gdTT, r_gdFF, r_gdTF, r_gdFT, r_gqTT, r_gqFF, r_gqTF, r_gqFT, r_not, r_lss, r_leq, r_gtr, r_geq, r_eql, r_neq, r_add, r_sub, r_min2, r_max2, r_min3, r_max3, r_fa, r_iaS, r_iaA, r_ex2a, r_ex2b, r_ex3a, r_ex3b, r_ex3c, r_nc, r_keepE, Nat.zero_add, Nat.add_zero, Nat.mul_one, Int.toNat_natCast, toNat_sub1, toNat_add1, decide_true, decide_false, Bool.not_true, Bool.not_false, if_true, if_false, Bool.false_eq_true, reduceCtorEq, r_ld c15, r_ld gc]
    rw [st4 gc gf]
    have gty : ∃ cur, w.heap[g]? = some (.cells cur 4 (0, 0)) := by
      obtain ⟨g', _, cur, e', _, hg', _⟩ := S.nms.blk (by omega)
      rw [ev] at e'
      cases e'
      exact ⟨_, hg'⟩
    obtain ⟨gcur, gty⟩ := gty
    have s0 := S.c0.size
    have nb : ∀ {b : Nat} {o : Obj}, w.heap[b]? = some o → (∀ cur, o ≠ .cells cur 4 (0, 0)) → b ≠ g := fun hb ho e => by
      subst e
      rw [gty] at hb
      exact ho _ (Option.some.inj hb).symm
    have cs : Chg (fun k => k = g) w (w.setCell ⟨g, c, none⟩ (.bool true)) := Chg.setCell _ _ rfl
    have S1 : NmSt L a N kO w0 b15 b10 b11 b4 b12 b16 nv (w.setCell ⟨g, c, none⟩ (.bool true)) (nm.set c true) ov out := by
      refine ⟨?_, cs.at S.h15 (nb S.h15 fun cur h => by cases h), cs.at S.h16 (nb S.h16 fun cur h => by cases h), gset, by rw [List.length_set]; exact S.nlen, cs.at S.h11 (nb S.h11 fun cur h => by cases h), ?_, S.ne15, S.ne16⟩
      · have t : Chg (fun k => k = b11 ∨ w0.heap.size ≤ k) w0 (w.setCell ⟨g, c, none⟩ (.bool true)) := (S.c0.mono fun k _ e => .inl e).trans (cs.mono fun k _ e => .inr (by omega))
        exact t.mono fun k hk e => by
          rcases e with e | e
          · exact e
          · omega
      · obtain ⟨vs, o1, o2, o3⟩ := S.outs
        have outer := rec_ne o1 S.nms (by decide)
        refine ⟨vs, o1.chg cs fun k hk e => outer k hk (by rw [e, ev]; rfl), o2, fun i u r hu hr => (o3 i u r hu hr).chg cs fun k hk e => ?_⟩
        exact rec_ne (o3 i u r hu hr) S.nms (by decide) k hk (by rw [e, ev]; rfl)
    have k1 : Chg (fun k => w0.heap.size ≤ k) w (w.setCell ⟨g, c, none⟩ (.bool true)) := cs.mono fun k _ e => by omega
    generalize w.setCell ⟨g, c, none⟩ (.bool true) = w1 at *
    obtain ⟨kk1, kk2, kk3, kk4⟩ := C.kO1 c hc
    have hget1 : ∀ i, (nm.set c true).getD i false = true ↔ i = c ∨ nm.getD i false = true := fun i => by
      by_cases hi : i = c
      · subst hi
        simp [List.getD_eq_getElem?_getD, hcl]
      · simp [List.getD_eq_getElem?_getD, List.getElem?_set_ne (Ne.symm hi), hi]
    have R1 := C.rows.kp0 S1.c0 C.h11
    have hrl : ((List.range (h + 1)).map (alvL L N)).length = h + 1 := by simp
    have hh100 := C.hh
    refine ⟨fun t8 wr => ∃ k : Nat, 1 ≤ k ∧ k ≤ kO c ∧ t8 = .int .i64 k ∧ w1 = wr, fun t8 _ => kO c - (intOf t8).toNat, ⟨1, by omega, kk1, rfl, rfl⟩, ?_⟩
    rintro _ _ _ ⟨k, hk1, hk2, rfl, rfl⟩
    have c10 : w1.cell? ⟨b10, 0, none⟩ = some av := by rw [cell_row (S1.c0.at C.h10 C.ne10)]; rfl
    obtain ⟨ob, oo, ocap, u, eo, ocell, hu⟩ := R1.row (i := k) (r := alvL L N k) (by rw [List.getElem?_map, List.getElem?_range (by omega)]; rfl)
    have hpl := alvL_len L N k
    obtain ⟨ub, uo, uc, eu, _, hus⟩ := (hu.rd bC_len).at (i := c) (x := (alvL L N k).getD c false) (by rw [List.getElem?_eq_getElem (by omega), getD_lt _ _ _ (by omega)])
    have hus0 := hus 0 _ rfl
    simp only [Nat.mul_one, Nat.add_zero] at hus0
    rw [eo] at c10
    rw [eu] at ocell
    rw [hrl] at c10
    by_cases hkk : k < kO c
    · rw [kk4 k hk1 hkk] at hus0
      simp (disch := omega) only [r_ln, r_pick, r_pickT, r_pickF, r_condT, r_condF, r_gdTT, r_gdFF, r_gdTF, r_gdFT, r_gqTT, r_gqFF, r_gqTF, r_gqFT, r_not, r_lss, r_leq, r_gtr, r_geq, r_eql, r_neq, r_add, r_sub, r_min2, r_max2, r_min3, r_max3, r_fa, r_iaS, r_iaA, r_ex2a, r_ex2b, r_ex3a, r_ex3b, r_ex3c, r_nc, r_keepE, Nat.zero_add, Nat.add_zero, Nat.mul_one, Int.toNat_natCast, toNat_sub1, toNat_add1, decide_true, decide_false, Bool.not_true, Bool.not_false, if_true, if_false, Bool.false_eq_true, reduceCtorEq, r_ld c10, r_ld ocell, r_ld hus0]
      exact ⟨⟨k + 1, by omega, by omega, by go_num, by first | rfl | trivial⟩, by simp only [intOf]; omega⟩
    have ek : k = kO c := by omega
    rw [ek, kk3] at hus0
    rw [ek] at ocell hpl
    subst ek
    simp (disch := omega) only [r_ln, r_pick, r_pickT, r_pickF, r_condT, r_condF, r_gdTT, r_gdFF, r_gdTF, r_gdFT, r_gqTT, r_gqFF, r_gqTF, r_gqFT, r_not, r_lss, r_leq, r_gtr, r_geq, r_eql, r_neq, r_add, r_sub, r_min2, r_max2, r_min3, r_max3, r_fa, r_iaS, r_iaA, r_ex2a, r_ex2b, r_ex3a, r_ex3b, r_ex3c, r_nc, r_keepE, Nat.zero_add, Nat.add_zero, Nat.mul_one, Int.toNat_natCast, toNat_sub1, toNat_add1, decide_true, decide_false, Bool.not_true, Bool.not_false, if_true, if_false, Bool.false_eq_true, reduceCtorEq, r_ld c10, r_ld ocell, r_ld hus0]
    refine r_drew fun w2 y2 _ => ?_
    have S2 := S1.kp y2
    have c11 : w2.cell? ⟨b11, 0, none⟩ = some ov := by rw [cell_row S2.h11]; rfl
    have c4 : w2.cell? ⟨b4, 0, none⟩ = some (.int .i64 a) := by rw [cell_row (S2.c0.at C.h4 C.ne4)]; rfl
    have l11 := block_lt S2.h11
    have l4 := block_lt (S2.c0.at C.h4 C.ne4)
    have s02 := S2.c0.size
    have h8 := pow8N_le C.ha.2
    have hcN : (c : Int) ≤ 4096 := by have := C.hN; omega
    refine r_join0 (fun x => ∃ ov2, NmSt L a N kO w0 b15 b10 b11 b4 b12 b16 nv x (nm.set c true) ov2 (out ++ [rowOf kO a c])) ?_ ?_
    rotate_left
    · intro kk hkk
      have n11 : ¬ (fun k => w2.heap.size ≤ k) b11 := by dsimp only; omega
      have n4 : ¬ (fun k => w2.heap.size ≤ k) b4 := by dsimp only; omega
      refine ⟨fun k => w2.heap.size ≤ k, ?_⟩
      simp only [r_ln, r_pick, r_pickT, r_pickF, r_condT, r_condF, r_gdTT, r_gdFF, r_gdTF, r_gdFT, r_gqTT, r_gqFF, r_gqTF, r_gqFT, r_not, r_lss, r_leq, r_gtr, r_geq, r_eql, r_neq, r_add, r_sub, r_min2, r_max2, r_min3, r_max3, r_fa, r_iaS, r_iaA, r_ex2a, r_ex2b, r_ex3a, r_ex3b, r_ex3c, r_nc, r_keepE, Nat.zero_add, Nat.add_zero, Nat.mul_one, Int.toNat_natCast, toNat_sub1, toNat_add1, decide_true, decide_false, Bool.not_true, Bool.not_false, if_true, if_false, Bool.false_eq_true, reduceCtorEq, r_tx, r_txl (X := fun k => w2.heap.size ≤ k) c11 n11, r_txl (X := fun k => w2.heap.size ≤ k) c4 n4]
      have tail : ∀ (wz : World) (p : Nat) (v32 : Value), Kp w2 wz → w2.heap.size ≤ p → IntsAt w2.heap.size wz (.slice (some ⟨p, 0, none⟩) 1 1) [(kO c : Int)] → IntsAt w2.heap.size wz v32 (colsL a c) →
          semW Try.prog (apS [30, 30] 30 [.slice (some ⟨p, 0, none⟩) 1 1, v32]) wz (keepX (fun k => w2.heap.size ≤ k) wz fun t33 w => bsW Try.prog 23 1 [(0, t33)] w (keepX (fun k => w2.heap.size ≤ k) w fun t34 w => semW Try.prog (apS [23, 23] 23 [ov, t34]) w fun t35 w => stW Try.prog 23 (ptrV b11) t35 w fun w => kk w)) := fun wz p v32 kz hp ho1 ho2 => by
        have hcl2 := colsL_len a c
        have ha4 := C.ha
        obtain ⟨vg, vcap, vcur, rfl, hvb, hvg, _, _, _, hvt⟩ := ho2.blk (by omega)
        have sz := kz.size
        have hnews : ∀ j u, ((colsL a c).map (Value.int .i64))[j]? = some u → wz.cell? ((⟨vg, 0, none⟩ : Addr).add j) = some u := fun j u hj => by
          have h1 := (ho2.rd iC_len).ints (by omega)
          rw [List.getElem?_map] at hj
          cases hx : (colsL a c)[j]? with
          | none => rw [hx] at hj; cases hj
          | some x =>
            rw [hx] at hj
            cases hj
            have hjl : j < (colsL a c).length := (List.getElem?_eq_some_iff.1 hx).1
            obtain ⟨b', o', _, e', hc'⟩ := h1.at hjl
            cases e'
            rw [r_addr, hc', getD_lt _ _ _ hjl, (List.getElem?_eq_some_iff.1 hx).2]
        refine r_apAt (news := (colsL a c).map (.int .i64)) slt30 ho1 (by simp) hnews (by intro u hu; simp at hu; obtain ⟨x, _, rfl⟩ := hu; rfl) (by simp; omega) (by omega) sz fun v33 w5 ho5 c5 hv5 => ?_
        have c5p : Chg (fun k => k = p) wz w5 := c5.mono fun k _ e => by injection e with e; exact e.symm
        refine ⟨BX.of_chg (c5p.mono fun k _ e => by rw [e]; exact hp), ?_⟩
        have o33 : IntsAt w2.heap.size w5 v33 (rowOf kO a c) := by
          have e1 : recCells iC (rowOf kO a c) = recCells iC [(kO c : Int)] ++ (colsL a c).map (.int .i64) := by
            rw [rec_ints, rec_ints]; rfl
          unfold IntsAt RecAt
          rw [e1]
          have e2 : (rowOf kO a c).length = [(kO c : Int)].length + (colsL a c).length := by simp [rowOf]; omega
          rw [e2]
          exact ho5
        obtain ⟨ra, rcap, rfl, _⟩ := o33.len
        dsimp only
        rw [bs23]
        refine ⟨BX.of_below (below_alloc _), ?_⟩
        have y6 : Kp w5 (w5.alloc (.cells #[.slice ra (rowOf kO a c).length rcap] 30)) := below_alloc _
        have n6 := heap_alloc_new w5 (.cells #[.slice ra (rowOf kO a c).length rcap] 30)
        generalize w5.alloc (.cells #[.slice ra (rowOf kO a c).length rcap] 30) = w6 at *
        have s5 := c5.size
        have s6 := y6.size
        have h11z : wz.heap[b11]? = some (.cells #[ov] 23 (0, 0)) := block_below S2.h11 kz
        have h116 : w6.heap[b11]? = some (.cells #[ov] 23 (0, 0)) := block_below (c5p.at h11z (by omega)) y6
        have outs6 : IRows w0.heap.size w6 ov out := (S2.outs.later kz c5p fun k hk e => by omega).kp y6
        refine r_pushRow2 outs6 ((o33.down s02).kp y6) (by omega) (by omega) n6 fun ov2 w7 o7 c7 hsl => ?_
        obtain ⟨sa, sn, sc, rfl⟩ := hsl
        obtain ⟨vs6, q6, _, _⟩ := outs6
        have nob : ∀ {b : Nat} {o : Obj}, w6.heap[b]? = some o → (∀ cur, o ≠ .cells cur 30 (0, 0)) → ¬ ov.ownBlock = some b := fun hb ho e => by
          obtain ⟨cur, hcur⟩ := own_type q6 e
          rw [hcur] at hb
          exact ho _ (Option.some.inj hb).symm
        have h117 : w7.heap[b11]? = some (.cells #[ov] 23 (0, 0)) := c7.at h116 (nob h116 fun cur h => by cases h)
        have c117 : w7.cell? ⟨b11, 0, none⟩ = some ov := by rw [cell_row h117]; rfl
        rw [st23 c117 (frozen_row h117)]
        have h118 := setCell_block (o := 0) (v := .slice sa sn sc) h117 rfl
        have c8 : Chg (fun k => k = b11) w7 (w7.setCell ⟨b11, 0, none⟩ (.slice sa sn sc)) := Chg.setCell _ _ rfl
        generalize w7.setCell ⟨b11, 0, none⟩ (.slice sa sn sc) = w8 at *
        have s7 := c7.size
        have carry : ∀ {b : Nat} {o : Obj}, w2.heap[b]? = some o → b ≠ b11 → (∀ cur, o ≠ .cells cur 30 (0, 0)) → w8.heap[b]? = some o := fun {b o} hb hne ho => by
          have lb := block_lt hb
          have h6 : w6.heap[b]? = some o := block_below (c5p.at (block_below hb kz) (by omega)) y6
          exact c8.at (c7.at h6 (nob h6 ho)) hne
        refine hkk w8 ⟨_, ?_, carry S2.h15 S2.ne15 (fun cur h => by cases h), carry S2.h16 S2.ne16 (fun cur h => by cases h), ?_, S2.nlen, h118, ?_, S2.ne15, S2.ne16⟩
        · have t : Chg (fun k => k = b11 ∨ w0.heap.size ≤ k) w0 w8 :=
            (((((S2.c0.mono fun k _ e => .inl e).trans (Chg.of_kp kz)).trans (c5p.mono fun k _ e => .inr (by omega))).trans (Chg.of_kp y6)).trans (c7.mono fun k _ e => .inr (q6.lt e).1)).trans (c8.mono fun k _ e => .inl e)
          exact t.mono fun k hk e => by
            rcases e with e | e
            · exact e
            · omega
        · have m6 : BoolsAt w0.heap.size w6 nv (nm.set c true) := ((S2.nms.kp kz).chg c5p fun k hk e => by have := (S2.nms.lt hk).2; omega).kp y6
          have m7 : BoolsAt w0.heap.size w7 nv (nm.set c true) := m6.chg c7 fun k hk => rec_ne m6 q6 (by decide) k hk
          refine m7.chg c8 fun k hk e => ?_
          obtain ⟨cur, hcur⟩ := own_type m7 hk
          rw [e, h117] at hcur
          cases hcur
        · obtain ⟨vs7, q7, q8, q9⟩ := o7
          have nc : ∀ {α : Type} {e : TypeId} {m : Nat} {enc : α → List Value} {u : Value} {P : List α}, RecAt e m enc w0.heap.size w7 u P → e ≠ 23 → ∀ k, u.ownBlock = some k → ¬ k = b11 := fun hR hne k hk e => by
            obtain ⟨cur, hcur⟩ := own_type hR hk
            rw [e, h117] at hcur
            injection hcur with hcur
            injection hcur with _ h3 _
            exact hne h3.symm
          exact ⟨vs7, q7.chg c8 (nc q7 (by decide)), q8, fun i u r hu hr => (q9 i u r hu hr).chg c8 (nc (q9 i u r hu hr) (by decide))⟩
      have w2base : ∀ {wy : World}, Kp w2 wy → w2.heap.size ≤ wy.heap.size := fun k => k.size
      refine ⟨?_, ?_, trivial⟩
      · rw [bs30]
        refine ⟨BX.of_below (below_alloc _), ?_⟩
        have o3 := rec_one (e := 3) (enc := iC) (x := (kO c : Int)) rfl w2
        have y3 : Kp w2 (w2.alloc (.cells #[.int .i64 (kO c : Int)] 3)) := below_alloc _
        generalize w2.alloc (.cells #[.int .i64 (kO c : Int)] 3) = w3 at *
        refine r_use fok83 (colours_calls (c := (c : Int)) w3 C.ha.2 (by omega) hcN) rfl ?_
        rintro _ w4 ⟨v32, rfl, y4, ho4⟩
        refine ⟨_, rfl, BX.of_below y4, ?_⟩
        exact tail w4 _ v32 (Kp.trans y3 y4) (Nat.le_refl _) (o3.kp y4) (ho4.down y3.size)
      · refine r_use fok83 (colours_calls (c := (c : Int)) w2 C.ha.2 (by omega) hcN) rfl ?_
        rintro _ w3 ⟨v32, rfl, y3, ho3⟩
        refine ⟨_, rfl, BX.of_below y3, ?_⟩
        dsimp only
        rw [bs30]
        refine ⟨BX.of_below (below_alloc _), ?_⟩
        have o4 := rec_one (e := 3) (enc := iC) (x := (kO c : Int)) rfl w3
        have y4 : Kp w3 (w3.alloc (.cells #[.int .i64 (kO c : Int)] 3)) := below_alloc _
        generalize w3.alloc (.cells #[.int .i64 (kO c : Int)] 3) = w4 at *
        exact tail w4 _ v32 (Kp.trans y3 y4) y3.size (o4.down y3.size) (ho3.kp y4)
    rintro x ⟨ov2, Sx⟩
    obtain ⟨bG, f, gf1, gf2, _⟩ := C.grp
    have fx : ∀ {wy : World} {nm : List Bool} {ov : Value} {out : List (List Int)}, NmSt L a N kO w0 b15 b10 b11 b4 b12 b16 nv wy nm ov out → wy.heap[b12]? = some (.cells #[.map (some bm)] 75 (0, 0)) ∧ MapF wy bm nilS f ∧ ∀ c, IntsAt bG wy (f c) (grpL L c) := fun Sy =>
      ⟨Sy.c0.at C.h12 C.ne12, gf1.chg Sy.c0 C.nem, fun c => (gf2 c).chg Sy.c0 fun k hk e => not_box (gf2 c) (by decide) C.h11 (e ▸ hk)⟩
    obtain ⟨x12, xm, xi⟩ := fx Sx
    have c12 : x.cell? ⟨b12, 0, none⟩ = some (.map (some bm)) := by rw [cell_row x12]; rfl
    have ikc : IKey (c : Int) := ⟨by omega, by omega⟩
    obtain ⟨fa, fcap, fe, _⟩ := (xi c).len
    rw [r_ld c12, r_lkF und75 zero30 xm ikc, fe]
    simp only [r_ln, r_pick, r_pickT, r_pickF, r_condT, r_condF, r_gdTT, r_gdFF, r_gdTF, r_gdFT, r_gqTT, r_gqFF, r_gqTF, r_gqFT, r_not, r_lss, r_leq, r_gtr, r_geq, r_eql, r_neq, r_add, r_sub, r_min2, r_max2, r_min3, r_max3, r_fa, r_iaS, r_iaA, r_ex2a, r_ex2b, r_ex3a, r_ex3b, r_ex3c, r_nc, r_keepE, Nat.zero_add, Nat.add_zero, Nat.mul_one, Int.toNat_natCast, toNat_sub1, toNat_add1, decide_true, decide_false, Bool.not_true, Bool.not_false, if_true, if_false, Bool.false_eq_true, reduceCtorEq]
    have hgl := grp_len L (c : Int)
    have hLl := C.len
    refine ⟨fun t40 wr => ∃ (q : Nat) (nq : List Bool) (oq : Value) (new : List Nat), q ≤ (grpL L (c : Int)).length ∧ t40 = .int .i64 q ∧ NmSt L a N kO w0 b15 b10 b11 b4 b12 b16 nv wr nq oq (out ++ (c :: new).map (rowOf kO a)) ∧
        (∀ i, (nm.set c true).getD i false = true → nq.getD i false = true) ∧ (c :: new).Nodup ∧ (∀ i, i ∈ c :: new ↔ nq.getD i false = true ∧ nm.getD i false = false) ∧ (∀ i ∈ new, ∃ x ∈ L, x.2.2.1 = (i : Nat)) ∧ (∀ i ∈ new, ∀ s ∈ grpL L (i : Nat), nq.getD s.toNat false = true) ∧
        (∀ s ∈ (grpL L (c : Int)).take q, nq.getD s.toNat false = true) ∧ new.length + nF nq ≤ nF (nm.set c true), fun t40 _ => (grpL L (c : Int)).length - (intOf t40).toNat,
      ⟨0, nm.set c true, ov2, [], by omega, rfl, Sx, fun i h => h, by simp, fun i => ?_, by simp, by simp, by simp, by simp⟩, ?_⟩
    · rw [hget1 i, List.mem_singleton]
      constructor
      · rintro rfl
        exact ⟨.inl rfl, hnc⟩
      · rintro ⟨h1 | h1, h2⟩
        · exact h1
        · rw [h1] at h2; cases h2
    rintro _ _ wr ⟨q, nq, oq, new, hq, rfl, Sq, hmono, hnd, hiff, hsrc, hsucc, hfirst, hcnt⟩
    by_cases hql : q < (grpL L (c : Int)).length
    case neg =>
      have hql' : ¬ (q : Int) < ((grpL L (c : Int)).length : Int) := by omega
      rw [List.take_of_length_le (by omega)] at hfirst
      simp (disch := omega) only [r_ln, r_pick, r_pickT, r_pickF, r_condT, r_condF, r_gdTT, r_gdFF, r_gdTF, r_gdFT, r_gqTT, r_gqFF, r_gqTF, r_gqFT, r_not, r_lss, r_leq, r_gtr, r_geq, r_eql, r_neq, r_add, r_sub, r_min2, r_max2, r_min3, r_max3, r_fa, r_iaS, r_iaA, r_ex2a, r_ex2b, r_ex3a, r_ex3b, r_ex3c, r_nc, r_keepE, Nat.zero_add, Nat.add_zero, Nat.mul_one, Int.toNat_natCast, toNat_sub1, toNat_add1, decide_true, decide_false, Bool.not_true, Bool.not_false, if_true, if_false, Bool.false_eq_true, reduceCtorEq, hql']
      refine ⟨by first | rfl | trivial, nq, oq, c :: new, Sq, fun i h => hmono i ((hget1 i).2 (.inr h)), hmono c ((hget1 c).2 (.inl rfl)), hnd, hiff, fun i hi => ?_, fun i hi => ?_, by simp; omega⟩
      · rcases List.mem_cons.1 hi with h | h
        · exact .inl h
        · exact .inr (hsrc i h)
      · rcases List.mem_cons.1 hi with h | h
        · rw [h]; exact hfirst
        · exact hsucc i h
    have hql' : (q : Int) < ((grpL L (c : Int)).length : Int) := by omega
    obtain ⟨s, hs, hsN, hsx⟩ := C.grpk (c := (c : Int)) (s := (grpL L (c : Int)).getD q 0) (getD_mem hql)
    obtain ⟨_, _, xr⟩ := fx Sq
    obtain ⟨rb, ro, _, re, rcell⟩ := (((xr c).rd iC_len).ints (by omega)).at hql
    rw [fe] at re
    cases re
    rw [hs] at rcell
    have c16 : wr.cell? ⟨b16, 0, none⟩ = some (nameF b15 b10 b11 b4 b12 b16) := by rw [cell_row Sq.h16]; rfl
    simp (disch := omega) only [r_ln, r_pick, r_pickT, r_pickF, r_condT, r_condF, r_gdTT, r_gdFF, r_gdTF, r_gdFT, r_gqTT, r_gqFF, r_gqTF, r_gqFT, r_not, r_lss, r_leq, r_gtr, r_geq, r_eql, r_neq, r_add, r_sub, r_min2, r_max2, r_min3, r_max3, r_fa, r_iaS, r_iaA, r_ex2a, r_ex2b, r_ex3a, r_ex3b, r_ex3c, r_nc, r_keepE, Nat.zero_add, Nat.add_zero, Nat.mul_one, Int.toNat_natCast, toNat_sub1, toNat_add1, decide_true, decide_false, Bool.not_true, Bool.not_false, if_true, if_false, Bool.false_eq_true, reduceCtorEq, decide_eq_true hql', r_ld rcell, r_ld c16]
    refine r_use fok82 (ih s wr nq oq _ (by omega) hsN Sq (by simp; omega)) rfl ?_
    rintro _ w9 ⟨rfl, nm9, ov9, new9, S9, m9, d9, nd9, if9, src9, suc9, cnt9⟩
    refine ⟨_, rfl, ?_⟩
    try simp (disch := omega) only [r_ln, r_pick, r_pickT, r_pickF, r_condT, r_condF, r_gdTT, r_gdFF, r_gdTF, r_gdFT, r_gqTT, r_gqFF, r_gqTF, r_gqFT, r_not, r_lss, r_leq, r_gtr, r_geq, r_eql, r_neq, r_add, r_sub, r_min2, r_max2, r_min3, r_max3, r_fa, r_iaS, r_iaA, r_ex2a, r_ex2b, r_ex3a, r_ex3b, r_ex3c, r_nc, r_keepE, Nat.zero_add, Nat.add_zero, Nat.mul_one, Int.toNat_natCast, toNat_sub1, toNat_add1, decide_true, decide_false, Bool.not_true, Bool.not_false, if_true, if_false, Bool.false_eq_true, reduceCtorEq]
    have hdis : ∀ i, i ∈ c :: new → i ∉ new9 := fun i hi h9 => by
      have h1 := ((hiff i).1 hi).1
      have h2 := ((if9 i).1 h9).2
      rw [h1] at h2; cases h2
    refine ⟨⟨q + 1, nm9, ov9, new ++ new9, by omega, by go_num, ?_, fun i h => m9 i (hmono i h), ?_, fun i => ?_, fun i hi => ?_, fun i hi => ?_, fun s' hs' => ?_, by simp; omega⟩, by simp only [intOf]; omega⟩
    · have e : out ++ (c :: (new ++ new9)).map (rowOf kO a) = out ++ (c :: new).map (rowOf kO a) ++ new9.map (rowOf kO a) := by simp
      rw [e]
      exact S9
    · have e : c :: (new ++ new9) = (c :: new) ++ new9 := by simp
      rw [e, List.nodup_append]
      exact ⟨hnd, nd9, fun i hi j hj e => hdis i hi (e ▸ hj)⟩
    · have e : c :: (new ++ new9) = (c :: new) ++ new9 := by simp
      rw [e, List.mem_append, hiff i, if9 i]
      constructor
      · rintro (⟨h1, h2⟩ | ⟨h1, h2⟩)
        · exact ⟨m9 i h1, h2⟩
        · refine ⟨h1, ?_⟩
          cases hnm : nm.getD i false with
          | false => rfl
          | true =>
            rw [hmono i ((hget1 i).2 (.inr hnm))] at h2
            cases h2
      · rintro ⟨h1, h2⟩
        cases hnq : nq.getD i false with
        | true => exact .inl ⟨rfl, h2⟩
        | false => exact .inr ⟨h1, rfl⟩
    · rcases List.mem_append.1 hi with h | h
      · exact hsrc i h
      · rcases src9 i h with h | h
        · obtain ⟨x, hx, hxs⟩ := hsx
          exact ⟨x, hx, by rw [hxs, hs, h]⟩
        · exact h
    · rcases List.mem_append.1 hi with h | h
      · exact fun s hs => m9 _ (hsucc i h s hs)
      · exact suc9 i h
    · rw [take_succ' _ _ hql] at hs'
      rcases List.mem_append.1 hs' with h | h
      · exact m9 _ (hfirst s' h)
      · rw [List.mem_singleton] at h
        rw [getD_lt _ _ _ hql] at hs
        rw [h, hs]
        simpa using d9

end
end Go.Proofs.Ytgalbokmgffhkaa
