/- Lifted texts, printed by program (gen.py): what each function's code asks. The ties are by the kernel. -/
import Derived.Test.YtgalbokmgffhkaaBase
set_option linter.all false
namespace Go.Proofs.Ytgalbokmgffhkaa
open Go.Lf Go.RowKit

def S50L1 (t1 t6 t8 t10 t26 t31 : Value) (next : Value → Value → Value → World → Prop) (w : World) : Prop :=
  Loop3 t6 t8 (.int .i64 0) w fun _ t6_2 t8_2 t32 w next_2 =>
    binQ Try.prog w .lss 3 false t32 t31 fun t33 =>
    condW t33 (
      Join (fun (k_2 : Value → Value → World → Prop) =>
        iaS 4 t1 t32 fun t34 =>
        ldN 4 w t34 fun t35 =>
        boxW 32 (.agg #[(.int .i64 0), (.int .i64 0), (.int .i64 0), (.int .i64 0)]) w fun t12 w =>
        stW Try.prog 32 t12 t35 w fun w =>
        fa1 t10 2 fun t36 =>
        ld1 w t36 fun t37 =>
        fa1 t12 0 fun t38 =>
        ld1 w t38 fun t39 =>
        binQ Try.prog w .neq 3 false t37 t39 fun t40 =>
        condW t40 (
          k_2 t6_2 t8_2 w
        ) (
          Drew w fun w =>
          Join (fun (k_3 : Value → World → Prop) =>
            fa1 t10 0 fun t41 =>
            ld1 w t41 fun t42 =>
            fa1 t10 1 fun t44 =>
            ld1 w t44 fun t45 =>
            fa1 t12 1 fun t46 =>
            ld1 w t46 fun t47 =>
            fa1 t12 2 fun t49 =>
            ld1 w t49 fun t50 =>
            fa1 t10 3 fun t52 =>
            ld1 w t52 fun t53 =>
            fa1 t12 3 fun t54 =>
            ld1 w t54 fun t55 =>
            And (
              callW Try.prog (.func (.func 99) #[] #[]) [t45, t47] w <| keepB w fun t48 w =>
              And (
                callW Try.prog (.func (.func 99) #[] #[]) [t53, t55] w <| keepB w fun t56 w =>
                bdQ Try.prog 32 [(0, t42), (1, t48), (2, t50), (3, t56)] fun t57 =>
                boxW 32 (.agg #[(.int .i64 0), (.int .i64 0), (.int .i64 0), (.int .i64 0)]) w <| keepB w fun t13_2 w =>
                stW Try.prog 32 t13_2 t57 w fun w =>
                k_3 t13_2 w
              ) <|
              And (
                boxW 32 (.agg #[(.int .i64 0), (.int .i64 0), (.int .i64 0), (.int .i64 0)]) w <| keepB w fun t13_3 w =>
                callW Try.prog (.func (.func 99) #[] #[]) [t53, t55] w <| keepB w fun t56_2 w =>
                bdQ Try.prog 32 [(0, t42), (1, t48), (2, t50), (3, t56_2)] fun t57_2 =>
                stW Try.prog 32 t13_3 t57_2 w fun w =>
                k_3 t13_3 w
              ) <|
              True
            ) <|
            And (
              boxW 32 (.agg #[(.int .i64 0), (.int .i64 0), (.int .i64 0), (.int .i64 0)]) w <| keepB w fun t13_4 w =>
              callW Try.prog (.func (.func 99) #[] #[]) [t45, t47] w <| keepB w fun t48_2 w =>
              callW Try.prog (.func (.func 99) #[] #[]) [t53, t55] w <| keepB w fun t56_3 w =>
              bdQ Try.prog 32 [(0, t42), (1, t48_2), (2, t50), (3, t56_3)] fun t57_3 =>
              stW Try.prog 32 t13_4 t57_3 w fun w =>
              k_3 t13_4 w
            ) <|
            True
          ) fun t13 w =>
          ldN 4 w t13 fun t59 =>
          callW Try.prog (.func (.func 100) #[] #[]) [t6_2, t59] w fun t60 w =>
          unQ .not t60 fun t61 =>
          condW t61 (
            Drew w fun w =>
            Join (fun (k_4 : Value → Value → World → Prop) =>
              ∃ X : Nat → Prop,
              takeX X w (fun w k => k t6_2) fun t62 =>
              takeX X w (fun w k => ldN 4 w t13 k) fun t63 =>
              takeX X w (fun w k => k t8_2) fun t66 =>
              takeX X w (fun w k => fa1 t13 1 k) fun t67 =>
              takeX X w (fun w k => ld1 w t67 k) fun t68 =>
              takeX X w (fun w k => fa1 t13 3 k) fun t69 =>
              takeX X w (fun w k => ld1 w t69 k) fun t70 =>
              And (
                bsW Try.prog 22 1 [(0, t63)] w <| keepX X w fun t64 w =>
                And (
                  semW Try.prog (apS [22, 22] 22 [t62, t64]) w <| keepX X w fun t65 w =>
                  bsW Try.prog 30 2 [(0, t68), (1, t70)] w <| keepX X w fun t71 w =>
                  semW Try.prog (apS [30, 30] 30 [t66, t71]) w fun t72 w =>
                  takeX X w (fun w k => k t65) fun t6_5 =>
                  takeX X w (fun w k => k t72) fun t8_5 =>
                  k_4 t6_5 t8_5 w
                ) <|
                And (
                  bsW Try.prog 30 2 [(0, t68), (1, t70)] w <| keepX X w fun t71_2 w =>
                  semW Try.prog (apS [22, 22] 22 [t62, t64]) w <| keepX X w fun t65_2 w =>
                  semW Try.prog (apS [30, 30] 30 [t66, t71_2]) w fun t72_2 w =>
                  takeX X w (fun w k => k t65_2) fun t6_6 =>
                  takeX X w (fun w k => k t72_2) fun t8_6 =>
                  k_4 t6_6 t8_6 w
                ) <|
                True
              ) <|
              And (
                bsW Try.prog 30 2 [(0, t68), (1, t70)] w <| keepX X w fun t71_3 w =>
                bsW Try.prog 22 1 [(0, t63)] w <| keepX X w fun t64_2 w =>
                semW Try.prog (apS [22, 22] 22 [t62, t64_2]) w <| keepX X w fun t65_3 w =>
                semW Try.prog (apS [30, 30] 30 [t66, t71_3]) w fun t72_3 w =>
                takeX X w (fun w k => k t65_3) fun t6_7 =>
                takeX X w (fun w k => k t72_3) fun t8_7 =>
                k_4 t6_7 t8_7 w
              ) <|
              True
            ) fun t6_4 t8_4 w =>
            k_2 t6_4 t8_4 w
          ) (
            k_2 t6_2 t8_2 w
          )
        )
      ) fun t6_3 t8_3 w =>
      binQ Try.prog w .add 3 true t32 (.int .i64 1) fun t73_2 =>
      next_2 t6_3 t8_3 t73_2 w
    ) (
      binQ Try.prog w .add 3 true t26 (.int .i64 1) fun t74 =>
      next t6_2 t8_2 t74 w
    )

def S50L2 (t6 t78 t88 : Value) (R : Ending → World → Prop) (w : World) : Prop :=
  Loop1 (.int .i64 0) w fun _ t89 w next_3 =>
    binQ Try.prog w .lss 3 false t89 t88 fun t90 =>
    condW t90 (
      iaS 4 t6 t89 fun t92 =>
      ldN 4 w t92 fun t93 =>
      boxW 32 (.agg #[(.int .i64 0), (.int .i64 0), (.int .i64 0), (.int .i64 0)]) w fun t15 w =>
      stW Try.prog 32 t15 t93 w fun w =>
      Drew w fun w =>
      ∃ X_2 : Nat → Prop,
      takeX X_2 w (fun w k => k t6) fun t94 =>
      takeX X_2 w (fun w k => k t89) fun t95 =>
      takeX X_2 w (fun w k => k t6) fun t96 =>
      takeX X_2 w (fun w k => k t89) fun t97 =>
      takeX X_2 w (fun w k => k t78) fun t98 =>
      takeX X_2 w (fun w k => fa1 t15 1 k) fun t99 =>
      takeX X_2 w (fun w k => ld1 w t99 k) fun t100 =>
      takeX X_2 w (fun w k => k t78) fun t102 =>
      takeX X_2 w (fun w k => fa1 t15 3 k) fun t103 =>
      takeX X_2 w (fun w k => ld1 w t103 k) fun t104 =>
      callW Try.prog (.func (.func 101) #[] #[]) [t98, t100] w <| keepX X_2 w fun t101 w =>
      callW Try.prog (.func (.func 101) #[] #[]) [t102, t104] w <| keepX X_2 w fun t105 w =>
      takeX X_2 w (fun w k => iaS 4 t94 t95 k) fun t106 =>
      takeX X_2 w (fun w k => fa1 t106 1 k) fun t107 =>
      stW Try.prog 3 t107 t101 w <| keepW X_2 w fun w =>
      takeX X_2 w (fun w k => iaS 4 t96 t97 k) fun t108 =>
      takeX X_2 w (fun w k => fa1 t108 3 k) fun t109 =>
      stW Try.prog 3 t109 t105 w fun w =>
      binQ Try.prog w .add 3 true t89 (.int .i64 1) fun t110 =>
      next_3 t110 w
    ) (
      R (.returned (.tuple #[t6, (.int .i64 0)])) w
    )

def S50L0 (t0 t1 t25 : Value) (R : Ending → World → Prop) (w : World) : Prop :=
  Loop3 (.slice none 0 0) (.slice none 0 0) (.int .i64 0) w fun _ t6 t8 t26 w next =>
    binQ Try.prog w .lss 3 false t26 t25 fun t27 =>
    condW t27 (
      iaS 4 t0 t26 fun t28 =>
      ldN 4 w t28 fun t29 =>
      boxW 32 (.agg #[(.int .i64 0), (.int .i64 0), (.int .i64 0), (.int .i64 0)]) w fun t10 w =>
      stW Try.prog 32 t10 t29 w fun w =>
      ln1 t1 fun t31 =>
      S50L1 t1 t6 t8 t10 t26 t31 next w
    ) (
      callW Try.prog (.func (.func 97) #[] #[]) [t8] w fun t76 w =>
      callW Try.prog (.func (.func 98) #[] #[]) [t8] w fun t78 w =>
      ln1 t6 fun t80 =>
      binQ Try.prog w .gtr 3 true t80 (.int .i64 16) fun t81 =>
      gd t81 false (fun k => k t78 w) w fun t83 w =>
      gd t81 false (fun k => ln1 t83 fun v => k v w) w fun t84 w =>
      gd t81 false (fun k => binQ Try.prog w .gtr 3 true t84 (.int .i64 8) fun v => k v w) w fun t85 w =>
      pickQ t81 (.bool true) t85 fun t86 =>
      condW t86 (
        R (.returned (.tuple #[(.slice none 0 0), (.int .i64 8)])) w
      ) (
        ln1 t6 fun t88 =>
        S50L2 t6 t78 t88 R w
      )
    )

def S50 (t0 t1 : Value) (w : World) (R : Ending → World → Prop) : Prop :=
  callW Try.prog (.func (.func 65) #[] #[]) [t0] w fun t17 w =>
  unQ .not t17 fun t18 =>
  gd t18 false (fun k => k t1 w) w fun t20 w =>
  gd t18 false (fun k => callW Try.prog (.func (.func 65) #[] #[]) [t20] w k) w fun t21 w =>
  gd t18 false (fun k => unQ .not t21 fun v => k v w) w fun t22 w =>
  pickQ t18 (.bool true) t22 fun t23 =>
  condW t23 (
    R (.returned (.tuple #[(.slice none 0 0), (.int .i64 2)])) w
  ) (
    ln1 t0 fun t25 =>
    S50L0 t0 t1 t25 R w
  )

def A50 : Ann where
  live := fun
    | 0 => [6, 8, 26]
    | 2 => [6, 8, 32]
    | 4 => [89]
    | _ => []
  wr := fun
    | 0 => fun i => Nat.beq i 6 || Nat.beq i 8 || Nat.beq i 10 || (Nat.ble 12 i && Nat.ble i 13) || (Nat.ble 26 i && Nat.ble i 74)
    | 2 => fun i => Nat.beq i 6 || Nat.beq i 8 || (Nat.ble 12 i && Nat.ble i 13) || (Nat.ble 32 i && Nat.ble i 73)
    | 4 => fun i => (Nat.ble 14 i && Nat.ble i 15) || (Nat.ble 89 i && Nat.ble i 110)
    | _ => fun _ => false
  sched := fun
    | 13 => (.take 0 (.take 1 (.take 2 (.take 3 (.take 4 (.take 5 (.take 6 (.take 8 (.take 9 (.take 10 (.take 11 (.take 12 (.take 13 (.take 14 (.alt 7 (.alt 15 (.take 16 (.eff 17 (.bar 18 .done))) (.alt 17 (.eff 15 (.take 16 (.bar 18 .done))) .nomore)) (.alt 17 (.eff 7 (.eff 15 (.take 16 (.bar 18 .done)))) .nomore))))))))))))))))
    | 15 => (.cls (.take 0 (.take 1 (.take 4 (.take 5 (.take 6 (.take 7 (.take 8 (.alt 2 (.alt 3 (.eff 9 (.bar 10 (.take 11 (.take 12 .done)))) (.alt 9 (.eff 3 (.bar 10 (.take 11 (.take 12 .done)))) .nomore)) (.alt 9 (.eff 2 (.eff 3 (.bar 10 (.take 11 (.take 12 .done))))) .nomore))))))))))
    | 25 => (.cls (.take 0 (.take 1 (.take 2 (.take 3 (.take 4 (.take 5 (.take 6 (.take 8 (.take 9 (.take 10 (.eff 7 (.eff 11 (.take 12 (.take 13 (.eff 14 (.take 15 (.take 16 (.bar 17 .done)))))))))))))))))))
    | _ => .done

set_option maxRecDepth 100000 in
theorem ok50 : (codeOk Try.f50.ntmps A50 (Try.f50.body.getD .skip) 0 && Nat.ble 2 Try.f50.ntmps) = true := by kernel_rfl
set_option maxRecDepth 100000 in
theorem lift50 {t0 t1 : Value} {w : World} {R : Ending → World → Prop} (h : S50 t0 t1 w R) : Calls Try.prog 50 #[t0, t1] w R :=
  calls_of_cw (fn := Try.f50) (c := Try.f50.body.getD .skip) A50 mixes Try.func50 (by kernel_rfl) ok50
    ((by kernel_rfl : (S50 t0 t1 w R) = cw Try.prog A50 (Try.f50.body.getD .skip) 0 (bodyQ Try.prog Try.f50 R) (frOf #[t0, t1]) w).mp h)

def S51L1 (t0 t1 t7 t8 t27 : Value) (next : Value → Value → World → Prop) (w : World) : Prop :=
  Loop2 t7 (.int .i64 0) w fun _ t7_2 t9 w next_2 =>
    ln1 t1 fun t36 =>
    binQ Try.prog w .lss 3 false t9 t36 fun t37 =>
    condW t37 (
      Join (fun (k_2 : Value → World → Prop) =>
        Drew w fun w =>
        iaS 4 t0 t8 fun t42 =>
        fa1 t42 2 fun t43 =>
        ld1 w t43 fun t44 =>
        iaS 4 t1 t9 fun t47 =>
        fa1 t47 0 fun t48 =>
        ld1 w t48 fun t49 =>
        binQ Try.prog w .neq 3 false t44 t49 fun t50 =>
        condW t50 (
          k_2 t7_2 w
        ) (
          Drew w fun w =>
          iaS 4 t0 t8 fun t53 =>
          fa1 t53 0 fun t54 =>
          ld1 w t54 fun t55 =>
          iaS 4 t1 t9 fun t58 =>
          fa1 t58 2 fun t59 =>
          ld1 w t59 fun t60 =>
          iaS 4 t0 t8 fun t63 =>
          fa1 t63 1 fun t64 =>
          ld1 w t64 fun t65 =>
          binQ Try.prog w .mul 3 true t65 (.int .i64 8) fun t66 =>
          iaS 4 t1 t9 fun t69 =>
          fa1 t69 1 fun t70 =>
          ld1 w t70 fun t71 =>
          binQ Try.prog w .add 3 false t66 t71 fun t72 =>
          iaS 4 t0 t8 fun t75 =>
          fa1 t75 3 fun t76 =>
          ld1 w t76 fun t77 =>
          binQ Try.prog w .mul 3 true t77 (.int .i64 8) fun t78 =>
          iaS 4 t1 t9 fun t81 =>
          fa1 t81 3 fun t82 =>
          ld1 w t82 fun t83 =>
          binQ Try.prog w .add 3 false t78 t83 fun t84 =>
          bdQ Try.prog 32 [(0, t55), (2, t60), (1, t72), (3, t84)] fun t85 =>
          boxW 32 (.agg #[(.int .i64 0), (.int .i64 0), (.int .i64 0), (.int .i64 0)]) w <| keepB w fun t10 w =>
          stW Try.prog 32 t10 t85 w fun w =>
          fa1 t10 1 fun t87 =>
          ld1 w t87 fun t88 =>
          iaS 1 t27 t88 fun t89 =>
          stW Try.prog 4 t89 (.bool true) w fun w =>
          fa1 t10 3 fun t91 =>
          ld1 w t91 fun t92 =>
          iaS 1 t27 t92 fun t93 =>
          stW Try.prog 4 t93 (.bool true) w fun w =>
          ldN 4 w t10 fun t95 =>
          bsW Try.prog 22 1 [(0, t95)] w fun t96 w =>
          semW Try.prog (apS [22, 22] 22 [t7_2, t96]) w fun t97 w =>
          k_2 t97 w
        )
      ) fun t7_3 w =>
      binQ Try.prog w .add 3 true t9 (.int .i64 1) fun t39_2 =>
      next_2 t7_3 t39_2 w
    ) (
      binQ Try.prog w .add 3 true t8 (.int .i64 1) fun t33 =>
      next t7_2 t33 w
    )

def S51L4 (t14 t15 t16 : Value) (next_4 : Value → Value → World → Prop) (w : World) : Prop :=
  Loop2 (.bool false) (.int .i64 0) w fun _ t17 t18 w next_5 =>
    ln1 t14 fun t137 =>
    binQ Try.prog w .lss 3 false t18 t137 fun t138 =>
    condW t138 (
      Drew w fun w =>
      gdQ t17 false (fun k => k t14) fun t143 =>
      gdQ t17 false (fun k => k t18) fun t144 =>
      gdQ t17 false (fun k => iaS 4 t143 t144 k) fun t145 =>
      gdQ t17 false (fun k => ldN 4 w t145 k) fun t146 =>
      gdQ t17 false (fun k => ldN 4 w t16 k) fun t147 =>
      gdQ t17 false (fun k => binQ Try.prog w .eql 32 false t146 t147 k) fun t148 =>
      pickQ t17 (.bool true) t148 fun t149 =>
      binQ Try.prog w .add 3 true t18 (.int .i64 1) fun t140 =>
      next_5 t149 t140 w
    ) (
      unQ .not t17 fun t151 =>
      Join (fun (k_4 : Value → World → Prop) =>
        condW t151 (
          ldN 4 w t16 fun t153 =>
          bsW Try.prog 22 1 [(0, t153)] w fun t154 w =>
          semW Try.prog (apS [22, 22] 22 [t14, t154]) w fun t155 w =>
          k_4 t155 w
        ) (
          k_4 t14 w
        )
      ) fun t14_2 w =>
      binQ Try.prog w .add 3 true t15 (.int .i64 1) fun t118_2 =>
      next_4 t14_2 t118_2 w
    )

def S51L3 (t7 t12 t98 : Value) (R : Ending → World → Prop) (w : World) : Prop :=
  Loop2 (.slice none 0 0) (.int .i64 0) w fun _ t14 t15 w next_4 =>
    ln1 t7 fun t115 =>
    binQ Try.prog w .lss 3 false t15 t115 fun t116 =>
    condW t116 (
      iaS 4 t7 t15 fun t121 =>
      ldN 4 w t121 fun t122 =>
      boxW 32 (.agg #[(.int .i64 0), (.int .i64 0), (.int .i64 0), (.int .i64 0)]) w fun t16 w =>
      stW Try.prog 32 t16 t122 w fun w =>
      fa1 t16 1 fun t124 =>
      ld1 w t124 fun t125 =>
      iaS 1 t98 t125 fun t126 =>
      ld1 w t126 fun t127 =>
      fa1 t16 1 fun t128 =>
      stW Try.prog 3 t128 t127 w fun w =>
      fa1 t16 3 fun t130 =>
      ld1 w t130 fun t131 =>
      iaS 1 t98 t131 fun t132 =>
      ld1 w t132 fun t133 =>
      fa1 t16 3 fun t134 =>
      stW Try.prog 3 t134 t133 w fun w =>
      S51L4 t14 t15 t16 next_4 w
    ) (
      ln1 t14 fun t157 =>
      binQ Try.prog w .gtr 3 true t157 (.int .i64 16) fun t158 =>
      gd t158 false (fun k => k t12 w) w fun t160 w =>
      gd t158 false (fun k => binQ Try.prog w .gtr 3 true t160 (.int .i64 8) fun v => k v w) w fun t161 w =>
      pickQ t158 (.bool true) t161 fun t162 =>
      condW t162 (
        R (.returned (.tuple #[(.slice none 0 0), (.int .i64 8)])) w
      ) (
        R (.returned (.tuple #[t14, (.int .i64 0)])) w
      )
    )

def S51L2 (t7 t27 t98 : Value) (R : Ending → World → Prop) (w : World) : Prop :=
  Loop2 (.int .i64 0) (.int .i64 0) w fun _ t12 t13 w next_3 =>
    binQ Try.prog w .lss 3 true t13 (.int .i64 64) fun t100 =>
    condW t100 (
      iaS 1 t98 t13 fun t106 =>
      stW Try.prog 3 t106 t12 w fun w =>
      iaS 1 t27 t13 fun t109 =>
      ld1 w t109 fun t110 =>
      Join (fun (k_3 : Value → World → Prop) =>
        condW t110 (
          binQ Try.prog w .add 3 true t12 (.int .i64 1) fun t112 =>
          k_3 t112 w
        ) (
          k_3 t12 w
        )
      ) fun t12_2 w =>
      binQ Try.prog w .add 3 true t13 (.int .i64 1) fun t102_2 =>
      next_3 t12_2 t102_2 w
    ) (
      S51L3 t7 t12 t98 R w
    )

def S51L0 (t0 t1 t27 : Value) (R : Ending → World → Prop) (w : World) : Prop :=
  Loop2 (.slice none 0 0) (.int .i64 0) w fun _ t7 t8 w next =>
    ln1 t0 fun t30 =>
    binQ Try.prog w .lss 3 false t8 t30 fun t31 =>
    condW t31 (
      S51L1 t0 t1 t7 t8 t27 next w
    ) (
      mkW Try.prog 30 (.int .i64 64) (.int .i64 64) w fun t98 w =>
      S51L2 t7 t27 t98 R w
    )

def S51 (t0 t1 : Value) (w : World) (R : Ending → World → Prop) : Prop :=
  callW Try.prog (.func (.func 35) #[] #[]) [t0] w fun t20 w =>
  unQ .not t20 fun t21 =>
  gd t21 false (fun k => k t1 w) w fun t23 w =>
  gd t21 false (fun k => callW Try.prog (.func (.func 35) #[] #[]) [t23] w k) w fun t24 w =>
  gd t21 false (fun k => unQ .not t24 fun v => k v w) w fun t25 w =>
  pickQ t21 (.bool true) t25 fun t26 =>
  condW t26 (
    R (.returned (.tuple #[(.slice none 0 0), (.int .i64 2)])) w
  ) (
    mkW Try.prog 91 (.int .i64 64) (.int .i64 64) w fun t27 w =>
    S51L0 t0 t1 t27 R w
  )

def A51 : Ann where
  live := fun
    | 0 => [7, 8]
    | 2 => [7, 9]
    | 4 => [12, 13]
    | 6 => [14, 15]
    | 8 => [17, 18]
    | _ => []
  wr := fun
    | 0 => fun i => (Nat.ble 7 i && Nat.ble i 10) || (Nat.ble 28 i && Nat.ble i 97)
    | 2 => fun i => Nat.beq i 7 || (Nat.ble 9 i && Nat.ble i 10) || (Nat.ble 34 i && Nat.ble i 97)
    | 4 => fun i => (Nat.ble 12 i && Nat.ble i 13) || (Nat.ble 99 i && Nat.ble i 112)
    | 6 => fun i => (Nat.ble 14 i && Nat.ble i 18) || (Nat.ble 113 i && Nat.ble i 155)
    | 8 => fun i => (Nat.ble 17 i && Nat.ble i 18) || (Nat.ble 135 i && Nat.ble i 149)
    | _ => fun _ => false
  sched := fun
    | 11 => (.take 0 (.take 1 (.take 2 (.take 3 (.take 4 (.take 5 (.take 6 (.take 7 (.take 8 (.take 9 (.take 10 .done)))))))))))
    | 12 => (.take 0 (.take 1 (.take 2 (.take 3 (.take 4 (.take 5 (.take 6 (.take 7 (.take 8 (.take 9 (.take 10 (.take 11 (.take 12 (.take 13 (.take 14 (.take 15 (.take 16 (.take 17 (.take 18 (.take 19 (.take 20 (.take 21 (.take 22 (.take 23 (.take 24 (.take 25 (.take 26 (.take 27 (.take 28 (.take 29 (.take 30 (.take 31 (.take 32 (.take 33 (.take 34 (.eff 35 (.bar 36 .done)))))))))))))))))))))))))))))))))))))
    | 35 => (.take 0 (.take 1 (.take 2 (.take 3 (.take 4 (.take 5 (.take 6 (.take 7 (.take 8 (.take 9 .done))))))))))
    | _ => .done

set_option maxRecDepth 100000 in
theorem ok51 : (codeOk Try.f51.ntmps A51 (Try.f51.body.getD .skip) 0 && Nat.ble 2 Try.f51.ntmps) = true := by kernel_rfl
set_option maxRecDepth 100000 in
theorem lift51 {t0 t1 : Value} {w : World} {R : Ending → World → Prop} (h : S51 t0 t1 w R) : Calls Try.prog 51 #[t0, t1] w R :=
  calls_of_cw (fn := Try.f51) (c := Try.f51.body.getD .skip) A51 mixes Try.func51 (by kernel_rfl) ok51
    ((by kernel_rfl : (S51 t0 t1 w R) = cw Try.prog A51 (Try.f51.body.getD .skip) 0 (bodyQ Try.prog Try.f51 R) (frOf #[t0, t1]) w).mp h)

def S99 (t0 t1 : Value) (w : World) (R : Ending → World → Prop) : Prop :=
  binQ Try.prog w .mul 3 true t0 (.int .i64 8) fun t6 =>
  binQ Try.prog w .add 3 false t6 t1 fun t8 =>
  R (.returned t8) w

def A99 : Ann where
  live := fun _ => []
  wr := fun _ _ => false
  sched := fun _ => .done

set_option maxRecDepth 100000 in
theorem ok99 : (codeOk Try.f99.ntmps A99 (Try.f99.body.getD .skip) 0 && Nat.ble 2 Try.f99.ntmps) = true := by kernel_rfl
set_option maxRecDepth 100000 in
theorem lift99 {t0 t1 : Value} {w : World} {R : Ending → World → Prop} (h : S99 t0 t1 w R) : Calls Try.prog 99 #[t0, t1] w R :=
  calls_of_cw (fn := Try.f99) (c := Try.f99.body.getD .skip) A99 mixes Try.func99 (by kernel_rfl) ok99
    ((by kernel_rfl : (S99 t0 t1 w R) = cw Try.prog A99 (Try.f99.body.getD .skip) 0 (bodyQ Try.prog Try.f99 R) (frOf #[t0, t1]) w).mp h)

def S101L0 (t0 t1 t7 : Value) (R : Ending → World → Prop) (w : World) : Prop :=
  Loop1 (.int .i64 0) w fun _ t8 w next =>
    binQ Try.prog w .lss 3 false t8 t7 fun t9 =>
    condW t9 (
      iaS 1 t0 t8 fun t14 =>
      ld1 w t14 fun t15 =>
      binQ Try.prog w .eql 3 false t1 t15 fun t16 =>
      condW t16 (
        R (.returned t8) w
      ) (
        binQ Try.prog w .add 3 true t8 (.int .i64 1) fun t18 =>
        next t18 w
      )
    ) (
      R (.returned (.int .i64 (-1))) w
    )



def S101 (t0 t1 : Value) (w : World) (R : Ending → World → Prop) : Prop :=
  ln1 t0 fun t7 =>
  S101L0 t0 t1 t7 R w

def A101 : Ann where
  live := fun
    | 0 => [8]
    | _ => []
  wr := fun
    | 0 => fun i => (Nat.ble 4 i && Nat.ble i 5) || (Nat.ble 8 i && Nat.ble i 18)
    | _ => fun _ => false
  sched := fun _ => .done

set_option maxRecDepth 100000 in
theorem ok101 : (codeOk Try.f101.ntmps A101 (Try.f101.body.getD .skip) 0 && Nat.ble 2 Try.f101.ntmps) = true := by kernel_rfl
set_option maxRecDepth 100000 in
theorem lift101 {t0 t1 : Value} {w : World} {R : Ending → World → Prop} (h : S101 t0 t1 w R) : Calls Try.prog 101 #[t0, t1] w R :=
  calls_of_cw (fn := Try.f101) (c := Try.f101.body.getD .skip) A101 mixes Try.func101 (by kernel_rfl) ok101
    ((by kernel_rfl : (S101 t0 t1 w R) = cw Try.prog A101 (Try.f101.body.getD .skip) 0 (bodyQ Try.prog Try.f101 R) (frOf #[t0, t1]) w).mp h)

def S15 (t0 t1 : Value) (w : World) (R : Ending → World → Prop) : Prop :=
  ln1 t0 fun t10 =>
  binQ Try.prog w .gtr 3 true t10 (.int .i64 40) fun t11 =>
  gd t11 false (fun k => k t1 w) w fun t13 w =>
  gd t11 false (fun k => ln1 t13 fun v => k v w) w fun t14 w =>
  gd t11 false (fun k => binQ Try.prog w .gtr 3 true t14 (.int .i64 40) fun v => k v w) w fun t15 w =>
  pickQ t11 (.bool true) t15 fun t16 =>
  condW t16 (
    callW Try.prog (.func (.func 18) #[] #[]) [] w fun t17 w =>
    R (.returned t17) w
  ) (
    callW Try.prog (.func (.func 50) #[] #[]) [t0, t1] w fun t21 w =>
    exQ t21 0 fun t22 =>
    exQ t21 1 fun t23 =>
    callW Try.prog (.func (.func 51) #[] #[]) [t0, t1] w fun t27 w =>
    exQ t27 0 fun t28 =>
    exQ t27 1 fun t29 =>
    binQ Try.prog w .eql 26 false t23 t29 fun t32 =>
    gd t32 true (fun k => k t22 w) w fun t34 w =>
    gd t32 true (fun k => k t28 w) w fun t35 w =>
    gd t32 true (fun k => callW Try.prog (.func (.func 30) #[] #[]) [t34, t35] w k) w fun t36 w =>
    pickQ t32 t36 (.bool false) fun t37 =>
    gd t37 true (fun k => callW Try.prog (.func (.func 18) #[] #[]) [] w k) w fun t39 w =>
    pickQ t37 t39 (.bool false) fun t40 =>
    R (.returned t40) w
  )

def A15 : Ann where
  live := fun _ => []
  wr := fun _ _ => false
  sched := fun _ => .done

set_option maxRecDepth 100000 in
theorem ok15 : (codeOk Try.f15.ntmps A15 (Try.f15.body.getD .skip) 0 && Nat.ble 2 Try.f15.ntmps) = true := by kernel_rfl
set_option maxRecDepth 100000 in
theorem lift15 {t0 t1 : Value} {w : World} {R : Ending → World → Prop} (h : S15 t0 t1 w R) : Calls Try.prog 15 #[t0, t1] w R :=
  calls_of_cw (fn := Try.f15) (c := Try.f15.body.getD .skip) A15 mixes Try.func15 (by kernel_rfl) ok15
    ((by kernel_rfl : (S15 t0 t1 w R) = cw Try.prog A15 (Try.f15.body.getD .skip) 0 (bodyQ Try.prog Try.f15 R) (frOf #[t0, t1]) w).mp h)

theorem fok50 : fnOk Try.prog 50 = true := by kernel_rfl
theorem fok51 : fnOk Try.prog 51 = true := by kernel_rfl
theorem fok99 : fnOk Try.prog 99 = true := by kernel_rfl
theorem fok101 : fnOk Try.prog 101 = true := by kernel_rfl
theorem fok15 : fnOk Try.prog 15 = true := by kernel_rfl
end Go.Proofs.Ytgalbokmgffhkaa
