/- Texts of my own, merged by program: Si H2 H3. -/
import Derived.Test.YtgalbokmgffhkaaN03
import Derived.Test.YtgalbokmgffhkaaN09
import Derived.Test.YtgalbokmgffhkaaN10
import Derived.Test.YtgalbokmgffhkaaN19
set_option linter.all false
/- Lifted texts, printed by program (gen.py): what each function's code asks. The ties are by the kernel. -/
namespace Go.Proofs.Ytgalbokmgffhkaa
open Go.Lf Go.RowKit

def S50L1 (t1 t6 t8 t10 t26 t31 : Value) (next : Value → Value → Value → World → Prop) (w : World) : Prop :=
  Loop3 t6 t8 (.int .i64 0) w fun _ t6_2 t8_2 t32 w next_2 =>
    binQ Try.prog w .lss 3 false t32 t31 fun t33 =>
    condW t33 (
      Join (fun (k_2 : Value → Value → World → Prop) =>
        iaS 4 t1 t32 fun t34 =>
        ldN 4 w t34 fun t35 =>
        boxW 32 (.agg #[(.int .i64 0), (.int .i64 0), (.int .i64 0), (.int .i64 0)]) w fun t12 w =>
        stW Try.prog 32 t12 t35 w fun w =>
        fa1 t10 2 fun t36 =>
        ld1 w t36 fun t37 =>
        fa1 t12 0 fun t38 =>
        ld1 w t38 fun t39 =>
        binQ Try.prog w .neq 3 false t37 t39 fun t40 =>
        condW t40 (
          k_2 t6_2 t8_2 w
        ) (
          Drew w fun w =>
          Join (fun (k_3 : Value → World → Prop) =>
            fa1 t10 0 fun t41 =>
            ld1 w t41 fun t42 =>
            fa1 t10 1 fun t44 =>
            ld1 w t44 fun t45 =>
            fa1 t12 1 fun t46 =>
            ld1 w t46 fun t47 =>
            fa1 t12 2 fun t49 =>
            ld1 w t49 fun t50 =>
            fa1 t10 3 fun t52 =>
            ld1 w t52 fun t53 =>
            fa1 t12 3 fun t54 =>
            ld1 w t54 fun t55 =>
            And (
              callW Try.prog (.func (.func 99) #[] #[]) [t45, t47] w <| keepB w fun t48 w =>
              And (
                callW Try.prog (.func (.func 99) #[] #[]) [t53, t55] w <| keepB w fun t56 w =>
                bdQ Try.prog 32 [(0, t42), (1, t48), (2, t50), (3, t56)] fun t57 =>
                boxW 32 (.agg #[(.int .i64 0), (.int .i64 0), (.int .i64 0), (.int .i64 0)]) w <| keepB w fun t13_2 w =>
                stW Try.prog 32 t13_2 t57 w fun w =>
                k_3 t13_2 w
              ) <|
              And (
                boxW 32 (.agg #[(.int .i64 0), (.int .i64 0), (.int .i64 0), (.int .i64 0)]) w <| keepB w fun t13_3 w =>
                callW Try.prog (.func (.func 99) #[] #[]) [t53, t55] w <| keepB w fun t56_2 w =>
                bdQ Try.prog 32 [(0, t42), (1, t48), (2, t50), (3, t56_2)] fun t57_2 =>
                stW Try.prog 32 t13_3 t57_2 w fun w =>
                k_3 t13_3 w
              ) <|
              True
            ) <|
            And (
              boxW 32 (.agg #[(.int .i64 0), (.int .i64 0), (.int .i64 0), (.int .i64 0)]) w <| keepB w fun t13_4 w =>
              callW Try.prog (.func (.func 99) #[] #[]) [t45, t47] w <| keepB w fun t48_2 w =>
              callW Try.prog (.func (.func 99) #[] #[]) [t53, t55] w <| keepB w fun t56_3 w =>
              bdQ Try.prog 32 [(0, t42), (1, t48_2), (2, t50), (3, t56_3)] fun t57_3 =>
              stW Try.prog 32 t13_4 t57_3 w fun w =>
              k_3 t13_4 w
            ) <|
            True
          ) fun t13 w =>
          ldN 4 w t13 fun t59 =>
          callW Try.prog (.func (.func 100) #[] #[]) [t6_2, t59] w fun t60 w =>
          unQ .not t60 fun t61 =>
          condW t61 (
            Drew w fun w =>
            Join (fun (k_4 : Value → Value → World → Prop) =>
              ∃ X : Nat → Prop,
              takeX X w (fun w k => k t6_2) fun t62 =>
              takeX X w (fun w k => ldN 4 w t13 k) fun t63 =>
              takeX X w (fun w k => k t8_2) fun t66 =>
              takeX X w (fun w k => fa1 t13 1 k) fun t67 =>
              takeX X w (fun w k => ld1 w t67 k) fun t68 =>
              takeX X w (fun w k => fa1 t13 3 k) fun t69 =>
              takeX X w (fun w k => ld1 w t69 k) fun t70 =>
              And (
                bsW Try.prog 22 1 [(0, t63)] w <| keepX X w fun t64 w =>
                And (
                  semW Try.prog (apS [22, 22] 22 [t62, t64]) w <| keepX X w fun t65 w =>
                  bsW Try.prog 30 2 [(0, t68), (1, t70)] w <| keepX X w fun t71 w =>
                  semW Try.prog (apS [30, 30] 30 [t66, t71]) w fun t72 w =>
                  takeX X w (fun w k => k t65) fun t6_5 =>
                  takeX X w (fun w k => k t72) fun t8_5 =>
                  k_4 t6_5 t8_5 w
                ) <|
                And (
                  bsW Try.prog 30 2 [(0, t68), (1, t70)] w <| keepX X w fun t71_2 w =>
                  semW Try.prog (apS [22, 22] 22 [t62, t64]) w <| keepX X w fun t65_2 w =>
                  semW Try.prog (apS [30, 30] 30 [t66, t71_2]) w fun t72_2 w =>
                  takeX X w (fun w k => k t65_2) fun t6_6 =>
                  takeX X w (fun w k => k t72_2) fun t8_6 =>
                  k_4 t6_6 t8_6 w
                ) <|
                True
              ) <|
              And (
                bsW Try.prog 30 2 [(0, t68), (1, t70)] w <| keepX X w fun t71_3 w =>
                bsW Try.prog 22 1 [(0, t63)] w <| keepX X w fun t64_2 w =>
                semW Try.prog (apS [22, 22] 22 [t62, t64_2]) w <| keepX X w fun t65_3 w =>
                semW Try.prog (apS [30, 30] 30 [t66, t71_3]) w fun t72_3 w =>
                takeX X w (fun w k => k t65_3) fun t6_7 =>
                takeX X w (fun w k => k t72_3) fun t8_7 =>
                k_4 t6_7 t8_7 w
              ) <|
              True
            ) fun t6_4 t8_4 w =>
            k_2 t6_4 t8_4 w
          ) (
            k_2 t6_2 t8_2 w
          )
        )
      ) fun t6_3 t8_3 w =>
      binQ Try.prog w .add 3 true t32 (.int .i64 1) fun t73_2 =>
      next_2 t6_3 t8_3 t73_2 w
    ) (
      binQ Try.prog w .add 3 true t26 (.int .i64 1) fun t74 =>
      next t6_2 t8_2 t74 w
    )

def S50L2 (t6 t78 t88 : Value) (R : Ending → World → Prop) (w : World) : Prop :=
  Loop1 (.int .i64 0) w fun _ t89 w next_3 =>
    binQ Try.prog w .lss 3 false t89 t88 fun t90 =>
    condW t90 (
      iaS 4 t6 t89 fun t92 =>
      ldN 4 w t92 fun t93 =>
      boxW 32 (.agg #[(.int .i64 0), (.int .i64 0), (.int .i64 0), (.int .i64 0)]) w fun t15 w =>
      stW Try.prog 32 t15 t93 w fun w =>
      Drew w fun w =>
      ∃ X_2 : Nat → Prop,
      takeX X_2 w (fun w k => k t6) fun t94 =>
      takeX X_2 w (fun w k => k t89) fun t95 =>
      takeX X_2 w (fun w k => k t6) fun t96 =>
      takeX X_2 w (fun w k => k t89) fun t97 =>
      takeX X_2 w (fun w k => k t78) fun t98 =>
      takeX X_2 w (fun w k => fa1 t15 1 k) fun t99 =>
      takeX X_2 w (fun w k => ld1 w t99 k) fun t100 =>
      takeX X_2 w (fun w k => k t78) fun t102 =>
      takeX X_2 w (fun w k => fa1 t15 3 k) fun t103 =>
      takeX X_2 w (fun w k => ld1 w t103 k) fun t104 =>
      callW Try.prog (.func (.func 101) #[] #[]) [t98, t100] w <| keepX X_2 w fun t101 w =>
      callW Try.prog (.func (.func 101) #[] #[]) [t102, t104] w <| keepX X_2 w fun t105 w =>
      takeX X_2 w (fun w k => iaS 4 t94 t95 k) fun t106 =>
      takeX X_2 w (fun w k => fa1 t106 1 k) fun t107 =>
      stW Try.prog 3 t107 t101 w <| keepW X_2 w fun w =>
      takeX X_2 w (fun w k => iaS 4 t96 t97 k) fun t108 =>
      takeX X_2 w (fun w k => fa1 t108 3 k) fun t109 =>
      stW Try.prog 3 t109 t105 w fun w =>
      binQ Try.prog w .add 3 true t89 (.int .i64 1) fun t110 =>
      next_3 t110 w
    ) (
      R (.returned (.tuple #[t6, (.int .i64 0)])) w
    )

def S50L0 (t0 t1 t25 : Value) (R : Ending → World → Prop) (w : World) : Prop :=
  Loop3 (.slice none 0 0) (.slice none 0 0) (.int .i64 0) w fun _ t6 t8 t26 w next =>
    binQ Try.prog w .lss 3 false t26 t25 fun t27 =>
    condW t27 (
      iaS 4 t0 t26 fun t28 =>
      ldN 4 w t28 fun t29 =>
      boxW 32 (.agg #[(.int .i64 0), (.int .i64 0), (.int .i64 0), (.int .i64 0)]) w fun t10 w =>
      stW Try.prog 32 t10 t29 w fun w =>
      ln1 t1 fun t31 =>
      S50L1 t1 t6 t8 t10 t26 t31 next w
    ) (
      callW Try.prog (.func (.func 97) #[] #[]) [t8] w fun t76 w =>
      callW Try.prog (.func (.func 98) #[] #[]) [t8] w fun t78 w =>
      ln1 t6 fun t80 =>
      binQ Try.prog w .gtr 3 true t80 (.int .i64 16) fun t81 =>
      gd t81 false (fun k => k t78 w) w fun t83 w =>
      gd t81 false (fun k => ln1 t83 fun v => k v w) w fun t84 w =>
      gd t81 false (fun k => binQ Try.prog w .gtr 3 true t84 (.int .i64 8) fun v => k v w) w fun t85 w =>
      pickQ t81 (.bool true) t85 fun t86 =>
      condW t86 (
        R (.returned (.tuple #[(.slice none 0 0), (.int .i64 8)])) w
      ) (
        ln1 t6 fun t88 =>
        S50L2 t6 t78 t88 R w
      )
    )

def S50 (t0 t1 : Value) (w : World) (R : Ending → World → Prop) : Prop :=
  callW Try.prog (.func (.func 65) #[] #[]) [t0] w fun t17 w =>
  unQ .not t17 fun t18 =>
  gd t18 false (fun k => k t1 w) w fun t20 w =>
  gd t18 false (fun k => callW Try.prog (.func (.func 65) #[] #[]) [t20] w k) w fun t21 w =>
  gd t18 false (fun k => unQ .not t21 fun v => k v w) w fun t22 w =>
  pickQ t18 (.bool true) t22 fun t23 =>
  condW t23 (
    R (.returned (.tuple #[(.slice none 0 0), (.int .i64 2)])) w
  ) (
    ln1 t0 fun t25 =>
    S50L0 t0 t1 t25 R w
  )

def A50 : Ann where
  live := fun
    | 0 => [6, 8, 26]
    | 2 => [6, 8, 32]
    | 4 => [89]
    | _ => []
  wr := fun
    | 0 => fun i => Nat.beq i 6 || Nat.beq i 8 || Nat.beq i 10 || (Nat.ble 12 i && Nat.ble i 13) || (Nat.ble 26 i && Nat.ble i 74)
    | 2 => fun i => Nat.beq i 6 || Nat.beq i 8 || (Nat.ble 12 i && Nat.ble i 13) || (Nat.ble 32 i && Nat.ble i 73)
    | 4 => fun i => (Nat.ble 14 i && Nat.ble i 15) || (Nat.ble 89 i && Nat.ble i 110)
    | _ => fun _ => false
  sched := fun
    | 13 => (.take 0 (.take 1 (.take 2 (.take 3 (.take 4 (.take 5 (.take 6 (.take 8 (.take 9 (.take 10 (.take 11 (.take 12 (.take 13 (.take 14 (.alt 7 (.alt 15 (.take 16 (.eff 17 (.bar 18 .done))) (.alt 17 (.eff 15 (.take 16 (.bar 18 .done))) .nomore)) (.alt 17 (.eff 7 (.eff 15 (.take 16 (.bar 18 .done)))) .nomore))))))))))))))))
    | 15 => (.cls (.take 0 (.take 1 (.take 4 (.take 5 (.take 6 (.take 7 (.take 8 (.alt 2 (.alt 3 (.eff 9 (.bar 10 (.take 11 (.take 12 .done)))) (.alt 9 (.eff 3 (.bar 10 (.take 11 (.take 12 .done)))) .nomore)) (.alt 9 (.eff 2 (.eff 3 (.bar 10 (.take 11 (.take 12 .done))))) .nomore))))))))))
    | 25 => (.cls (.take 0 (.take 1 (.take 2 (.take 3 (.take 4 (.take 5 (.take 6 (.take 8 (.take 9 (.take 10 (.eff 7 (.eff 11 (.take 12 (.take 13 (.eff 14 (.take 15 (.take 16 (.bar 17 .done)))))))))))))))))))
    | _ => .done

set_option maxRecDepth 100000 in
theorem ok50 : (codeOk Try.f50.ntmps A50 (Try.f50.body.getD .skip) 0 && Nat.ble 2 Try.f50.ntmps) = true := by kernel_rfl
set_option maxRecDepth 100000 in
theorem lift50 {t0 t1 : Value} {w : World} {R : Ending → World → Prop} (h : S50 t0 t1 w R) : Calls Try.prog 50 #[t0, t1] w R :=
  calls_of_cw (fn := Try.f50) (c := Try.f50.body.getD .skip) A50 mixes Try.func50 (by kernel_rfl) ok50
    ((by kernel_rfl : (S50 t0 t1 w R) = cw Try.prog A50 (Try.f50.body.getD .skip) 0 (bodyQ Try.prog Try.f50 R) (frOf #[t0, t1]) w).mp h)

def S51L1 (t0 t1 t7 t8 t27 : Value) (next : Value → Value → World → Prop) (w : World) : Prop :=
  Loop2 t7 (.int .i64 0) w fun _ t7_2 t9 w next_2 =>
    ln1 t1 fun t36 =>
    binQ Try.prog w .lss 3 false t9 t36 fun t37 =>
    condW t37 (
      Join (fun (k_2 : Value → World → Prop) =>
        Drew w fun w =>
        iaS 4 t0 t8 fun t42 =>
        fa1 t42 2 fun t43 =>
        ld1 w t43 fun t44 =>
        iaS 4 t1 t9 fun t47 =>
        fa1 t47 0 fun t48 =>
        ld1 w t48 fun t49 =>
        binQ Try.prog w .neq 3 false t44 t49 fun t50 =>
        condW t50 (
          k_2 t7_2 w
        ) (
          Drew w fun w =>
          iaS 4 t0 t8 fun t53 =>
          fa1 t53 0 fun t54 =>
          ld1 w t54 fun t55 =>
          iaS 4 t1 t9 fun t58 =>
          fa1 t58 2 fun t59 =>
          ld1 w t59 fun t60 =>
          iaS 4 t0 t8 fun t63 =>
          fa1 t63 1 fun t64 =>
          ld1 w t64 fun t65 =>
          binQ Try.prog w .mul 3 true t65 (.int .i64 8) fun t66 =>
          iaS 4 t1 t9 fun t69 =>
          fa1 t69 1 fun t70 =>
          ld1 w t70 fun t71 =>
          binQ Try.prog w .add 3 false t66 t71 fun t72 =>
          iaS 4 t0 t8 fun t75 =>
          fa1 t75 3 fun t76 =>
          ld1 w t76 fun t77 =>
          binQ Try.prog w .mul 3 true t77 (.int .i64 8) fun t78 =>
          iaS 4 t1 t9 fun t81 =>
          fa1 t81 3 fun t82 =>
          ld1 w t82 fun t83 =>
          binQ Try.prog w .add 3 false t78 t83 fun t84 =>
          bdQ Try.prog 32 [(0, t55), (2, t60), (1, t72), (3, t84)] fun t85 =>
          boxW 32 (.agg #[(.int .i64 0), (.int .i64 0), (.int .i64 0), (.int .i64 0)]) w <| keepB w fun t10 w =>
          stW Try.prog 32 t10 t85 w fun w =>
          fa1 t10 1 fun t87 =>
          ld1 w t87 fun t88 =>
          iaS 1 t27 t88 fun t89 =>
          stW Try.prog 4 t89 (.bool true) w fun w =>
          fa1 t10 3 fun t91 =>
          ld1 w t91 fun t92 =>
          iaS 1 t27 t92 fun t93 =>
          stW Try.prog 4 t93 (.bool true) w fun w =>
          ldN 4 w t10 fun t95 =>
          bsW Try.prog 22 1 [(0, t95)] w fun t96 w =>
          semW Try.prog (apS [22, 22] 22 [t7_2, t96]) w fun t97 w =>
          k_2 t97 w
        )
      ) fun t7_3 w =>
      binQ Try.prog w .add 3 true t9 (.int .i64 1) fun t39_2 =>
      next_2 t7_3 t39_2 w
    ) (
      binQ Try.prog w .add 3 true t8 (.int .i64 1) fun t33 =>
      next t7_2 t33 w
    )

def S51L4 (t14 t15 t16 : Value) (next_4 : Value → Value → World → Prop) (w : World) : Prop :=
  Loop2 (.bool false) (.int .i64 0) w fun _ t17 t18 w next_5 =>
    ln1 t14 fun t137 =>
    binQ Try.prog w .lss 3 false t18 t137 fun t138 =>
    condW t138 (
      Drew w fun w =>
      gdQ t17 false (fun k => k t14) fun t143 =>
      gdQ t17 false (fun k => k t18) fun t144 =>
      gdQ t17 false (fun k => iaS 4 t143 t144 k) fun t145 =>
      gdQ t17 false (fun k => ldN 4 w t145 k) fun t146 =>
      gdQ t17 false (fun k => ldN 4 w t16 k) fun t147 =>
      gdQ t17 false (fun k => binQ Try.prog w .eql 32 false t146 t147 k) fun t148 =>
      pickQ t17 (.bool true) t148 fun t149 =>
      binQ Try.prog w .add 3 true t18 (.int .i64 1) fun t140 =>
      next_5 t149 t140 w
    ) (
      unQ .not t17 fun t151 =>
      Join (fun (k_4 : Value → World → Prop) =>
        condW t151 (
          ldN 4 w t16 fun t153 =>
          bsW Try.prog 22 1 [(0, t153)] w fun t154 w =>
          semW Try.prog (apS [22, 22] 22 [t14, t154]) w fun t155 w =>
          k_4 t155 w
        ) (
          k_4 t14 w
        )
      ) fun t14_2 w =>
      binQ Try.prog w .add 3 true t15 (.int .i64 1) fun t118_2 =>
      next_4 t14_2 t118_2 w
    )

def S51L3 (t7 t12 t98 : Value) (R : Ending → World → Prop) (w : World) : Prop :=
  Loop2 (.slice none 0 0) (.int .i64 0) w fun _ t14 t15 w next_4 =>
    ln1 t7 fun t115 =>
    binQ Try.prog w .lss 3 false t15 t115 fun t116 =>
    condW t116 (
      iaS 4 t7 t15 fun t121 =>
      ldN 4 w t121 fun t122 =>
      boxW 32 (.agg #[(.int .i64 0), (.int .i64 0), (.int .i64 0), (.int .i64 0)]) w fun t16 w =>
      stW Try.prog 32 t16 t122 w fun w =>
      fa1 t16 1 fun t124 =>
      ld1 w t124 fun t125 =>
      iaS 1 t98 t125 fun t126 =>
      ld1 w t126 fun t127 =>
      fa1 t16 1 fun t128 =>
      stW Try.prog 3 t128 t127 w fun w =>
      fa1 t16 3 fun t130 =>
      ld1 w t130 fun t131 =>
      iaS 1 t98 t131 fun t132 =>
      ld1 w t132 fun t133 =>
      fa1 t16 3 fun t134 =>
      stW Try.prog 3 t134 t133 w fun w =>
      S51L4 t14 t15 t16 next_4 w
    ) (
      ln1 t14 fun t157 =>
      binQ Try.prog w .gtr 3 true t157 (.int .i64 16) fun t158 =>
      gd t158 false (fun k => k t12 w) w fun t160 w =>
      gd t158 false (fun k => binQ Try.prog w .gtr 3 true t160 (.int .i64 8) fun v => k v w) w fun t161 w =>
      pickQ t158 (.bool true) t161 fun t162 =>
      condW t162 (
        R (.returned (.tuple #[(.slice none 0 0), (.int .i64 8)])) w
      ) (
        R (.returned (.tuple #[t14, (.int .i64 0)])) w
      )
    )

def S51L2 (t7 t27 t98 : Value) (R : Ending → World → Prop) (w : World) : Prop :=
  Loop2 (.int .i64 0) (.int .i64 0) w fun _ t12 t13 w next_3 =>
    binQ Try.prog w .lss 3 true t13 (.int .i64 64) fun t100 =>
    condW t100 (
      iaS 1 t98 t13 fun t106 =>
      stW Try.prog 3 t106 t12 w fun w =>
      iaS 1 t27 t13 fun t109 =>
      ld1 w t109 fun t110 =>
      Join (fun (k_3 : Value → World → Prop) =>
        condW t110 (
          binQ Try.prog w .add 3 true t12 (.int .i64 1) fun t112 =>
          k_3 t112 w
        ) (
          k_3 t12 w
        )
      ) fun t12_2 w =>
      binQ Try.prog w .add 3 true t13 (.int .i64 1) fun t102_2 =>
      next_3 t12_2 t102_2 w
    ) (
      S51L3 t7 t12 t98 R w
    )

def S51L0 (t0 t1 t27 : Value) (R : Ending → World → Prop) (w : World) : Prop :=
  Loop2 (.slice none 0 0) (.int .i64 0) w fun _ t7 t8 w next =>
    ln1 t0 fun t30 =>
    binQ Try.prog w .lss 3 false t8 t30 fun t31 =>
    condW t31 (
      S51L1 t0 t1 t7 t8 t27 next w
    ) (
      mkW Try.prog 30 (.int .i64 64) (.int .i64 64) w fun t98 w =>
      S51L2 t7 t27 t98 R w
    )

def S51 (t0 t1 : Value) (w : World) (R : Ending → World → Prop) : Prop :=
  callW Try.prog (.func (.func 35) #[] #[]) [t0] w fun t20 w =>
  unQ .not t20 fun t21 =>
  gd t21 false (fun k => k t1 w) w fun t23 w =>
  gd t21 false (fun k => callW Try.prog (.func (.func 35) #[] #[]) [t23] w k) w fun t24 w =>
  gd t21 false (fun k => unQ .not t24 fun v => k v w) w fun t25 w =>
  pickQ t21 (.bool true) t25 fun t26 =>
  condW t26 (
    R (.returned (.tuple #[(.slice none 0 0), (.int .i64 2)])) w
  ) (
    mkW Try.prog 91 (.int .i64 64) (.int .i64 64) w fun t27 w =>
    S51L0 t0 t1 t27 R w
  )

def A51 : Ann where
  live := fun
    | 0 => [7, 8]
    | 2 => [7, 9]
    | 4 => [12, 13]
    | 6 => [14, 15]
    | 8 => [17, 18]
    | _ => []
  wr := fun
    | 0 => fun i => (Nat.ble 7 i && Nat.ble i 10) || (Nat.ble 28 i && Nat.ble i 97)
    | 2 => fun i => Nat.beq i 7 || (Nat.ble 9 i && Nat.ble i 10) || (Nat.ble 34 i && Nat.ble i 97)
    | 4 => fun i => (Nat.ble 12 i && Nat.ble i 13) || (Nat.ble 99 i && Nat.ble i 112)
    | 6 => fun i => (Nat.ble 14 i && Nat.ble i 18) || (Nat.ble 113 i && Nat.ble i 155)
    | 8 => fun i => (Nat.ble 17 i && Nat.ble i 18) || (Nat.ble 135 i && Nat.ble i 149)
    | _ => fun _ => false
  sched := fun
    | 11 => (.take 0 (.take 1 (.take 2 (.take 3 (.take 4 (.take 5 (.take 6 (.take 7 (.take 8 (.take 9 (.take 10 .done)))))))))))
    | 12 => (.take 0 (.take 1 (.take 2 (.take 3 (.take 4 (.take 5 (.take 6 (.take 7 (.take 8 (.take 9 (.take 10 (.take 11 (.take 12 (.take 13 (.take 14 (.take 15 (.take 16 (.take 17 (.take 18 (.take 19 (.take 20 (.take 21 (.take 22 (.take 23 (.take 24 (.take 25 (.take 26 (.take 27 (.take 28 (.take 29 (.take 30 (.take 31 (.take 32 (.take 33 (.take 34 (.eff 35 (.bar 36 .done)))))))))))))))))))))))))))))))))))))
    | 35 => (.take 0 (.take 1 (.take 2 (.take 3 (.take 4 (.take 5 (.take 6 (.take 7 (.take 8 (.take 9 .done))))))))))
    | _ => .done

set_option maxRecDepth 100000 in
theorem ok51 : (codeOk Try.f51.ntmps A51 (Try.f51.body.getD .skip) 0 && Nat.ble 2 Try.f51.ntmps) = true := by kernel_rfl
set_option maxRecDepth 100000 in
theorem lift51 {t0 t1 : Value} {w : World} {R : Ending → World → Prop} (h : S51 t0 t1 w R) : Calls Try.prog 51 #[t0, t1] w R :=
  calls_of_cw (fn := Try.f51) (c := Try.f51.body.getD .skip) A51 mixes Try.func51 (by kernel_rfl) ok51
    ((by kernel_rfl : (S51 t0 t1 w R) = cw Try.prog A51 (Try.f51.body.getD .skip) 0 (bodyQ Try.prog Try.f51 R) (frOf #[t0, t1]) w).mp h)

def S99 (t0 t1 : Value) (w : World) (R : Ending → World → Prop) : Prop :=
  binQ Try.prog w .mul 3 true t0 (.int .i64 8) fun t6 =>
  binQ Try.prog w .add 3 false t6 t1 fun t8 =>
  R (.returned t8) w

def A99 : Ann where
  live := fun _ => []
  wr := fun _ _ => false
  sched := fun _ => .done

set_option maxRecDepth 100000 in
theorem ok99 : (codeOk Try.f99.ntmps A99 (Try.f99.body.getD .skip) 0 && Nat.ble 2 Try.f99.ntmps) = true := by kernel_rfl
set_option maxRecDepth 100000 in
theorem lift99 {t0 t1 : Value} {w : World} {R : Ending → World → Prop} (h : S99 t0 t1 w R) : Calls Try.prog 99 #[t0, t1] w R :=
  calls_of_cw (fn := Try.f99) (c := Try.f99.body.getD .skip) A99 mixes Try.func99 (by kernel_rfl) ok99
    ((by kernel_rfl : (S99 t0 t1 w R) = cw Try.prog A99 (Try.f99.body.getD .skip) 0 (bodyQ Try.prog Try.f99 R) (frOf #[t0, t1]) w).mp h)

def S101L0 (t0 t1 t7 : Value) (R : Ending → World → Prop) (w : World) : Prop :=
  Loop1 (.int .i64 0) w fun _ t8 w next =>
    binQ Try.prog w .lss 3 false t8 t7 fun t9 =>
    condW t9 (
      iaS 1 t0 t8 fun t14 =>
      ld1 w t14 fun t15 =>
      binQ Try.prog w .eql 3 false t1 t15 fun t16 =>
      condW t16 (
        R (.returned t8) w
      ) (
        binQ Try.prog w .add 3 true t8 (.int .i64 1) fun t18 =>
        next t18 w
      )
    ) (
      R (.returned (.int .i64 (-1))) w
    )



def S101 (t0 t1 : Value) (w : World) (R : Ending → World → Prop) : Prop :=
  ln1 t0 fun t7 =>
  S101L0 t0 t1 t7 R w

def A101 : Ann where
  live := fun
    | 0 => [8]
    | _ => []
  wr := fun
    | 0 => fun i => (Nat.ble 4 i && Nat.ble i 5) || (Nat.ble 8 i && Nat.ble i 18)
    | _ => fun _ => false
  sched := fun _ => .done

set_option maxRecDepth 100000 in
theorem ok101 : (codeOk Try.f101.ntmps A101 (Try.f101.body.getD .skip) 0 && Nat.ble 2 Try.f101.ntmps) = true := by kernel_rfl
set_option maxRecDepth 100000 in
theorem lift101 {t0 t1 : Value} {w : World} {R : Ending → World → Prop} (h : S101 t0 t1 w R) : Calls Try.prog 101 #[t0, t1] w R :=
  calls_of_cw (fn := Try.f101) (c := Try.f101.body.getD .skip) A101 mixes Try.func101 (by kernel_rfl) ok101
    ((by kernel_rfl : (S101 t0 t1 w R) = cw Try.prog A101 (Try.f101.body.getD .skip) 0 (bodyQ Try.prog Try.f101 R) (frOf #[t0, t1]) w).mp h)

def S15 (t0 t1 : Value) (w : World) (R : Ending → World → Prop) : Prop :=
  ln1 t0 fun t10 =>
  binQ Try.prog w .gtr 3 true t10 (.int .i64 40) fun t11 =>
  gd t11 false (fun k => k t1 w) w fun t13 w =>
  gd t11 false (fun k => ln1 t13 fun v => k v w) w fun t14 w =>
  gd t11 false (fun k => binQ Try.prog w .gtr 3 true t14 (.int .i64 40) fun v => k v w) w fun t15 w =>
  pickQ t11 (.bool true) t15 fun t16 =>
  condW t16 (
    callW Try.prog (.func (.func 18) #[] #[]) [] w fun t17 w =>
    R (.returned t17) w
  ) (
    callW Try.prog (.func (.func 50) #[] #[]) [t0, t1] w fun t21 w =>
    exQ t21 0 fun t22 =>
    exQ t21 1 fun t23 =>
    callW Try.prog (.func (.func 51) #[] #[]) [t0, t1] w fun t27 w =>
    exQ t27 0 fun t28 =>
    exQ t27 1 fun t29 =>
    binQ Try.prog w .eql 26 false t23 t29 fun t32 =>
    gd t32 true (fun k => k t22 w) w fun t34 w =>
    gd t32 true (fun k => k t28 w) w fun t35 w =>
    gd t32 true (fun k => callW Try.prog (.func (.func 30) #[] #[]) [t34, t35] w k) w fun t36 w =>
    pickQ t32 t36 (.bool false) fun t37 =>
    gd t37 true (fun k => callW Try.prog (.func (.func 18) #[] #[]) [] w k) w fun t39 w =>
    pickQ t37 t39 (.bool false) fun t40 =>
    R (.returned t40) w
  )

def A15 : Ann where
  live := fun _ => []
  wr := fun _ _ => false
  sched := fun _ => .done

set_option maxRecDepth 100000 in
theorem ok15 : (codeOk Try.f15.ntmps A15 (Try.f15.body.getD .skip) 0 && Nat.ble 2 Try.f15.ntmps) = true := by kernel_rfl
set_option maxRecDepth 100000 in
theorem lift15 {t0 t1 : Value} {w : World} {R : Ending → World → Prop} (h : S15 t0 t1 w R) : Calls Try.prog 15 #[t0, t1] w R :=
  calls_of_cw (fn := Try.f15) (c := Try.f15.body.getD .skip) A15 mixes Try.func15 (by kernel_rfl) ok15
    ((by kernel_rfl : (S15 t0 t1 w R) = cw Try.prog A15 (Try.f15.body.getD .skip) 0 (bodyQ Try.prog Try.f15 R) (frOf #[t0, t1]) w).mp h)

theorem fok50 : fnOk Try.prog 50 = true := by kernel_rfl
theorem fok51 : fnOk Try.prog 51 = true := by kernel_rfl
theorem fok99 : fnOk Try.prog 99 = true := by kernel_rfl
theorem fok101 : fnOk Try.prog 101 = true := by kernel_rfl
theorem fok15 : fnOk Try.prog 15 = true := by kernel_rfl
end Go.Proofs.Ytgalbokmgffhkaa

/- Contract: Product of the program: the loops. -/
namespace Go.Proofs.Ytgalbokmgffhkaa
open Go.Lf Go.RowKit Go.Wg

theorem call99 {x y : Int} {w : World} {K : Value → World → Prop} (h0 : 0 ≤ x ∧ x ≤ 100) (h1 : 0 ≤ y ∧ y ≤ 100) (hk : K (.int .i64 (x * 8 + y)) w) : callW Try.prog (.func (.func 99) #[] #[]) [.int .i64 x, .int .i64 y] w K := by
  have hc : Calls Try.prog 99 #[.int .i64 x, .int .i64 y] w fun r w' => r = .returned (.int .i64 (x * 8 + y)) ∧ w' = w := by
    refine lift99 ?_
    unfold S99
    simp (disch := omega) only [r_ln, r_pick, r_pickT, r_pickF, r_condT, r_condF, r_gdTT, r_gdFF, r_gdTF, r_gdFT, r_gqTT, r_gqFF, r_gqTF, r_gqFT, r_not, r_lss, r_leq, r_gtr, r_geq, r_eql, r_neq, r_add, r_sub, r_min2, r_max2, r_min3, r_max3, r_fa, r_iaS, r_iaA, r_ex2a, r_ex2b, r_ex3a, r_ex3b, r_ex3c, r_nc, r_keepE, Nat.zero_add, Nat.add_zero, Nat.mul_one, Int.toNat_natCast, toNat_sub1, toNat_add1, decide_true, decide_false, Bool.not_true, Bool.not_false, if_true, if_false, Bool.false_eq_true, reduceCtorEq, r_mul]
    exact ⟨by first | rfl | trivial, by first | rfl | trivial⟩
  refine r_use fok99 hc rfl ?_
  rintro _ w2 ⟨rfl, rfl⟩
  exact ⟨_, rfl, hk⟩

set_option maxRecDepth 100000 in
/-- slices.Index at integers. -/
theorem idx101_calls {v : Value} {l : List Int} (x : Int) (w : World) (hr : RdInts w v l) : Calls Try.prog 101 #[v, .int .i64 x] w fun e w' => e = .returned (.int .i64 (idxI l x)) ∧ Kp w w' := by
  have hr' := hr
  obtain ⟨a, cap, rfl, hcap, _⟩ := hr.len
  refine lift101 ?_
  unfold S101
  simp only [r_ln, r_pick, r_pickT, r_pickF, r_condT, r_condF, r_gdTT, r_gdFF, r_gdTF, r_gdFT, r_gqTT, r_gqFF, r_gqTF, r_gqFT, r_not, r_lss, r_leq, r_gtr, r_geq, r_eql, r_neq, r_add, r_sub, r_min2, r_max2, r_min3, r_max3, r_fa, r_iaS, r_iaA, r_ex2a, r_ex2b, r_ex3a, r_ex3b, r_ex3c, r_nc, r_keepE, Nat.zero_add, Nat.add_zero, Nat.mul_one, Int.toNat_natCast, toNat_sub1, toNat_add1, decide_true, decide_false, Bool.not_true, Bool.not_false, if_true, if_false, Bool.false_eq_true, reduceCtorEq]
  unfold S101L0
  refine ⟨fun t8 wr => ∃ i : Nat, i ≤ l.length ∧ t8 = .int .i64 i ∧ x ∉ l.take i ∧ Kp w wr, fun t8 _ => l.length - (intOf t8).toNat, ⟨0, by omega, rfl, by simp, Kp.refl _⟩, ?_⟩
  rintro _ _ wr ⟨i, hi, rfl, hn, hkr⟩
  by_cases hlt : i < l.length
  case neg =>
    have hlt' : ¬ (i : Int) < (l.length : Int) := by omega
    simp (disch := omega) only [r_ln, r_pick, r_pickT, r_pickF, r_condT, r_condF, r_gdTT, r_gdFF, r_gdTF, r_gdFT, r_gqTT, r_gqFF, r_gqTF, r_gqFT, r_not, r_lss, r_leq, r_gtr, r_geq, r_eql, r_neq, r_add, r_sub, r_min2, r_max2, r_min3, r_max3, r_fa, r_iaS, r_iaA, r_ex2a, r_ex2b, r_ex3a, r_ex3b, r_ex3c, r_nc, r_keepE, Nat.zero_add, Nat.add_zero, Nat.mul_one, Int.toNat_natCast, toNat_sub1, toNat_add1, decide_true, decide_false, Bool.not_true, Bool.not_false, if_true, if_false, Bool.false_eq_true, reduceCtorEq, hlt']
    rw [List.take_of_length_le (by omega)] at hn
    exact ⟨by rw [idxI, if_neg hn], hkr⟩
  have hlt' : (i : Int) < (l.length : Int) := by omega
  obtain ⟨b1, o1, _, e1, hc⟩ := (hr'.below hkr).at hlt
  cases e1
  rw [getD_lt _ _ _ hlt] at hc
  have hii : (i : Int).toNat = i := by omega
  have hx : l[i]? = some l[i] := List.getElem?_eq_getElem hlt
  by_cases he : x = l[i]
  · simp (disch := omega) only [r_ln, r_pick, r_pickT, r_pickF, r_condT, r_condF, r_gdTT, r_gdFF, r_gdTF, r_gdFT, r_gqTT, r_gqFF, r_gqTF, r_gqFT, r_not, r_lss, r_leq, r_gtr, r_geq, r_eql, r_neq, r_add, r_sub, r_min2, r_max2, r_min3, r_max3, r_fa, r_iaS, r_iaA, r_ex2a, r_ex2b, r_ex3a, r_ex3b, r_ex3c, r_nc, r_keepE, Nat.zero_add, Nat.add_zero, Nat.mul_one, Int.toNat_natCast, toNat_sub1, toNat_add1, decide_true, decide_false, Bool.not_true, Bool.not_false, if_true, if_false, Bool.false_eq_true, reduceCtorEq, decide_eq_true hlt', hii, r_ld hc, decide_eq_true he]
    rw [← he] at hx
    exact ⟨by rw [idx_first hx hn], hkr⟩
  · simp (disch := omega) only [r_ln, r_pick, r_pickT, r_pickF, r_condT, r_condF, r_gdTT, r_gdFF, r_gdTF, r_gdFT, r_gqTT, r_gqFF, r_gqTF, r_gqFT, r_not, r_lss, r_leq, r_gtr, r_geq, r_eql, r_neq, r_add, r_sub, r_min2, r_max2, r_min3, r_max3, r_fa, r_iaS, r_iaA, r_ex2a, r_ex2b, r_ex3a, r_ex3b, r_ex3c, r_nc, r_keepE, Nat.zero_add, Nat.add_zero, Nat.mul_one, Int.toNat_natCast, toNat_sub1, toNat_add1, decide_true, decide_false, Bool.not_true, Bool.not_false, if_true, if_false, Bool.false_eq_true, reduceCtorEq, decide_eq_true hlt', hii, r_ld hc, he]
    refine ⟨⟨i + 1, by omega, by go_num, ?_, hkr⟩, by simp only [intOf]; omega⟩
    intro hm
    rw [take_succ' _ _ hlt] at hm
    rcases List.mem_append.1 hm with h | h
    · exact hn h
    · exact he (by simpa using h)

theorem bs30_2 (x y : Int) (w : World) (K : Value → World → Prop) : bsW Try.prog 30 2 [(0, .int .i64 x), (1, .int .i64 y)] w K = K (.slice (some ⟨w.heap.size, 0, none⟩) 2 2) (w.alloc (.cells #[.int .i64 x, .int .i64 y] 3)) := by kernel_rfl
theorem bs22' (u : Tile) (w : World) (K : Value → World → Prop) : bsW Try.prog 22 1 [(0, tlV u)] w K = K (.slice (some ⟨w.heap.size, 0, none⟩) 1 1) (w.alloc (.cells (tlV u).cells 32)) := bs22 _ _ _ _ w K
theorem bdP (x y z u : Int) (K : Value → Prop) : bdQ Try.prog 32 [(0, .int .i64 x), (1, .int .i64 y), (2, .int .i64 z), (3, .int .i64 u)] K = K (tlV (x, y, z, u)) := by kernel_rfl

/-- The tiles and the colours so far, beside the tile that is put above others. -/
structure PSt (w0 : World) (b10 : Nat) (s : Tile) (pre : List Tile) (w : World) (t6 t8 : Value) : Prop where
  tl : TlAt w0.heap.size w t6 (once pre)
  ps : IntsAt w0.heap.size w t8 (ends (once pre))
  kp : Kp w0 w
  blk : w.heap[b10]? = some (.cells (tlV s).cells 32 (0, 0))
  ne : ∀ k, t6.ownBlock = some k → k ≠ b10
theorem PSt.later {w0 : World} {b10 : Nat} {s : Tile} {pre : List Tile} {w w' : World} {t6 t8 : Value} (h : PSt w0 b10 s pre w t6 t8) (k : Kp w w') : PSt w0 b10 s pre w' t6 t8 :=
  ⟨h.tl.kp k, h.ps.kp k, Kp.trans h.kp k, block_below h.blk k, h.ne⟩

abbrev Reg2 (t6_2 t8_2 t13 : Value) (w : World) (k_4 : Value → Value → World → Prop) : Prop :=
              ∃ X : Nat → Prop,
              takeX X w (fun w k => k t6_2) fun t62 =>
              takeX X w (fun w k => ldN 4 w t13 k) fun t63 =>
              takeX X w (fun w k => k t8_2) fun t66 =>
              takeX X w (fun w k => fa1 t13 1 k) fun t67 =>
              takeX X w (fun w k => ld1 w t67 k) fun t68 =>
              takeX X w (fun w k => fa1 t13 3 k) fun t69 =>
              takeX X w (fun w k => ld1 w t69 k) fun t70 =>
              And (
                bsW Try.prog 22 1 [(0, t63)] w <| keepX X w fun t64 w =>
                And (
                  semW Try.prog (apS [22, 22] 22 [t62, t64]) w <| keepX X w fun t65 w =>
                  bsW Try.prog 30 2 [(0, t68), (1, t70)] w <| keepX X w fun t71 w =>
                  semW Try.prog (apS [30, 30] 30 [t66, t71]) w fun t72 w =>
                  takeX X w (fun w k => k t65) fun t6_5 =>
                  takeX X w (fun w k => k t72) fun t8_5 =>
                  k_4 t6_5 t8_5 w
                ) <|
                And (
                  bsW Try.prog 30 2 [(0, t68), (1, t70)] w <| keepX X w fun t71_2 w =>
                  semW Try.prog (apS [22, 22] 22 [t62, t64]) w <| keepX X w fun t65_2 w =>
                  semW Try.prog (apS [30, 30] 30 [t66, t71_2]) w fun t72_2 w =>
                  takeX X w (fun w k => k t65_2) fun t6_6 =>
                  takeX X w (fun w k => k t72_2) fun t8_6 =>
                  k_4 t6_6 t8_6 w
                ) <|
                True
              ) <|
              And (
                bsW Try.prog 30 2 [(0, t68), (1, t70)] w <| keepX X w fun t71_3 w =>
                bsW Try.prog 22 1 [(0, t63)] w <| keepX X w fun t64_2 w =>
                semW Try.prog (apS [22, 22] 22 [t62, t64_2]) w <| keepX X w fun t65_3 w =>
                semW Try.prog (apS [30, 30] 30 [t66, t71_3]) w fun t72_3 w =>
                takeX X w (fun w k => k t65_3) fun t6_7 =>
                takeX X w (fun w k => k t72_3) fun t8_7 =>
                k_4 t6_7 t8_7 w
              ) <|
              True

set_option maxRecDepth 100000 in
/-- append of a tile whose slice lies ready. -/
theorem ap22 {base : Nat} {w : World} {t6 : Value} {P : List Tile} {u : Tile} {g : Nat} {K : Value → World → Prop} (h : TlAt base w t6 P) (hl : P.length ≤ 100000) (hb : base ≤ w.heap.size) (hg : w.heap[g]? = some (.cells (tlV u).cells 32 (0, 0)))
    (hk : ∀ v' w', TlAt base w' v' (P ++ [u]) → Chg (fun k => t6.ownBlock = some k) w w' → (∀ k, v'.ownBlock = some k → t6.ownBlock = some k ∨ w.heap.size ≤ k) → K v' w') :
    semW Try.prog (apS [22, 22] 22 [t6, .slice (some ⟨g, 0, none⟩) 1 1]) w K :=
  r_apAt (news := tlC u) slt22 h rfl (cells_at_row hg) (tlC_one u) (by omega) (by omega) hb fun v' w' ho hc ha => hk v' w' (by
    have e : recCells tlC (P ++ [u]) = recCells tlC P ++ tlC u := by simp [recCells]
    unfold TlAt RecAt
    rw [e, List.length_append]
    exact ho) hc ha
set_option maxRecDepth 100000 in
/-- append of two numbers whose slice lies ready. -/
theorem ap30 {base : Nat} {w : World} {t8 : Value} {Q : List Int} {x y : Int} {g : Nat} {K : Value → World → Prop} (h : IntsAt base w t8 Q) (hl : Q.length ≤ 100000) (hb : base ≤ w.heap.size) (hg : w.heap[g]? = some (.cells #[.int .i64 x, .int .i64 y] 3 (0, 0)))
    (hk : ∀ v' w', IntsAt base w' v' (Q ++ [x, y]) → Chg (fun k => t8.ownBlock = some k) w w' → K v' w') :
    semW Try.prog (apS [30, 30] 30 [t8, .slice (some ⟨g, 0, none⟩) 2 2]) w K :=
  r_apAt (news := [.int .i64 x, .int .i64 y]) slt30 h rfl (cells_at_row hg) (by intro u hu; simp at hu; rcases hu with rfl | rfl <;> rfl) (by omega) (by omega) hb fun v' w' ho hc ha => hk v' w' (by
    have e : recCells iC (Q ++ [x, y]) = recCells iC Q ++ [.int .i64 x, .int .i64 y] := by simp [recCells, iC]
    unfold IntsAt RecAt
    rw [e, List.length_append]
    exact ho) hc

set_option maxRecDepth 100000 in
theorem reg2 {w0 w : World} {b10 b13 : Nat} {s u : Tile} {pre : List Tile} {t6 t8 : Value} {k : Value → Value → World → Prop} (S : PSt w0 b10 s pre w t6 t8) (h13 : w.heap[b13]? = some (.cells (tlV u).cells 32 (0, 0))) (hn6 : ∀ q, t6.ownBlock = some q → q ≠ b13) (hu : u ∉ once pre) (hl : (once pre).length ≤ 1000)
    (hk : ∀ t6' t8' w', PSt w0 b10 s (pre ++ [u]) w' t6' t8' → k t6' t8' w') : Reg2 t6 t8 (.pointer (some ⟨b13, 0, none⟩)) w k := by
  have hoe : once (pre ++ [u]) = once pre ++ [u] := by rw [once_append]; simp [addU, hu]
  have hee : ends (once (pre ++ [u])) = ends (once pre) ++ [tE u, tW u] := by rw [hoe]; simp [ends]
  have hel := ends_len (once pre)
  obtain ⟨tl, ps, kp, blk, ne⟩ := S
  have sz := kp.size
  have hn8 : ∀ q, t8.ownBlock = some q → q ≠ b13 := fun q hq e => by
    obtain ⟨cur, hc⟩ := own_type ps hq
    rw [e, h13] at hc
    injection hc with hc
    injection hc with _ hc _
    exact absurd hc (by decide)
  have n810 : ∀ q, t8.ownBlock = some q → q ≠ b10 := fun q hq e => by
    obtain ⟨cur, hc⟩ := own_type ps hq
    rw [e, blk] at hc
    injection hc with hc
    injection hc with _ hc _
    exact absurd hc (by decide)
  have nX : ¬ (fun q => t6.ownBlock = some q ∨ t8.ownBlock = some q) b13 := fun h => by
    rcases h with h | h
    · exact hn6 _ h rfl
    · exact hn8 _ h rfl
  have c1 : w.cell? ⟨b13, 1, none⟩ = some (.int .i64 (tE u)) := by rw [cell_row h13]; rfl
  have c3 : w.cell? ⟨b13, 3, none⟩ = some (.int .i64 (tW u)) := by rw [cell_row h13]; rfl
  unfold Reg2
  refine ⟨fun q => t6.ownBlock = some q ∨ t8.ownBlock = some q, ?_⟩
  simp only [r_tx, r_ln, r_pick, r_pickT, r_pickF, r_condT, r_condF, r_gdTT, r_gdFF, r_gdTF, r_gdFT, r_gqTT, r_gqFF, r_gqTF, r_gqFT, r_not, r_lss, r_leq, r_gtr, r_geq, r_eql, r_neq, r_add, r_sub, r_min2, r_max2, r_min3, r_max3, r_fa, r_iaS, r_iaA, r_ex2a, r_ex2b, r_ex3a, r_ex3b, r_ex3c, r_nc, r_keepE, Nat.zero_add, Nat.add_zero, Nat.mul_one, Int.toNat_natCast, toNat_sub1, toNat_add1, decide_true, decide_false, Bool.not_true, Bool.not_false, if_true, if_false, Bool.false_eq_true, reduceCtorEq]
  rw [r_txn (n := 4) (X := fun q => t6.ownBlock = some q ∨ t8.ownBlock = some q) h13 rfl nX, r_txl (X := fun q => t6.ownBlock = some q ∨ t8.ownBlock = some q) c1 nX, r_txl (X := fun q => t6.ownBlock = some q ∨ t8.ownBlock = some q) c3 nX]
  have bl10 := block_lt blk
  -- what remains when both have grown
  have fin : ∀ (w1 w2 : World) (v6 v8 : Value), TlAt w0.heap.size w2 v6 (once pre ++ [u]) → IntsAt w0.heap.size w2 v8 (ends (once pre) ++ [tE u, tW u]) → Kp w0 w2 → w2.heap[b10]? = some (.cells (tlV s).cells 32 (0, 0)) → (∀ q, v6.ownBlock = some q → q ≠ b10) → k v6 v8 w2 := fun w1 w2 v6 v8 a1 a2 a3 a4 a5 =>
    hk v6 v8 w2 ⟨by rw [hoe]; exact a1, by rw [hee]; exact a2, a3, a4, a5⟩
  have tlagg : Value.agg (tlV u).cells = tlV u := rfl
  have mono6 : ∀ {a b : World}, Chg (fun q => t6.ownBlock = some q) a b → Chg (fun q => t6.ownBlock = some q ∨ t8.ownBlock = some q) a b := fun h => h.mono fun _ _ h => .inl h
  rw [tlagg]
  refine ⟨?_, ?_, trivial⟩
  · rw [bs22']
    refine ⟨BX.of_below (below_alloc _), ?_, ?_, trivial⟩
    · -- tile, then numbers
      have ka := below_alloc (w := w) (.cells (tlV u).cells 32)
      have ga := heap_alloc_new w (.cells (tlV u).cells 32)
      generalize w.alloc (.cells (tlV u).cells 32) = wa at *
      have sa := ka.size
      refine ap22 (tl.kp ka) (by omega) (by omega) ga fun v6 wb o6 cb hb => ⟨BX.of_chg (mono6 cb), ?_⟩
      have sb := cb.size
      dsimp only
      rw [bs30_2]
      refine ⟨BX.of_below (below_alloc _), ?_⟩
      have psb : IntsAt w0.heap.size wb t8 (ends (once pre)) := (ps.kp ka).chg cb fun q hq e => rec_ne (ps.kp ka) (tl.kp ka) (by decide) q hq e
      have kc := below_alloc (w := wb) (.cells #[.int .i64 (tE u), .int .i64 (tW u)] 3)
      have gc := heap_alloc_new wb (.cells #[.int .i64 (tE u), .int .i64 (tW u)] 3)
      generalize wb.alloc (.cells #[.int .i64 (tE u), .int .i64 (tW u)] 3) = wc at *
      have sc := kc.size
      refine ap30 (psb.kp kc) (by omega) (by omega) gc fun v8 wd o8 cd => ?_
      have kb : Kp w0 wb := Kp.of_chg (Kp.trans kp ka) cb fun q e => (tl.lt e).1
      have kcc := Kp.trans kb kc
      refine fin wc wd v6 v8 ((o6.kp kc).chg cd fun q hq e => rec_ne (psb.kp kc) (o6.kp kc) (by decide) q e hq) o8 (Kp.of_chg kcc cd fun q e => (ps.lt e).1) ?_ fun q hq e => ?_
      · exact cd.at (block_below (cb.at (block_below blk ka) fun h => ne _ h rfl) kc) fun h => n810 _ h rfl
      · rcases hb q hq with h | h
        · exact ne q h e
        · omega
    · -- numbers' slice, tile, numbers
      have ka := below_alloc (w := w) (.cells (tlV u).cells 32)
      have ga := heap_alloc_new w (.cells (tlV u).cells 32)
      generalize w.alloc (.cells (tlV u).cells 32) = wa at *
      have sa := ka.size
      try dsimp only
      rw [bs30_2]
      refine ⟨BX.of_below (below_alloc _), ?_⟩
      have kc := below_alloc (w := wa) (.cells #[.int .i64 (tE u), .int .i64 (tW u)] 3)
      have gc := heap_alloc_new wa (.cells #[.int .i64 (tE u), .int .i64 (tW u)] 3)
      generalize wa.alloc (.cells #[.int .i64 (tE u), .int .i64 (tW u)] 3) = wc at *
      have sc := kc.size
      have kac := Kp.trans ka kc
      refine ap22 (tl.kp kac) (by omega) (by omega) (block_below ga kc) fun v6 wb o6 cb hb => ⟨BX.of_chg (mono6 cb), ?_⟩
      have sb := cb.size
      have psb : IntsAt w0.heap.size wb t8 (ends (once pre)) := (ps.kp kac).chg cb fun q hq e => rec_ne (ps.kp kac) (tl.kp kac) (by decide) q hq e
      have gcb := cb.at gc fun h => by have := (tl.lt h).2; omega
      refine ap30 psb (by omega) (by omega) gcb fun v8 wd o8 cd => ?_
      have kb : Kp w0 wb := Kp.of_chg (Kp.trans kp kac) cb fun q e => (tl.lt e).1
      refine fin wb wd v6 v8 (o6.chg cd fun q hq e => rec_ne psb o6 (by decide) q e hq) o8 (Kp.of_chg kb cd fun q e => (ps.lt e).1) ?_ fun q hq e => ?_
      · exact cd.at (cb.at (block_below blk kac) fun h => ne _ h rfl) fun h => n810 _ h rfl
      · rcases hb q hq with h | h
        · exact ne q h e
        · omega
  · -- numbers' slice first
    rw [bs30_2]
    refine ⟨BX.of_below (below_alloc _), ?_⟩
    have kc := below_alloc (w := w) (.cells #[.int .i64 (tE u), .int .i64 (tW u)] 3)
    have gc := heap_alloc_new w (.cells #[.int .i64 (tE u), .int .i64 (tW u)] 3)
    generalize w.alloc (.cells #[.int .i64 (tE u), .int .i64 (tW u)] 3) = wc at *
    have sc := kc.size
    dsimp only
    rw [bs22']
    refine ⟨BX.of_below (below_alloc _), ?_⟩
    have ka := below_alloc (w := wc) (.cells (tlV u).cells 32)
    have ga := heap_alloc_new wc (.cells (tlV u).cells 32)
    generalize wc.alloc (.cells (tlV u).cells 32) = wa at *
    have sa := ka.size
    have kac := Kp.trans kc ka
    refine ap22 (tl.kp kac) (by omega) (by omega) ga fun v6 wb o6 cb hb => ⟨BX.of_chg (mono6 cb), ?_⟩
    have sb := cb.size
    have psb : IntsAt w0.heap.size wb t8 (ends (once pre)) := (ps.kp kac).chg cb fun q hq e => rec_ne (ps.kp kac) (tl.kp kac) (by decide) q hq e
    have gcb := cb.at (block_below gc ka) fun h => by have := (tl.lt h).2; omega
    refine ap30 psb (by omega) (by omega) gcb fun v8 wd o8 cd => ?_
    have kb : Kp w0 wb := Kp.of_chg (Kp.trans kp kac) cb fun q e => (tl.lt e).1
    refine fin wb wd v6 v8 (o6.chg cd fun q hq e => rec_ne psb o6 (by decide) q e hq) o8 (Kp.of_chg kb cd fun q e => (ps.lt e).1) ?_ fun q hq e => ?_
    · exact cd.at (cb.at (block_below blk kac) fun h => ne _ h rfl) fun h => n810 _ h rfl
    · rcases hb q hq with h | h
      · exact ne q h e
      · omega

end Go.Proofs.Ytgalbokmgffhkaa

/- Contract: Product of the program: one tile above all others. -/
namespace Go.Proofs.Ytgalbokmgffhkaa
open Go.Lf Go.RowKit Go.Wg

theorem under1_take {b : List Tile} {s : Tile} {j : Nat} (hj : j < b.length) : under1 (b.take (j + 1)) s = under1 (b.take j) s ++ if tS s = tN b[j] then [pairT s b[j]] else [] := by
  unfold under1
  rw [take_succ' _ _ hj, List.filter_append, List.map_append]
  congr 1
  by_cases h : tS s = tN b[j]
  · simp [h]
  · simp [h]
theorem under1_len (b : List Tile) (s : Tile) : (under1 b s).length ≤ b.length := by
  rw [under1, List.length_map]; exact List.length_filter_le _ _

set_option maxRecDepth 100000 in
set_option maxHeartbeats 800000 in
theorem r50_1 {w0 w : World} {b10 i : Nat} {s : Tile} {pre b : List Tile} {bv t6 t8 : Value} {next : Value → Value → Value → World → Prop} (S : PSt w0 b10 s pre w t6 t8) (hb : RdT w0 bv b) (hsc : colsB s = true) (hbc : ∀ t ∈ b, colsB t = true) (hbl : b.length ≤ 16) (hpl : pre.length ≤ 500) (hi : i ≤ 100)
    (hn : ∀ t6' t8' w', PSt w0 b10 s (pre ++ under1 b s) w' t6' t8' → next t6' t8' (.int .i64 ((i : Int) + 1)) w') :
    S50L1 bv t6 t8 (.pointer (some ⟨b10, 0, none⟩)) (.int .i64 i) (.int .i64 b.length) next w := by
  unfold S50L1
  refine ⟨fun t6 t8 t32 wr => ∃ j : Nat, j ≤ b.length ∧ t32 = .int .i64 j ∧ PSt w0 b10 s (pre ++ under1 (b.take j) s) wr t6 t8, fun _ _ t32 _ => b.length - (intOf t32).toNat, ⟨0, by omega, rfl, by simpa [under1] using S⟩, ?_⟩
  rintro _ t6 t8 _ wr ⟨j, hj, rfl, Sj⟩
  by_cases hlt : j < b.length
  case neg =>
    have hlt' : ¬ (j : Int) < (b.length : Int) := by omega
    rw [List.take_of_length_le (by omega)] at Sj
    simp (disch := omega) only [r_ln, r_pick, r_pickT, r_pickF, r_condT, r_condF, r_gdTT, r_gdFF, r_gdTF, r_gdFT, r_gqTT, r_gqFF, r_gqTF, r_gqFT, r_not, r_lss, r_leq, r_gtr, r_geq, r_eql, r_neq, r_add, r_sub, r_min2, r_max2, r_min3, r_max3, r_fa, r_iaS, r_iaA, r_ex2a, r_ex2b, r_ex3a, r_ex3b, r_ex3c, r_nc, r_keepE, Nat.zero_add, Nat.add_zero, Nat.mul_one, Int.toNat_natCast, toNat_sub1, toNat_add1, decide_true, decide_false, Bool.not_true, Bool.not_false, if_true, if_false, Bool.false_eq_true, reduceCtorEq, hlt']
    exact hn _ _ _ Sj
  have hlt' : (j : Int) < (b.length : Int) := by omega
  have hut := under1_take (s := s) hlt
  have hul := under1_len (b.take j) s
  rw [List.length_take] at hul
  have htc := cols_range (hbc _ (List.getElem_mem hlt))
  have hsr := cols_range hsc
  obtain ⟨bb, bo, bc, ebv, _, hcell⟩ := (hb.kp Sj.kp).at (List.getElem?_eq_getElem hlt)
  subst ebv
  generalize b[j] = t at *
  simp (disch := omega) only [r_lss, decide_eq_true hlt', r_condT]
  refine r_join2 (fun v6 v8 w' => PSt w0 b10 s (pre ++ under1 (b.take (j + 1)) s) w' v6 v8) ?_ fun k2 hk2 => ?_
  · rintro v6 v8 w' S'
    rw [r_add _ _ (by omega) (by omega)]
    exact ⟨⟨j + 1, by omega, by go_num, S'⟩, by simp only [intOf]; omega⟩
  rw [hut, ← List.append_assoc] at hk2
  have hjj : (j : Int).toNat = j := by omega
  have hpl2 : (pre ++ under1 (b.take j) s).length ≤ 600 := by rw [List.length_append]; omega
  generalize pre ++ under1 (b.take j) s = pj at *
  simp (disch := omega) only [r_iaS, hjj, r_ldCells (tlC_len t) hcell]
  refine r_box fun b12 w2 e12 s12 h12 k12 => ?_
  refine r_stAll (n := 4) (ty := 32) (by kernel_rfl) rfl (by intro u hu; simp [Value.cells, tlC] at hu; rcases hu with rfl | rfl | rfl | rfl <;> rfl) h12 rfl fun w3 c3 s3 h3 => ?_
  have k3 : Kp wr w3 := Kp.of_chg k12 c3 fun q e => by omega
  have S3 := Sj.later k3
  have blk := S3.blk
  have n6 : ∀ {q}, t6.ownBlock = some q → q < wr.heap.size := fun h => (Sj.tl.lt h).2
  have c2 : w3.cell? ⟨b10, 2, none⟩ = some (.int .i64 (tS s)) := by rw [cell_row blk]; rfl
  have d0 : w3.cell? ⟨b12, 0, none⟩ = some (.int .i64 (tN t)) := by rw [cell_row h3]; rfl
  by_cases hst : tS s = tN t
  case neg =>
    rw [if_neg hst, List.append_nil] at hk2
    simp (disch := omega) only [r_ln, r_pick, r_pickT, r_pickF, r_condT, r_condF, r_gdTT, r_gdFF, r_gdTF, r_gdFT, r_gqTT, r_gqFF, r_gqTF, r_gqFT, r_not, r_lss, r_leq, r_gtr, r_geq, r_eql, r_neq, r_add, r_sub, r_min2, r_max2, r_min3, r_max3, r_fa, r_iaS, r_iaA, r_ex2a, r_ex2b, r_ex3a, r_ex3b, r_ex3c, r_nc, r_keepE, Nat.zero_add, Nat.add_zero, Nat.mul_one, Int.toNat_natCast, toNat_sub1, toNat_add1, decide_true, decide_false, Bool.not_true, Bool.not_false, if_true, if_false, Bool.false_eq_true, reduceCtorEq, r_ld c2, r_ld d0, hst]
    exact hk2 _ _ _ S3
  rw [if_pos hst] at hk2
  simp (disch := omega) only [r_ln, r_pick, r_pickT, r_pickF, r_condT, r_condF, r_gdTT, r_gdFF, r_gdTF, r_gdFT, r_gqTT, r_gqFF, r_gqTF, r_gqFT, r_not, r_lss, r_leq, r_gtr, r_geq, r_eql, r_neq, r_add, r_sub, r_min2, r_max2, r_min3, r_max3, r_fa, r_iaS, r_iaA, r_ex2a, r_ex2b, r_ex3a, r_ex3b, r_ex3c, r_nc, r_keepE, Nat.zero_add, Nat.add_zero, Nat.mul_one, Int.toNat_natCast, toNat_sub1, toNat_add1, decide_true, decide_false, Bool.not_true, Bool.not_false, if_true, if_false, Bool.false_eq_true, reduceCtorEq, r_ld c2, r_ld d0, decide_eq_true hst]
  refine r_drew fun w4 k4 _ => ?_
  have S4 := S3.later k4
  have blk4 := S4.blk
  have h4 := block_below h3 k4
  have e0 : w4.cell? ⟨b10, 0, none⟩ = some (.int .i64 (tN s)) := by rw [cell_row blk4]; rfl
  have e1 : w4.cell? ⟨b10, 1, none⟩ = some (.int .i64 (tE s)) := by rw [cell_row blk4]; rfl
  have e3 : w4.cell? ⟨b10, 3, none⟩ = some (.int .i64 (tW s)) := by rw [cell_row blk4]; rfl
  have f1 : w4.cell? ⟨b12, 1, none⟩ = some (.int .i64 (tE t)) := by rw [cell_row h4]; rfl
  have f2 : w4.cell? ⟨b12, 2, none⟩ = some (.int .i64 (tS t)) := by rw [cell_row h4]; rfl
  have f3 : w4.cell? ⟨b12, 3, none⟩ = some (.int .i64 (tW t)) := by rw [cell_row h4]; rfl
  have sz4 : wr.heap.size ≤ w4.heap.size := (Kp.trans k3 k4).size
  refine r_join1 (fun v w' => ∃ b13, v = .pointer (some ⟨b13, 0, none⟩) ∧ w'.heap[b13]? = some (.cells (tlV (pairT s t)).cells 32 (0, 0)) ∧ PSt w0 b10 s pj w' t6 t8 ∧ ∀ q, t6.ownBlock = some q → q ≠ b13) ?_ fun k3' hk3 => ?_
  · rintro v w5 ⟨b13, rfl, h13, S5, hn6⟩
    rw [r_ldRow (n := 4) h13 rfl]
    have hol := once_len_le pj
    refine r_use fok100 (contains_calls (pairT s t) w5 (S5.tl.rd tlC_len) (by omega)) rfl ?_
    rintro _ w6 ⟨rfl, k6⟩
    refine ⟨_, rfl, ?_⟩
    have S6 := S5.later k6
    by_cases hin : pairT s t ∈ once pj
    · simp (disch := omega) only [r_ln, r_pick, r_pickT, r_pickF, r_condT, r_condF, r_gdTT, r_gdFF, r_gdTF, r_gdFT, r_gqTT, r_gqFF, r_gqTF, r_gqFT, r_not, r_lss, r_leq, r_gtr, r_geq, r_eql, r_neq, r_add, r_sub, r_min2, r_max2, r_min3, r_max3, r_fa, r_iaS, r_iaA, r_ex2a, r_ex2b, r_ex3a, r_ex3b, r_ex3c, r_nc, r_keepE, Nat.zero_add, Nat.add_zero, Nat.mul_one, Int.toNat_natCast, toNat_sub1, toNat_add1, decide_true, decide_false, Bool.not_true, Bool.not_false, if_true, if_false, Bool.false_eq_true, reduceCtorEq, decide_eq_true hin]
      refine hk2 _ _ _ ?_
      have hoe : once (pj ++ [pairT s t]) = once pj := by rw [once_append]; simp [addU, hin]
      exact ⟨by rw [hoe]; exact S6.tl, by rw [hoe]; exact S6.ps, S6.kp, S6.blk, S6.ne⟩
    · simp (disch := omega) only [r_ln, r_pick, r_pickT, r_pickF, r_condT, r_condF, r_gdTT, r_gdFF, r_gdTF, r_gdFT, r_gqTT, r_gqFF, r_gqTF, r_gqFT, r_not, r_lss, r_leq, r_gtr, r_geq, r_eql, r_neq, r_add, r_sub, r_min2, r_max2, r_min3, r_max3, r_fa, r_iaS, r_iaA, r_ex2a, r_ex2b, r_ex3a, r_ex3b, r_ex3c, r_nc, r_keepE, Nat.zero_add, Nat.add_zero, Nat.mul_one, Int.toNat_natCast, toNat_sub1, toNat_add1, decide_true, decide_false, Bool.not_true, Bool.not_false, if_true, if_false, Bool.false_eq_true, reduceCtorEq, hin]
      refine r_drew fun w7 k7 _ => ?_
      have S7 := S6.later k7
      refine r_join2 (fun v6 v8 w' => PSt w0 b10 s (pj ++ [pairT s t]) w' v6 v8) (fun v6 v8 w' S' => hk2 _ _ _ S') fun k4' hk4 => ?_
      exact reg2 S7 (block_below (block_below h13 k6) k7) hn6 hin (by omega) hk4
  simp (disch := omega) only [r_fa, Nat.zero_add, r_ld e0, r_ld e1, r_ld e3, r_ld f1, r_ld f2, r_ld f3]
  have done : ∀ (b13 : Nat) (w' : World), w4.heap.size ≤ b13 → Kp w4 w' → w'.heap[b13]? = some (.cells (tlV (pairT s t)).cells 32 (0, 0)) → k3' (.pointer (some ⟨b13, 0, none⟩)) w' := fun b13 w' hb13 kk hh =>
    hk3 _ _ ⟨b13, rfl, hh, S4.later kk, fun q hq e => by have := n6 hq; omega⟩
  have hbd : ∀ K : Value → Prop, bdQ Try.prog 32 [(0, .int .i64 (tN s)), (1, .int .i64 (tE s * 8 + tE t)), (2, .int .i64 (tS t)), (3, .int .i64 (tW s * 8 + tW t))] K = K (tlV (pairT s t)) := fun K => bdP _ _ _ _ K
  have one4 : ∀ u ∈ (tlV (pairT s t)).cells.toList, u.oneCell' = true := by intro u hu; simp [Value.cells, tlC] at hu; rcases hu with rfl | rfl | rfl | rfl <;> rfl
  refine ⟨?_, ?_, trivial⟩
  · refine call99 (by omega) (by omega) ⟨Kp.refl _, ?_, ?_, trivial⟩
    · refine call99 (by omega) (by omega) ⟨Kp.refl _, ?_⟩
      dsimp only
      rw [hbd]
      refine r_box fun b13 w5 e13 s13 h13 k13 => ⟨k13, ?_⟩
      refine r_stAll (n := 4) (ty := 32) (by kernel_rfl) rfl one4 h13 rfl fun w6 c6 s6 h6 => ?_
      exact done b13 w6 (by omega) (Kp.of_chg k13 c6 fun q e => by omega) h6
    · refine r_box fun b13 w5 e13 s13 h13 k13 => ⟨k13, ?_⟩
      refine call99 (by omega) (by omega) ⟨Kp.refl _, ?_⟩
      dsimp only
      rw [hbd]
      refine r_stAll (n := 4) (ty := 32) (by kernel_rfl) rfl one4 h13 rfl fun w6 c6 s6 h6 => ?_
      exact done b13 w6 (by omega) (Kp.of_chg k13 c6 fun q e => by omega) h6
  · refine r_box fun b13 w5 e13 s13 h13 k13 => ⟨k13, ?_⟩
    refine call99 (by omega) (by omega) ⟨Kp.refl _, ?_⟩
    refine call99 (by omega) (by omega) ⟨Kp.refl _, ?_⟩
    dsimp only
    rw [hbd]
    refine r_stAll (n := 4) (ty := 32) (by kernel_rfl) rfl one4 h13 rfl fun w6 c6 s6 h6 => ?_
    exact done b13 w6 (by omega) (Kp.of_chg k13 c6 fun q e => by omega) h6

end Go.Proofs.Ytgalbokmgffhkaa
