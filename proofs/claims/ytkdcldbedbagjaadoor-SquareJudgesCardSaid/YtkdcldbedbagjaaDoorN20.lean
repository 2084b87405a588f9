/- Texts of my own, merged by program: Sg Jd Said. -/
import Derived.Test.YtkdcldbedbagjaaDoorN02
import Derived.Test.YtkdcldbedbagjaaDoorN19
import Derived.Test.YtkdcldbedbagjaaDoorN17
import Derived.Test.YtkdcldbedbagjaaDoorN08
import Derived.ProofKit
import Derived.LaidMore
import Derived.OpenShut
import Derived.Stop.Joined
import Derived.Deep.Strs
set_option linter.all false
/- Lifted texts, printed by program (gen.py): what each function's code asks. The ties are by the kernel. -/
namespace Go.Proofs.YtkdcldbedbagjaaDoor
open Go.Lf Go.RowKit

def S6 (t0 t1 t2 t3 : Value) (w : World) (R : Ending → World → Prop) : Prop :=
  callW Tryd.prog (.func (.func 21) #[] #[]) [t1] w fun t17 w =>
  unQ .not t17 fun t18 =>
  condW t18 (
    callW Tryd.prog (.func (.func 14) #[] #[]) [] w fun t19 w =>
    R (.returned t19) w
  ) (
    bsW Tryd.prog 27 0 [] w fun t20 w =>
    semW Tryd.prog (apS [27, 27] 27 [t20, t1]) w fun t22 w =>
    callW Tryd.prog (.func (.func 24) #[] #[]) [t0, t22] w fun t26 w =>
    exQ t26 0 fun t27 =>
    exQ t26 1 fun t28 =>
    callW Tryd.prog (.func (.func 25) #[] #[]) [t0, t1] w fun t32 w =>
    exQ t32 0 fun t33 =>
    exQ t32 1 fun t34 =>
    binQ Tryd.prog w .neq 3 false t27 t33 fun t37 =>
    gd t37 false (fun k => k t28 w) w fun t39 w =>
    gd t37 false (fun k => k t34 w) w fun t40 w =>
    gd t37 false (fun k => binQ Tryd.prog w .neq 24 false t39 t40 fun v => k v w) w fun t41 w =>
    pickQ t37 (.bool true) t41 fun t42 =>
    condW t42 (
      R (.returned (.bool false)) w
    ) (
      callW Tryd.prog (.func (.func 26) #[] #[]) [t0, t22, t2, t3] w fun t48 w =>
      exQ t48 0 fun t49 =>
      exQ t48 1 fun t50 =>
      callW Tryd.prog (.func (.func 27) #[] #[]) [t0, t1, t2, t3] w fun t56 w =>
      exQ t56 0 fun t57 =>
      exQ t56 1 fun t58 =>
      binQ Tryd.prog w .neq 3 false t49 t57 fun t61 =>
      gd t61 false (fun k => k t50 w) w fun t63 w =>
      gd t61 false (fun k => k t58 w) w fun t64 w =>
      gd t61 false (fun k => binQ Tryd.prog w .neq 24 false t63 t64 fun v => k v w) w fun t65 w =>
      pickQ t61 (.bool true) t65 fun t66 =>
      condW t66 (
        R (.returned (.bool false)) w
      ) (
        callW Tryd.prog (.func (.func 22) #[] #[]) [t0, t22, t2, t3] w fun t72 w =>
        exQ t72 0 fun t73 =>
        exQ t72 1 fun t74 =>
        boxW 36 (.agg #[(.slice none 0 0), (.int .i64 0), (.int .i64 0)]) w fun t14 w =>
        stW Tryd.prog 36 t14 t73 w fun w =>
        callW Tryd.prog (.func (.func 28) #[] #[]) [t0, t1, t2, t3] w fun t80 w =>
        exQ t80 0 fun t81 =>
        exQ t80 1 fun t82 =>
        boxW 36 (.agg #[(.slice none 0 0), (.int .i64 0), (.int .i64 0)]) w fun t15 w =>
        stW Tryd.prog 36 t15 t81 w fun w =>
        fa1 t14 0 fun t83 =>
        ld1 w t83 fun t84 =>
        fa1 t15 0 fun t85 =>
        ld1 w t85 fun t86 =>
        callW Tryd.prog (.func (.func 29) #[] #[]) [t84, t86] w fun t87 w =>
        gd t87 true (fun k => fa1 t14 1 fun v => k v w) w fun t89 w =>
        gd t87 true (fun k => ld1 w t89 fun v => k v w) w fun t90 w =>
        gd t87 true (fun k => fa1 t15 1 fun v => k v w) w fun t91 w =>
        gd t87 true (fun k => ld1 w t91 fun v => k v w) w fun t92 w =>
        gd t87 true (fun k => binQ Tryd.prog w .eql 3 false t90 t92 fun v => k v w) w fun t93 w =>
        pickQ t87 t93 (.bool false) fun t94 =>
        gd t94 true (fun k => fa1 t14 2 fun v => k v w) w fun t96 w =>
        gd t94 true (fun k => ld1 w t96 fun v => k v w) w fun t97 w =>
        gd t94 true (fun k => fa1 t15 2 fun v => k v w) w fun t98 w =>
        gd t94 true (fun k => ld1 w t98 fun v => k v w) w fun t99 w =>
        gd t94 true (fun k => binQ Tryd.prog w .eql 3 false t97 t99 fun v => k v w) w fun t100 w =>
        pickQ t94 t100 (.bool false) fun t101 =>
        gd t101 true (fun k => k t74 w) w fun t103 w =>
        gd t101 true (fun k => k t82 w) w fun t104 w =>
        gd t101 true (fun k => binQ Tryd.prog w .eql 24 false t103 t104 fun v => k v w) w fun t105 w =>
        pickQ t101 t105 (.bool false) fun t106 =>
        gd t106 true (fun k => k t22 w) w fun t108 w =>
        gd t106 true (fun k => k t1 w) w fun t109 w =>
        gd t106 true (fun k => callW Tryd.prog (.func (.func 19) #[] #[]) [t108, t109] w k) w fun t110 w =>
        pickQ t106 t110 (.bool false) fun t111 =>
        gd t111 true (fun k => callW Tryd.prog (.func (.func 14) #[] #[]) [] w k) w fun t113 w =>
        pickQ t111 t113 (.bool false) fun t114 =>
        R (.returned t114) w
      )
    )
  )

def A6 : Ann where
  live := fun _ => []
  wr := fun _ _ => false
  sched := fun _ => .done

set_option maxRecDepth 100000 in
theorem ok6 : (codeOk Tryd.f6.ntmps A6 (Tryd.f6.body.getD .skip) 0 && Nat.ble 4 Tryd.f6.ntmps) = true := by kernel_rfl
set_option maxRecDepth 100000 in
theorem lift6 {t0 t1 t2 t3 : Value} {w : World} {R : Ending → World → Prop} (h : S6 t0 t1 t2 t3 w R) : Calls Tryd.prog 6 #[t0, t1, t2, t3] w R :=
  calls_of_cw (fn := Tryd.f6) (c := Tryd.f6.body.getD .skip) A6 mixes Tryd.func6 (by kernel_rfl) ok6
    ((by kernel_rfl : (S6 t0 t1 t2 t3 w R) = cw Tryd.prog A6 (Tryd.f6.body.getD .skip) 0 (bodyQ Tryd.prog Tryd.f6 R) (frOf #[t0, t1, t2, t3]) w).mp h)

def S10 (t0 t1 t2 t3 t4 t5 : Value) (w : World) (R : Ending → World → Prop) : Prop :=
  boxW 40 t5 w fun t11 w =>
  callW Tryd.prog (.func (.func 21) #[] #[]) [t1] w fun t22 w =>
  unQ .not t22 fun t23 =>
  condW t23 (
    callW Tryd.prog (.func (.func 14) #[] #[]) [] w fun t24 w =>
    R (.returned t24) w
  ) (
    callW Tryd.prog (.func (.func 36) #[] #[]) [t0, t1, t2, t3] w fun t30 w =>
    exQ t30 0 fun t31 =>
    exQ t30 1 fun t32 =>
    boxW 58 (.agg #[(.int .i64 0), (.int .i64 0)]) w fun t13 w =>
    stW Tryd.prog 58 t13 t31 w fun w =>
    callW Tryd.prog (.func (.func 36) #[] #[]) [t0, t1, t3, t2] w fun t38 w =>
    exQ t38 0 fun t39 =>
    exQ t38 1 fun t40 =>
    boxW 58 (.agg #[(.int .i64 0), (.int .i64 0)]) w fun t15 w =>
    stW Tryd.prog 58 t15 t39 w fun w =>
    binQ Tryd.prog w .neq 24 false t32 t40 fun t43 =>
    gd t43 false (fun k => ldN 2 w t13 fun v => k v w) w fun t45 w =>
    gd t43 false (fun k => ldN 2 w t15 fun v => k v w) w fun t46 w =>
    gd t43 false (fun k => binQ Tryd.prog w .neq 58 false t45 t46 fun v => k v w) w fun t47 w =>
    pickQ t43 (.bool true) t47 fun t48 =>
    condW t48 (
      R (.returned (.bool false)) w
    ) (
      binQ Tryd.prog w .neq 24 true t32 (.int .i64 0) fun t50 =>
      condW t50 (
        callW Tryd.prog (.func (.func 14) #[] #[]) [] w fun t51 w =>
        R (.returned t51) w
      ) (
        Drew w fun w =>
        Join (fun (k_2 : Value → Value → World → Prop) =>
          ∃ X : Nat → Prop,
          takeX X w (fun w k => k t0) fun t53 =>
          takeX X w (fun w k => k t1) fun t55 =>
          takeX X w (fun w k => ldN 2 w t11 k) fun t57 =>
          takeX X w (fun w k => k t2) fun t60 =>
          takeX X w (fun w k => k t3) fun t61 =>
          And (
            bsW Tryd.prog 27 0 [] w <| keepX X w fun t54 w =>
            And (
              semW Tryd.prog (apS [27, 27] 27 [t54, t55]) w <| keepX X w fun t56 w =>
              And (
                bsW Tryd.prog 27 1 [(0, t57)] w <| keepX X w fun t58 w =>
                And (
                  semW Tryd.prog (apS [27, 27] 27 [t56, t58]) w <| keepX X w fun t59 w =>
                  And (
                    callW Tryd.prog (.func (.func 36) #[] #[]) [t53, t59, t60, t61] w <| keepX X w fun t62 w =>
                    takeX X w (fun w k => k t62) fun t52 =>
                    takeX X w (fun w k => exQ t52 0 k) fun t63 =>
                    takeX X w (fun w k => exQ t52 1 k) fun t64 =>
                    boxW 58 (.agg #[(.int .i64 0), (.int .i64 0)]) w <| keepX X w fun t17_2 w =>
                    stW Tryd.prog 58 t17_2 t63 w <| keepW X w fun w =>
                    takeX X w (fun w k => k t64) fun t16_2 =>
                    k_2 t16_2 t17_2 w
                  ) <|
                  And (
                    boxW 58 (.agg #[(.int .i64 0), (.int .i64 0)]) w <| keepX X w fun t17_3 w =>
                    callW Tryd.prog (.func (.func 36) #[] #[]) [t53, t59, t60, t61] w <| keepX X w fun t62_2 w =>
                    takeX X w (fun w k => k t62_2) fun t52_2 =>
                    takeX X w (fun w k => exQ t52_2 0 k) fun t63_2 =>
                    takeX X w (fun w k => exQ t52_2 1 k) fun t64_2 =>
                    stW Tryd.prog 58 t17_3 t63_2 w <| keepW X w fun w =>
                    takeX X w (fun w k => k t64_2) fun t16_3 =>
                    k_2 t16_3 t17_3 w
                  ) <|
                  True
                ) <|
                And (
                  boxW 58 (.agg #[(.int .i64 0), (.int .i64 0)]) w <| keepX X w fun t17_4 w =>
                  semW Tryd.prog (apS [27, 27] 27 [t56, t58]) w <| keepX X w fun t59_2 w =>
                  callW Tryd.prog (.func (.func 36) #[] #[]) [t53, t59_2, t60, t61] w <| keepX X w fun t62_3 w =>
                  takeX X w (fun w k => k t62_3) fun t52_3 =>
                  takeX X w (fun w k => exQ t52_3 0 k) fun t63_3 =>
                  takeX X w (fun w k => exQ t52_3 1 k) fun t64_3 =>
                  stW Tryd.prog 58 t17_4 t63_3 w <| keepW X w fun w =>
                  takeX X w (fun w k => k t64_3) fun t16_4 =>
                  k_2 t16_4 t17_4 w
                ) <|
                True
              ) <|
              And (
                boxW 58 (.agg #[(.int .i64 0), (.int .i64 0)]) w <| keepX X w fun t17_5 w =>
                bsW Tryd.prog 27 1 [(0, t57)] w <| keepX X w fun t58_2 w =>
                semW Tryd.prog (apS [27, 27] 27 [t56, t58_2]) w <| keepX X w fun t59_3 w =>
                callW Tryd.prog (.func (.func 36) #[] #[]) [t53, t59_3, t60, t61] w <| keepX X w fun t62_4 w =>
                takeX X w (fun w k => k t62_4) fun t52_4 =>
                takeX X w (fun w k => exQ t52_4 0 k) fun t63_4 =>
                takeX X w (fun w k => exQ t52_4 1 k) fun t64_4 =>
                stW Tryd.prog 58 t17_5 t63_4 w <| keepW X w fun w =>
                takeX X w (fun w k => k t64_4) fun t16_5 =>
                k_2 t16_5 t17_5 w
              ) <|
              True
            ) <|
            And (
              bsW Tryd.prog 27 1 [(0, t57)] w <| keepX X w fun t58_3 w =>
              And (
                semW Tryd.prog (apS [27, 27] 27 [t54, t55]) w <| keepX X w fun t56_2 w =>
                And (
                  semW Tryd.prog (apS [27, 27] 27 [t56_2, t58_3]) w <| keepX X w fun t59_4 w =>
                  And (
                    callW Tryd.prog (.func (.func 36) #[] #[]) [t53, t59_4, t60, t61] w <| keepX X w fun t62_5 w =>
                    takeX X w (fun w k => k t62_5) fun t52_5 =>
                    takeX X w (fun w k => exQ t52_5 0 k) fun t63_5 =>
                    takeX X w (fun w k => exQ t52_5 1 k) fun t64_5 =>
                    boxW 58 (.agg #[(.int .i64 0), (.int .i64 0)]) w <| keepX X w fun t17_6 w =>
                    stW Tryd.prog 58 t17_6 t63_5 w <| keepW X w fun w =>
                    takeX X w (fun w k => k t64_5) fun t16_6 =>
                    k_2 t16_6 t17_6 w
                  ) <|
                  And (
                    boxW 58 (.agg #[(.int .i64 0), (.int .i64 0)]) w <| keepX X w fun t17_7 w =>
                    callW Tryd.prog (.func (.func 36) #[] #[]) [t53, t59_4, t60, t61] w <| keepX X w fun t62_6 w =>
                    takeX X w (fun w k => k t62_6) fun t52_6 =>
                    takeX X w (fun w k => exQ t52_6 0 k) fun t63_6 =>
                    takeX X w (fun w k => exQ t52_6 1 k) fun t64_6 =>
                    stW Tryd.prog 58 t17_7 t63_6 w <| keepW X w fun w =>
                    takeX X w (fun w k => k t64_6) fun t16_7 =>
                    k_2 t16_7 t17_7 w
                  ) <|
                  True
                ) <|
                And (
                  boxW 58 (.agg #[(.int .i64 0), (.int .i64 0)]) w <| keepX X w fun t17_8 w =>
                  semW Tryd.prog (apS [27, 27] 27 [t56_2, t58_3]) w <| keepX X w fun t59_5 w =>
                  callW Tryd.prog (.func (.func 36) #[] #[]) [t53, t59_5, t60, t61] w <| keepX X w fun t62_7 w =>
                  takeX X w (fun w k => k t62_7) fun t52_7 =>
                  takeX X w (fun w k => exQ t52_7 0 k) fun t63_7 =>
                  takeX X w (fun w k => exQ t52_7 1 k) fun t64_7 =>
                  stW Tryd.prog 58 t17_8 t63_7 w <| keepW X w fun w =>
                  takeX X w (fun w k => k t64_7) fun t16_8 =>
                  k_2 t16_8 t17_8 w
                ) <|
                True
              ) <|
              And (
                boxW 58 (.agg #[(.int .i64 0), (.int .i64 0)]) w <| keepX X w fun t17_9 w =>
                semW Tryd.prog (apS [27, 27] 27 [t54, t55]) w <| keepX X w fun t56_3 w =>
                semW Tryd.prog (apS [27, 27] 27 [t56_3, t58_3]) w <| keepX X w fun t59_6 w =>
                callW Tryd.prog (.func (.func 36) #[] #[]) [t53, t59_6, t60, t61] w <| keepX X w fun t62_8 w =>
                takeX X w (fun w k => k t62_8) fun t52_8 =>
                takeX X w (fun w k => exQ t52_8 0 k) fun t63_8 =>
                takeX X w (fun w k => exQ t52_8 1 k) fun t64_8 =>
                stW Tryd.prog 58 t17_9 t63_8 w <| keepW X w fun w =>
                takeX X w (fun w k => k t64_8) fun t16_9 =>
                k_2 t16_9 t17_9 w
              ) <|
              True
            ) <|
            And (
              boxW 58 (.agg #[(.int .i64 0), (.int .i64 0)]) w <| keepX X w fun t17_10 w =>
              And (
                semW Tryd.prog (apS [27, 27] 27 [t54, t55]) w <| keepX X w fun t56_4 w =>
                bsW Tryd.prog 27 1 [(0, t57)] w <| keepX X w fun t58_4 w =>
                semW Tryd.prog (apS [27, 27] 27 [t56_4, t58_4]) w <| keepX X w fun t59_7 w =>
                callW Tryd.prog (.func (.func 36) #[] #[]) [t53, t59_7, t60, t61] w <| keepX X w fun t62_9 w =>
                takeX X w (fun w k => k t62_9) fun t52_9 =>
                takeX X w (fun w k => exQ t52_9 0 k) fun t63_9 =>
                takeX X w (fun w k => exQ t52_9 1 k) fun t64_9 =>
                stW Tryd.prog 58 t17_10 t63_9 w <| keepW X w fun w =>
                takeX X w (fun w k => k t64_9) fun t16_10 =>
                k_2 t16_10 t17_10 w
              ) <|
              And (
                bsW Tryd.prog 27 1 [(0, t57)] w <| keepX X w fun t58_5 w =>
                semW Tryd.prog (apS [27, 27] 27 [t54, t55]) w <| keepX X w fun t56_5 w =>
                semW Tryd.prog (apS [27, 27] 27 [t56_5, t58_5]) w <| keepX X w fun t59_8 w =>
                callW Tryd.prog (.func (.func 36) #[] #[]) [t53, t59_8, t60, t61] w <| keepX X w fun t62_10 w =>
                takeX X w (fun w k => k t62_10) fun t52_10 =>
                takeX X w (fun w k => exQ t52_10 0 k) fun t63_10 =>
                takeX X w (fun w k => exQ t52_10 1 k) fun t64_10 =>
                stW Tryd.prog 58 t17_10 t63_10 w <| keepW X w fun w =>
                takeX X w (fun w k => k t64_10) fun t16_11 =>
                k_2 t16_11 t17_10 w
              ) <|
              True
            ) <|
            True
          ) <|
          And (
            bsW Tryd.prog 27 1 [(0, t57)] w <| keepX X w fun t58_6 w =>
            And (
              bsW Tryd.prog 27 0 [] w <| keepX X w fun t54_2 w =>
              And (
                semW Tryd.prog (apS [27, 27] 27 [t54_2, t55]) w <| keepX X w fun t56_6 w =>
                And (
                  semW Tryd.prog (apS [27, 27] 27 [t56_6, t58_6]) w <| keepX X w fun t59_9 w =>
                  And (
                    callW Tryd.prog (.func (.func 36) #[] #[]) [t53, t59_9, t60, t61] w <| keepX X w fun t62_11 w =>
                    takeX X w (fun w k => k t62_11) fun t52_11 =>
                    takeX X w (fun w k => exQ t52_11 0 k) fun t63_11 =>
                    takeX X w (fun w k => exQ t52_11 1 k) fun t64_11 =>
                    boxW 58 (.agg #[(.int .i64 0), (.int .i64 0)]) w <| keepX X w fun t17_11 w =>
                    stW Tryd.prog 58 t17_11 t63_11 w <| keepW X w fun w =>
                    takeX X w (fun w k => k t64_11) fun t16_12 =>
                    k_2 t16_12 t17_11 w
                  ) <|
                  And (
                    boxW 58 (.agg #[(.int .i64 0), (.int .i64 0)]) w <| keepX X w fun t17_12 w =>
                    callW Tryd.prog (.func (.func 36) #[] #[]) [t53, t59_9, t60, t61] w <| keepX X w fun t62_12 w =>
                    takeX X w (fun w k => k t62_12) fun t52_12 =>
                    takeX X w (fun w k => exQ t52_12 0 k) fun t63_12 =>
                    takeX X w (fun w k => exQ t52_12 1 k) fun t64_12 =>
                    stW Tryd.prog 58 t17_12 t63_12 w <| keepW X w fun w =>
                    takeX X w (fun w k => k t64_12) fun t16_13 =>
                    k_2 t16_13 t17_12 w
                  ) <|
                  True
                ) <|
                And (
                  boxW 58 (.agg #[(.int .i64 0), (.int .i64 0)]) w <| keepX X w fun t17_13 w =>
                  semW Tryd.prog (apS [27, 27] 27 [t56_6, t58_6]) w <| keepX X w fun t59_10 w =>
                  callW Tryd.prog (.func (.func 36) #[] #[]) [t53, t59_10, t60, t61] w <| keepX X w fun t62_13 w =>
                  takeX X w (fun w k => k t62_13) fun t52_13 =>
                  takeX X w (fun w k => exQ t52_13 0 k) fun t63_13 =>
                  takeX X w (fun w k => exQ t52_13 1 k) fun t64_13 =>
                  stW Tryd.prog 58 t17_13 t63_13 w <| keepW X w fun w =>
                  takeX X w (fun w k => k t64_13) fun t16_14 =>
                  k_2 t16_14 t17_13 w
                ) <|
                True
              ) <|
              And (
                boxW 58 (.agg #[(.int .i64 0), (.int .i64 0)]) w <| keepX X w fun t17_14 w =>
                semW Tryd.prog (apS [27, 27] 27 [t54_2, t55]) w <| keepX X w fun t56_7 w =>
                semW Tryd.prog (apS [27, 27] 27 [t56_7, t58_6]) w <| keepX X w fun t59_11 w =>
                callW Tryd.prog (.func (.func 36) #[] #[]) [t53, t59_11, t60, t61] w <| keepX X w fun t62_14 w =>
                takeX X w (fun w k => k t62_14) fun t52_14 =>
                takeX X w (fun w k => exQ t52_14 0 k) fun t63_14 =>
                takeX X w (fun w k => exQ t52_14 1 k) fun t64_14 =>
                stW Tryd.prog 58 t17_14 t63_14 w <| keepW X w fun w =>
                takeX X w (fun w k => k t64_14) fun t16_15 =>
                k_2 t16_15 t17_14 w
              ) <|
              True
            ) <|
            And (
              boxW 58 (.agg #[(.int .i64 0), (.int .i64 0)]) w <| keepX X w fun t17_15 w =>
              bsW Tryd.prog 27 0 [] w <| keepX X w fun t54_3 w =>
              semW Tryd.prog (apS [27, 27] 27 [t54_3, t55]) w <| keepX X w fun t56_8 w =>
              semW Tryd.prog (apS [27, 27] 27 [t56_8, t58_6]) w <| keepX X w fun t59_12 w =>
              callW Tryd.prog (.func (.func 36) #[] #[]) [t53, t59_12, t60, t61] w <| keepX X w fun t62_15 w =>
              takeX X w (fun w k => k t62_15) fun t52_15 =>
              takeX X w (fun w k => exQ t52_15 0 k) fun t63_15 =>
              takeX X w (fun w k => exQ t52_15 1 k) fun t64_15 =>
              stW Tryd.prog 58 t17_15 t63_15 w <| keepW X w fun w =>
              takeX X w (fun w k => k t64_15) fun t16_16 =>
              k_2 t16_16 t17_15 w
            ) <|
            True
          ) <|
          And (
            boxW 58 (.agg #[(.int .i64 0), (.int .i64 0)]) w <| keepX X w fun t17_16 w =>
            And (
              bsW Tryd.prog 27 0 [] w <| keepX X w fun t54_4 w =>
              And (
                semW Tryd.prog (apS [27, 27] 27 [t54_4, t55]) w <| keepX X w fun t56_9 w =>
                bsW Tryd.prog 27 1 [(0, t57)] w <| keepX X w fun t58_7 w =>
                semW Tryd.prog (apS [27, 27] 27 [t56_9, t58_7]) w <| keepX X w fun t59_13 w =>
                callW Tryd.prog (.func (.func 36) #[] #[]) [t53, t59_13, t60, t61] w <| keepX X w fun t62_16 w =>
                takeX X w (fun w k => k t62_16) fun t52_16 =>
                takeX X w (fun w k => exQ t52_16 0 k) fun t63_16 =>
                takeX X w (fun w k => exQ t52_16 1 k) fun t64_16 =>
                stW Tryd.prog 58 t17_16 t63_16 w <| keepW X w fun w =>
                takeX X w (fun w k => k t64_16) fun t16_17 =>
                k_2 t16_17 t17_16 w
              ) <|
              And (
                bsW Tryd.prog 27 1 [(0, t57)] w <| keepX X w fun t58_8 w =>
                semW Tryd.prog (apS [27, 27] 27 [t54_4, t55]) w <| keepX X w fun t56_10 w =>
                semW Tryd.prog (apS [27, 27] 27 [t56_10, t58_8]) w <| keepX X w fun t59_14 w =>
                callW Tryd.prog (.func (.func 36) #[] #[]) [t53, t59_14, t60, t61] w <| keepX X w fun t62_17 w =>
                takeX X w (fun w k => k t62_17) fun t52_17 =>
                takeX X w (fun w k => exQ t52_17 0 k) fun t63_17 =>
                takeX X w (fun w k => exQ t52_17 1 k) fun t64_17 =>
                stW Tryd.prog 58 t17_16 t63_17 w <| keepW X w fun w =>
                takeX X w (fun w k => k t64_17) fun t16_18 =>
                k_2 t16_18 t17_16 w
              ) <|
              True
            ) <|
            And (
              bsW Tryd.prog 27 1 [(0, t57)] w <| keepX X w fun t58_9 w =>
              bsW Tryd.prog 27 0 [] w <| keepX X w fun t54_5 w =>
              semW Tryd.prog (apS [27, 27] 27 [t54_5, t55]) w <| keepX X w fun t56_11 w =>
              semW Tryd.prog (apS [27, 27] 27 [t56_11, t58_9]) w <| keepX X w fun t59_15 w =>
              callW Tryd.prog (.func (.func 36) #[] #[]) [t53, t59_15, t60, t61] w <| keepX X w fun t62_18 w =>
              takeX X w (fun w k => k t62_18) fun t52_18 =>
              takeX X w (fun w k => exQ t52_18 0 k) fun t63_18 =>
              takeX X w (fun w k => exQ t52_18 1 k) fun t64_18 =>
              stW Tryd.prog 58 t17_16 t63_18 w <| keepW X w fun w =>
              takeX X w (fun w k => k t64_18) fun t16_19 =>
              k_2 t16_19 t17_16 w
            ) <|
            True
          ) <|
          True
        ) fun t16 t17 w =>
        binQ Tryd.prog w .eql 24 true t16 (.int .i64 0) fun t66 =>
        gd t66 true (fun k => ldN 2 w t17 fun v => k v w) w fun t68 w =>
        gd t66 true (fun k => ldN 2 w t13 fun v => k v w) w fun t69 w =>
        gd t66 true (fun k => callW Tryd.prog (.func (.func 37) #[] #[]) [t68, t69] w k) w fun t70 w =>
        gd t66 true (fun k => unQ .not t70 fun v => k v w) w fun t71 w =>
        pickQ t66 t71 (.bool false) fun t72 =>
        condW t72 (
          R (.returned (.bool false)) w
        ) (
          callW Tryd.prog (.func (.func 36) #[] #[]) [t0, t1, t2, t4] w fun t78 w =>
          exQ t78 0 fun t79 =>
          exQ t78 1 fun t80 =>
          boxW 58 (.agg #[(.int .i64 0), (.int .i64 0)]) w fun t18 w =>
          stW Tryd.prog 58 t18 t79 w fun w =>
          callW Tryd.prog (.func (.func 36) #[] #[]) [t0, t1, t4, t3] w fun t86 w =>
          exQ t86 0 fun t87 =>
          exQ t86 1 fun t88 =>
          boxW 58 (.agg #[(.int .i64 0), (.int .i64 0)]) w fun t19 w =>
          stW Tryd.prog 58 t19 t87 w fun w =>
          binQ Tryd.prog w .neq 24 true t80 (.int .i64 0) fun t90 =>
          gd t90 false (fun k => k t88 w) w fun t92 w =>
          gd t90 false (fun k => binQ Tryd.prog w .neq 24 true t92 (.int .i64 0) fun v => k v w) w fun t93 w =>
          pickQ t90 (.bool true) t93 fun t94 =>
          condW t94 (
            callW Tryd.prog (.func (.func 14) #[] #[]) [] w fun t95 w =>
            R (.returned t95) w
          ) (
            ldN 2 w t13 fun t96 =>
            fa1 t18 0 fun t97 =>
            ld1 w t97 fun t98 =>
            fa1 t19 1 fun t99 =>
            ld1 w t99 fun t100 =>
            binQ Tryd.prog w .mul 3 false t98 t100 fun t101 =>
            fa1 t19 0 fun t102 =>
            ld1 w t102 fun t103 =>
            fa1 t18 1 fun t104 =>
            ld1 w t104 fun t105 =>
            binQ Tryd.prog w .mul 3 false t103 t105 fun t106 =>
            binQ Tryd.prog w .add 3 false t101 t106 fun t107 =>
            fa1 t18 1 fun t108 =>
            ld1 w t108 fun t109 =>
            fa1 t19 1 fun t110 =>
            ld1 w t110 fun t111 =>
            binQ Tryd.prog w .mul 3 false t109 t111 fun t112 =>
            bdQ Tryd.prog 58 [(0, t107), (1, t112)] fun t113 =>
            callW Tryd.prog (.func (.func 37) #[] #[]) [t96, t113] w fun t114 w =>
            gd t114 true (fun k => callW Tryd.prog (.func (.func 14) #[] #[]) [] w k) w fun t116 w =>
            pickQ t114 t116 (.bool false) fun t117 =>
            R (.returned t117) w
          )
        )
      )
    )
  )

def A10 : Ann where
  live := fun _ => []
  wr := fun _ _ => false
  sched := fun
    | 9 => (.cls (.take 0 (.take 2 (.take 4 (.take 7 (.take 8 (.alt 1 (.alt 3 (.alt 5 (.alt 6 (.alt 9 (.take 10 (.take 11 (.take 12 (.eff 13 (.eff 14 (.take 15 .done)))))) (.alt 13 (.eff 9 (.take 10 (.take 11 (.take 12 (.eff 14 (.take 15 .done)))))) .nomore)) (.alt 13 (.eff 6 (.eff 9 (.take 10 (.take 11 (.take 12 (.eff 14 (.take 15 .done))))))) .nomore)) (.alt 13 (.eff 5 (.eff 6 (.eff 9 (.take 10 (.take 11 (.take 12 (.eff 14 (.take 15 .done)))))))) .nomore)) (.alt 5 (.alt 3 (.alt 6 (.alt 9 (.take 10 (.take 11 (.take 12 (.eff 13 (.eff 14 (.take 15 .done)))))) (.alt 13 (.eff 9 (.take 10 (.take 11 (.take 12 (.eff 14 (.take 15 .done)))))) .nomore)) (.alt 13 (.eff 6 (.eff 9 (.take 10 (.take 11 (.take 12 (.eff 14 (.take 15 .done))))))) .nomore)) (.alt 13 (.eff 3 (.eff 6 (.eff 9 (.take 10 (.take 11 (.take 12 (.eff 14 (.take 15 .done)))))))) .nomore)) (.alt 13 (.alt 3 (.eff 5 (.eff 6 (.eff 9 (.take 10 (.take 11 (.take 12 (.eff 14 (.take 15 .done)))))))) (.alt 5 (.eff 3 (.eff 6 (.eff 9 (.take 10 (.take 11 (.take 12 (.eff 14 (.take 15 .done)))))))) .nomore)) .nomore))) (.alt 5 (.alt 1 (.alt 3 (.alt 6 (.alt 9 (.take 10 (.take 11 (.take 12 (.eff 13 (.eff 14 (.take 15 .done)))))) (.alt 13 (.eff 9 (.take 10 (.take 11 (.take 12 (.eff 14 (.take 15 .done)))))) .nomore)) (.alt 13 (.eff 6 (.eff 9 (.take 10 (.take 11 (.take 12 (.eff 14 (.take 15 .done))))))) .nomore)) (.alt 13 (.eff 3 (.eff 6 (.eff 9 (.take 10 (.take 11 (.take 12 (.eff 14 (.take 15 .done)))))))) .nomore)) (.alt 13 (.eff 1 (.eff 3 (.eff 6 (.eff 9 (.take 10 (.take 11 (.take 12 (.eff 14 (.take 15 .done))))))))) .nomore)) (.alt 13 (.alt 1 (.alt 3 (.eff 5 (.eff 6 (.eff 9 (.take 10 (.take 11 (.take 12 (.eff 14 (.take 15 .done)))))))) (.alt 5 (.eff 3 (.eff 6 (.eff 9 (.take 10 (.take 11 (.take 12 (.eff 14 (.take 15 .done)))))))) .nomore)) (.alt 5 (.eff 1 (.eff 3 (.eff 6 (.eff 9 (.take 10 (.take 11 (.take 12 (.eff 14 (.take 15 .done))))))))) .nomore)) .nomore)))))))))
    | _ => .done

set_option maxRecDepth 100000 in
theorem ok10 : (codeOk Tryd.f10.ntmps A10 (Tryd.f10.body.getD .skip) 0 && Nat.ble 6 Tryd.f10.ntmps) = true := by kernel_rfl
set_option maxRecDepth 100000 in
theorem lift10 {t0 t1 t2 t3 t4 t5 : Value} {w : World} {R : Ending → World → Prop} (h : S10 t0 t1 t2 t3 t4 t5 w R) : Calls Tryd.prog 10 #[t0, t1, t2, t3, t4, t5] w R :=
  calls_of_cw (fn := Tryd.f10) (c := Tryd.f10.body.getD .skip) A10 mixes Tryd.func10 (by kernel_rfl) ok10
    ((by kernel_rfl : (S10 t0 t1 t2 t3 t4 t5 w R) = cw Tryd.prog A10 (Tryd.f10.body.getD .skip) 0 (bodyQ Tryd.prog Tryd.f10 R) (frOf #[t0, t1, t2, t3, t4, t5]) w).mp h)

def S11 (t0 t1 t2 t3 t4 : Value) (w : World) (R : Ending → World → Prop) : Prop :=
  callW Tryd.prog (.func (.func 21) #[] #[]) [t1] w fun t16 w =>
  unQ .not t16 fun t17 =>
  condW t17 (
    callW Tryd.prog (.func (.func 14) #[] #[]) [] w fun t18 w =>
    R (.returned t18) w
  ) (
    callW Tryd.prog (.func (.func 36) #[] #[]) [t0, t1, t2, t3] w fun t24 w =>
    exQ t24 0 fun t25 =>
    exQ t24 1 fun t26 =>
    boxW 58 (.agg #[(.int .i64 0), (.int .i64 0)]) w fun t11 w =>
    stW Tryd.prog 58 t11 t25 w fun w =>
    callW Tryd.prog (.func (.func 38) #[] #[]) [t0, t1, t2, t3] w fun t32 w =>
    exQ t32 0 fun t33 =>
    exQ t32 1 fun t34 =>
    boxW 58 (.agg #[(.int .i64 0), (.int .i64 0)]) w fun t13 w =>
    stW Tryd.prog 58 t13 t33 w fun w =>
    ldN 2 w t11 fun t35 =>
    ldN 2 w t13 fun t36 =>
    binQ Tryd.prog w .neq 58 false t35 t36 fun t37 =>
    gd t37 false (fun k => k t26 w) w fun t39 w =>
    gd t37 false (fun k => k t34 w) w fun t40 w =>
    gd t37 false (fun k => binQ Tryd.prog w .neq 24 false t39 t40 fun v => k v w) w fun t41 w =>
    pickQ t37 (.bool true) t41 fun t42 =>
    condW t42 (
      R (.returned (.bool false)) w
    ) (
      callW Tryd.prog (.func (.func 39) #[] #[]) [t0, t1, t4] w fun t47 w =>
      exQ t47 0 fun t48 =>
      exQ t47 1 fun t49 =>
      stW Tryd.prog 58 t11 t48 w fun w =>
      callW Tryd.prog (.func (.func 40) #[] #[]) [t0, t1, t4] w fun t54 w =>
      exQ t54 0 fun t55 =>
      exQ t54 1 fun t56 =>
      stW Tryd.prog 58 t13 t55 w fun w =>
      ldN 2 w t11 fun t57 =>
      ldN 2 w t13 fun t58 =>
      binQ Tryd.prog w .eql 58 false t57 t58 fun t59 =>
      gd t59 true (fun k => k t49 w) w fun t61 w =>
      gd t59 true (fun k => k t56 w) w fun t62 w =>
      gd t59 true (fun k => binQ Tryd.prog w .eql 24 false t61 t62 fun v => k v w) w fun t63 w =>
      pickQ t59 t63 (.bool false) fun t64 =>
      gd t64 true (fun k => callW Tryd.prog (.func (.func 14) #[] #[]) [] w k) w fun t66 w =>
      pickQ t64 t66 (.bool false) fun t67 =>
      R (.returned t67) w
    )
  )

def A11 : Ann where
  live := fun _ => []
  wr := fun _ _ => false
  sched := fun _ => .done

set_option maxRecDepth 100000 in
theorem ok11 : (codeOk Tryd.f11.ntmps A11 (Tryd.f11.body.getD .skip) 0 && Nat.ble 5 Tryd.f11.ntmps) = true := by kernel_rfl
set_option maxRecDepth 100000 in
theorem lift11 {t0 t1 t2 t3 t4 : Value} {w : World} {R : Ending → World → Prop} (h : S11 t0 t1 t2 t3 t4 w R) : Calls Tryd.prog 11 #[t0, t1, t2, t3, t4] w R :=
  calls_of_cw (fn := Tryd.f11) (c := Tryd.f11.body.getD .skip) A11 mixes Tryd.func11 (by kernel_rfl) ok11
    ((by kernel_rfl : (S11 t0 t1 t2 t3 t4 w R) = cw Tryd.prog A11 (Tryd.f11.body.getD .skip) 0 (bodyQ Tryd.prog Tryd.f11 R) (frOf #[t0, t1, t2, t3, t4]) w).mp h)

def S12L0 (t0 t1 t21 : Value) (R : Ending → World → Prop) (w : World) : Prop :=
  Loop2 (.int .i64 0) (.int .i64 0) w fun _ t7 t8 w next =>
    ln1 t1 fun t44 =>
    binQ Tryd.prog w .lss 3 false t8 t44 fun t45 =>
    condW t45 (
      Drew w fun w =>
      Join (fun (k_2 : Value → Value → World → Prop) =>
        ∃ X : Nat → Prop,
        takeX X w (fun w k => k t0) fun t49 =>
        takeX X w (fun w k => k t1) fun t50 =>
        takeX X w (fun w k => k t1) fun t51 =>
        takeX X w (fun w k => k t8) fun t52 =>
        takeX X w (fun w k => iaS 2 t51 t52 k) fun t53 =>
        takeX X w (fun w k => fa1 t53 0 k) fun t54 =>
        takeX X w (fun w k => ld1 w t54 k) fun t55 =>
        takeX X w (fun w k => k t1) fun t56 =>
        takeX X w (fun w k => k t8) fun t57 =>
        takeX X w (fun w k => iaS 2 t56 t57 k) fun t58 =>
        takeX X w (fun w k => fa1 t58 1 k) fun t59 =>
        takeX X w (fun w k => ld1 w t59 k) fun t60 =>
        And (
          callW Tryd.prog (.func (.func 36) #[] #[]) [t49, t50, t55, t60] w <| keepX X w fun t61 w =>
          takeX X w (fun w k => k t61) fun t48 =>
          takeX X w (fun w k => exQ t48 0 k) fun t62 =>
          takeX X w (fun w k => exQ t48 1 k) fun t63 =>
          boxW 58 (.agg #[(.int .i64 0), (.int .i64 0)]) w <| keepX X w fun t9_2 w =>
          stW Tryd.prog 58 t9_2 t62 w <| keepW X w fun w =>
          takeX X w (fun w k => k t63) fun t10_2 =>
          k_2 t9_2 t10_2 w
        ) <|
        And (
          boxW 58 (.agg #[(.int .i64 0), (.int .i64 0)]) w <| keepX X w fun t9_3 w =>
          callW Tryd.prog (.func (.func 36) #[] #[]) [t49, t50, t55, t60] w <| keepX X w fun t61_2 w =>
          takeX X w (fun w k => k t61_2) fun t48_2 =>
          takeX X w (fun w k => exQ t48_2 0 k) fun t62_2 =>
          takeX X w (fun w k => exQ t48_2 1 k) fun t63_2 =>
          stW Tryd.prog 58 t9_3 t62_2 w <| keepW X w fun w =>
          takeX X w (fun w k => k t63_2) fun t10_3 =>
          k_2 t9_3 t10_3 w
        ) <|
        True
      ) fun t9 t10 w =>
      callW Tryd.prog (.func (.func 39) #[] #[]) [t0, t1, t8] w fun t68 w =>
      exQ t68 0 fun t69 =>
      exQ t68 1 fun t70 =>
      boxW 58 (.agg #[(.int .i64 0), (.int .i64 0)]) w fun t11 w =>
      stW Tryd.prog 58 t11 t69 w fun w =>
      binQ Tryd.prog w .neq 24 true t10 (.int .i64 0) fun t72 =>
      gd t72 false (fun k => k t70 w) w fun t74 w =>
      gd t72 false (fun k => binQ Tryd.prog w .neq 24 true t74 (.int .i64 0) fun v => k v w) w fun t75 w =>
      pickQ t72 (.bool true) t75 fun t76 =>
      gd t76 false (fun k => ldN 2 w t9 fun v => k v w) w fun t78 w =>
      gd t76 false (fun k => ldN 2 w t11 fun v => k v w) w fun t79 w =>
      gd t76 false (fun k => binQ Tryd.prog w .neq 58 false t78 t79 fun v => k v w) w fun t80 w =>
      pickQ t76 (.bool true) t80 fun t81 =>
      gd t81 false (fun k => fa1 t9 1 fun v => k v w) w fun t83 w =>
      gd t81 false (fun k => ld1 w t83 fun v => k v w) w fun t84 w =>
      gd t81 false (fun k => binQ Tryd.prog w .lss 3 true t84 (.int .i64 1) fun v => k v w) w fun t85 w =>
      pickQ t81 (.bool true) t85 fun t86 =>
      gd t86 false (fun k => k t21 w) w fun t88 w =>
      gd t86 false (fun k => fa1 t9 1 fun v => k v w) w fun t89 w =>
      gd t86 false (fun k => ld1 w t89 fun v => k v w) w fun t90 w =>
      gd t86 false (fun k => binQ Tryd.prog w .rem 3 false t88 t90 fun v => k v w) w fun t91 w =>
      gd t86 false (fun k => binQ Tryd.prog w .neq 3 true t91 (.int .i64 0) fun v => k v w) w fun t92 w =>
      pickQ t86 (.bool true) t92 fun t93 =>
      condW t93 (
        R (.returned (.bool false)) w
      ) (
        Drew w fun w =>
        fa1 t9 0 fun t95 =>
        ld1 w t95 fun t96 =>
        fa1 t9 1 fun t98 =>
        ld1 w t98 fun t99 =>
        binQ Tryd.prog w .quo 3 false t21 t99 fun t100 =>
        binQ Tryd.prog w .mul 3 false t96 t100 fun t101 =>
        binQ Tryd.prog w .add 3 false t7 t101 fun t102 =>
        binQ Tryd.prog w .add 3 true t8 (.int .i64 1) fun t47 =>
        next t102 t47 w
      )
    ) (
      binQ Tryd.prog w .sub 3 true t0 (.int .i64 1) fun t105 =>
      binQ Tryd.prog w .mul 3 false t105 t21 fun t107 =>
      binQ Tryd.prog w .eql 3 false t7 t107 fun t108 =>
      gd t108 true (fun k => callW Tryd.prog (.func (.func 14) #[] #[]) [] w k) w fun t110 w =>
      pickQ t108 t110 (.bool false) fun t111 =>
      R (.returned t111) w
    )

def S12 (t0 t1 : Value) (w : World) (R : Ending → World → Prop) : Prop :=
  callW Tryd.prog (.func (.func 21) #[] #[]) [t1] w fun t14 w =>
  unQ .not t14 fun t15 =>
  condW t15 (
    callW Tryd.prog (.func (.func 14) #[] #[]) [] w fun t16 w =>
    R (.returned t16) w
  ) (
    callW Tryd.prog (.func (.func 24) #[] #[]) [t0, t1] w fun t20 w =>
    exQ t20 0 fun t21 =>
    exQ t20 1 fun t22 =>
    binQ Tryd.prog w .neq 24 true t22 (.int .i64 0) fun t24 =>
    gd t24 false (fun k => k t21 w) w fun t26 w =>
    gd t24 false (fun k => binQ Tryd.prog w .lss 3 true t26 (.int .i64 1) fun v => k v w) w fun t27 w =>
    pickQ t24 (.bool true) t27 fun t28 =>
    condW t28 (
      binQ Tryd.prog w .eql 24 true t22 (.int .i64 0) fun t30 =>
      gd t30 true (fun k => k t21 w) w fun t32 w =>
      gd t30 true (fun k => binQ Tryd.prog w .eql 3 true t32 (.int .i64 0) fun v => k v w) w fun t33 w =>
      pickQ t30 t33 (.bool false) fun t34 =>
      gd t34 false (fun k => k t22 w) w fun t36 w =>
      gd t34 false (fun k => binQ Tryd.prog w .neq 24 true t36 (.int .i64 0) fun v => k v w) w fun t37 w =>
      pickQ t34 (.bool true) t37 fun t38 =>
      gd t38 true (fun k => callW Tryd.prog (.func (.func 14) #[] #[]) [] w k) w fun t40 w =>
      pickQ t38 t40 (.bool false) fun t41 =>
      R (.returned t41) w
    ) (
      S12L0 t0 t1 t21 R w
    )
  )

def A12 : Ann where
  live := fun
    | 0 => [7, 8]
    | _ => []
  wr := fun
    | 0 => fun i => Nat.beq i 4 || (Nat.ble 7 i && Nat.ble i 12) || (Nat.ble 42 i && Nat.ble i 102)
    | _ => fun _ => false
  sched := fun
    | 10 => (.cls (.take 0 (.take 1 (.take 2 (.take 3 (.take 4 (.take 5 (.take 6 (.take 7 (.take 8 (.take 9 (.take 10 (.take 11 (.alt 12 (.take 13 (.take 14 (.take 15 (.eff 16 (.eff 17 (.take 18 .done)))))) (.alt 16 (.eff 12 (.take 13 (.take 14 (.take 15 (.eff 17 (.take 18 .done)))))) .nomore)))))))))))))))
    | 14 => (.take 0 (.take 1 (.take 2 (.take 3 (.take 4 (.take 5 (.take 6 (.take 7 (.take 8 (.take 9 .done))))))))))
    | _ => .done

set_option maxRecDepth 100000 in
theorem ok12 : (codeOk Tryd.f12.ntmps A12 (Tryd.f12.body.getD .skip) 0 && Nat.ble 2 Tryd.f12.ntmps) = true := by kernel_rfl
set_option maxRecDepth 100000 in
theorem lift12 {t0 t1 : Value} {w : World} {R : Ending → World → Prop} (h : S12 t0 t1 w R) : Calls Tryd.prog 12 #[t0, t1] w R :=
  calls_of_cw (fn := Tryd.f12) (c := Tryd.f12.body.getD .skip) A12 mixes Tryd.func12 (by kernel_rfl) ok12
    ((by kernel_rfl : (S12 t0 t1 w R) = cw Tryd.prog A12 (Tryd.f12.body.getD .skip) 0 (bodyQ Tryd.prog Tryd.f12 R) (frOf #[t0, t1]) w).mp h)

def S13L0 (t0 t1 t9 t11 : Value) (R : Ending → World → Prop) (w : World) : Prop :=
  Loop2 t0 t1 w fun _ t13 t14 w next =>
    binQ Tryd.prog w .neq 3 true t14 (.int .i64 0) fun t69 =>
    condW t69 (
      Drew w fun w =>
      binQ Tryd.prog w .rem 3 false t13 t14 fun t73 =>
      next t14 t73 w
    ) (
      Drew w fun w =>
      ldN 2 w t9 fun t74 =>
      binQ Tryd.prog w .quo 3 false t1 t13 fun t77 =>
      binQ Tryd.prog w .quo 3 false t0 t13 fun t80 =>
      bdQ Tryd.prog 58 [(0, t77), (1, t80)] fun t81 =>
      binQ Tryd.prog w .eql 58 false t74 t81 fun t82 =>
      gdQ t82 true (fun k => fa1 t11 1 k) fun t84 =>
      gdQ t82 true (fun k => ld1 w t84 k) fun t85 =>
      gdQ t82 true (fun k => k t0) fun t86 =>
      gdQ t82 true (fun k => k t13) fun t87 =>
      gdQ t82 true (fun k => binQ Tryd.prog w .quo 3 false t86 t87 k) fun t88 =>
      gdQ t82 true (fun k => binQ Tryd.prog w .eql 3 false t85 t88 k) fun t89 =>
      pickQ t82 t89 (.bool false) fun t90 =>
      gdQ t90 true (fun k => fa1 t11 2 k) fun t92 =>
      gdQ t90 true (fun k => ld1 w t92 k) fun t93 =>
      gdQ t90 true (fun k => k t1) fun t94 =>
      gdQ t90 true (fun k => k t13) fun t95 =>
      gdQ t90 true (fun k => binQ Tryd.prog w .quo 3 false t94 t95 k) fun t96 =>
      gdQ t90 true (fun k => binQ Tryd.prog w .eql 3 false t93 t96 k) fun t97 =>
      pickQ t90 t97 (.bool false) fun t98 =>
      gd t98 true (fun k => callW Tryd.prog (.func (.func 14) #[] #[]) [] w k) w <| keepB w fun t100 w =>
      pickQ t98 t100 (.bool false) fun t101 =>
      R (.returned t101) w
    )

def S13 (t0 t1 : Value) (w : World) (R : Ending → World → Prop) : Prop :=
  callW Tryd.prog (.func (.func 34) #[] #[]) [t0, t1] w fun t18 w =>
  exQ t18 0 fun t19 =>
  exQ t18 1 fun t20 =>
  binQ Tryd.prog w .neq 24 true t20 (.int .i64 0) fun t22 =>
  condW t22 (
    ln1 t19 fun t24 =>
    binQ Tryd.prog w .eql 3 true t24 (.int .i64 0) fun t25 =>
    gd t25 true (fun k => callW Tryd.prog (.func (.func 14) #[] #[]) [] w k) w fun t27 w =>
    pickQ t25 t27 (.bool false) fun t28 =>
    R (.returned t28) w
  ) (
    callW Tryd.prog (.func (.func 17) #[] #[]) [t0, t1, t19] w fun t33 w =>
    exQ t33 0 fun t34 =>
    exQ t33 1 fun t35 =>
    exQ t33 2 fun t36 =>
    binQ Tryd.prog w .neq 24 true t36 (.int .i64 0) fun t38 =>
    condW t38 (
      binQ Tryd.prog w .eql 24 true t36 (.int .i64 8) fun t40 =>
      gd t40 true (fun k => callW Tryd.prog (.func (.func 14) #[] #[]) [] w k) w fun t42 w =>
      pickQ t40 t42 (.bool false) fun t43 =>
      R (.returned t43) w
    ) (
      binQ Tryd.prog w .sub 3 true t34 (.int .i64 1) fun t48 =>
      callW Tryd.prog (.func (.func 36) #[] #[]) [t34, t35, (.int .i64 0), t48] w fun t49 w =>
      exQ t49 0 fun t50 =>
      exQ t49 1 fun t51 =>
      boxW 58 (.agg #[(.int .i64 0), (.int .i64 0)]) w fun t9 w =>
      stW Tryd.prog 58 t9 t50 w fun w =>
      binQ Tryd.prog w .sub 3 true t34 (.int .i64 1) fun t56 =>
      callW Tryd.prog (.func (.func 22) #[] #[]) [t34, t35, (.int .i64 0), t56] w fun t57 w =>
      exQ t57 0 fun t58 =>
      exQ t57 1 fun t59 =>
      boxW 36 (.agg #[(.slice none 0 0), (.int .i64 0), (.int .i64 0)]) w fun t11 w =>
      stW Tryd.prog 36 t11 t58 w fun w =>
      binQ Tryd.prog w .neq 24 true t51 (.int .i64 0) fun t61 =>
      gd t61 false (fun k => k t59 w) w fun t63 w =>
      gd t61 false (fun k => binQ Tryd.prog w .neq 24 true t63 (.int .i64 0) fun v => k v w) w fun t64 w =>
      pickQ t61 (.bool true) t64 fun t65 =>
      condW t65 (
        R (.returned (.bool false)) w
      ) (
        S13L0 t0 t1 t9 t11 R w
      )
    )
  )

def A13 : Ann where
  live := fun
    | 0 => [13, 14]
    | _ => []
  wr := fun
    | 0 => fun i => (Nat.ble 13 i && Nat.ble i 14) || (Nat.ble 68 i && Nat.ble i 73)
    | _ => fun _ => false
  sched := fun
    | 13 => (.take 0 (.take 1 (.take 2 (.take 3 (.take 4 (.take 5 .done))))))
    | 14 => (.take 0 (.take 1 (.take 2 (.take 3 (.take 4 (.take 5 (.take 6 (.take 7 (.take 8 (.take 9 (.take 10 (.take 11 (.take 12 (.take 13 (.take 14 (.take 15 (.take 16 (.take 17 (.take 18 (.take 19 (.take 20 (.take 21 (.take 22 (.take 23 (.take 24 (.take 25 (.eff 26 (.take 27 (.take 28 .done)))))))))))))))))))))))))))))
    | _ => .done

set_option maxRecDepth 100000 in
theorem ok13 : (codeOk Tryd.f13.ntmps A13 (Tryd.f13.body.getD .skip) 0 && Nat.ble 2 Tryd.f13.ntmps) = true := by kernel_rfl
set_option maxRecDepth 100000 in
theorem lift13 {t0 t1 : Value} {w : World} {R : Ending → World → Prop} (h : S13 t0 t1 w R) : Calls Tryd.prog 13 #[t0, t1] w R :=
  calls_of_cw (fn := Tryd.f13) (c := Tryd.f13.body.getD .skip) A13 mixes Tryd.func13 (by kernel_rfl) ok13
    ((by kernel_rfl : (S13 t0 t1 w R) = cw Tryd.prog A13 (Tryd.f13.body.getD .skip) 0 (bodyQ Tryd.prog Tryd.f13 R) (frOf #[t0, t1]) w).mp h)

def S3 (t0 t1 t2 : Value) (w : World) (R : Ending → World → Prop) : Prop :=
  ln1 t2 fun t17 =>
  binQ Tryd.prog w .gtr 3 true t17 (.int .i64 40) fun t18 =>
  condW t18 (
    callW Tryd.prog (.func (.func 14) #[] #[]) [] w fun t19 w =>
    R (.returned t19) w
  ) (
    bsW Tryd.prog 22 0 [] w fun t20 w =>
    semW Tryd.prog (apS [22, 22] 22 [t20, t2]) w fun t22 w =>
    callW Tryd.prog (.func (.func 15) #[] #[]) [t0, t1, t22] w fun t27 w =>
    exQ t27 0 fun t28 =>
    exQ t27 1 fun t29 =>
    callW Tryd.prog (.func (.func 16) #[] #[]) [t0, t1, t2] w fun t34 w =>
    exQ t34 0 fun t35 =>
    exQ t34 1 fun t36 =>
    binQ Tryd.prog w .neq 4 false t28 t35 fun t39 =>
    gd t39 false (fun k => k t29 w) w fun t41 w =>
    gd t39 false (fun k => k t36 w) w fun t42 w =>
    gd t39 false (fun k => binQ Tryd.prog w .neq 24 false t41 t42 fun v => k v w) w fun t43 w =>
    pickQ t39 (.bool true) t43 fun t44 =>
    condW t44 (
      R (.returned (.bool false)) w
    ) (
      callW Tryd.prog (.func (.func 17) #[] #[]) [t0, t1, t22] w fun t49 w =>
      exQ t49 0 fun t50 =>
      exQ t49 1 fun t51 =>
      exQ t49 2 fun t52 =>
      callW Tryd.prog (.func (.func 18) #[] #[]) [t0, t1, t2] w fun t57 w =>
      exQ t57 0 fun t58 =>
      exQ t57 1 fun t59 =>
      exQ t57 2 fun t60 =>
      binQ Tryd.prog w .eql 3 false t50 t58 fun t63 =>
      gd t63 true (fun k => k t51 w) w fun t65 w =>
      gd t63 true (fun k => k t59 w) w fun t66 w =>
      gd t63 true (fun k => callW Tryd.prog (.func (.func 19) #[] #[]) [t65, t66] w k) w fun t67 w =>
      pickQ t63 t67 (.bool false) fun t68 =>
      gd t68 true (fun k => k t52 w) w fun t70 w =>
      gd t68 true (fun k => k t60 w) w fun t71 w =>
      gd t68 true (fun k => binQ Tryd.prog w .eql 24 false t70 t71 fun v => k v w) w fun t72 w =>
      pickQ t68 t72 (.bool false) fun t73 =>
      gd t73 true (fun k => k t22 w) w fun t75 w =>
      gd t73 true (fun k => k t2 w) w fun t76 w =>
      gd t73 true (fun k => callW Tryd.prog (.func (.func 20) #[] #[]) [t75, t76] w k) w fun t77 w =>
      pickQ t73 t77 (.bool false) fun t78 =>
      gd t78 true (fun k => callW Tryd.prog (.func (.func 14) #[] #[]) [] w k) w fun t80 w =>
      pickQ t78 t80 (.bool false) fun t81 =>
      R (.returned t81) w
    )
  )

def A3 : Ann where
  live := fun _ => []
  wr := fun _ _ => false
  sched := fun _ => .done

set_option maxRecDepth 100000 in
theorem ok3 : (codeOk Tryd.f3.ntmps A3 (Tryd.f3.body.getD .skip) 0 && Nat.ble 3 Tryd.f3.ntmps) = true := by kernel_rfl
set_option maxRecDepth 100000 in
theorem lift3 {t0 t1 t2 : Value} {w : World} {R : Ending → World → Prop} (h : S3 t0 t1 t2 w R) : Calls Tryd.prog 3 #[t0, t1, t2] w R :=
  calls_of_cw (fn := Tryd.f3) (c := Tryd.f3.body.getD .skip) A3 mixes Tryd.func3 (by kernel_rfl) ok3
    ((by kernel_rfl : (S3 t0 t1 t2 w R) = cw Tryd.prog A3 (Tryd.f3.body.getD .skip) 0 (bodyQ Tryd.prog Tryd.f3 R) (frOf #[t0, t1, t2]) w).mp h)

def S5L0 (t0 t1 t2 t10 : Value) (R : Ending → World → Prop) (w : World) : Prop :=
  Loop1 (.int .i64 0) w fun _ t12 w next =>
    ln1 t2 fun t69 =>
    binQ Tryd.prog w .lss 3 false t12 t69 fun t70 =>
    condW t70 (
      Drew w fun w =>
      fa1 t10 0 fun t73 =>
      ld1 w t73 fun t74 =>
      iaS 1 t74 t12 fun t76 =>
      ld1 w t76 fun t77 =>
      binQ Tryd.prog w .mul 3 false t77 t0 fun t79 =>
      iaS 3 t2 t12 fun t82 =>
      fa1 t82 2 fun t83 =>
      ld1 w t83 fun t84 =>
      fa1 t10 1 fun t85 =>
      ld1 w t85 fun t86 =>
      binQ Tryd.prog w .mul 3 false t84 t86 fun t87 =>
      binQ Tryd.prog w .neq 3 false t79 t87 fun t88 =>
      gdQ t88 false (fun k => fa1 t10 0 k) fun t90 =>
      gdQ t88 false (fun k => ld1 w t90 k) fun t91 =>
      gdQ t88 false (fun k => k t12) fun t92 =>
      gdQ t88 false (fun k => iaS 1 t91 t92 k) fun t93 =>
      gdQ t88 false (fun k => ld1 w t93 k) fun t94 =>
      gdQ t88 false (fun k => k t1) fun t95 =>
      gdQ t88 false (fun k => binQ Tryd.prog w .mul 3 false t94 t95 k) fun t96 =>
      gdQ t88 false (fun k => k t2) fun t97 =>
      gdQ t88 false (fun k => k t12) fun t98 =>
      gdQ t88 false (fun k => iaS 3 t97 t98 k) fun t99 =>
      gdQ t88 false (fun k => fa1 t99 2 k) fun t100 =>
      gdQ t88 false (fun k => ld1 w t100 k) fun t101 =>
      gdQ t88 false (fun k => fa1 t10 2 k) fun t102 =>
      gdQ t88 false (fun k => ld1 w t102 k) fun t103 =>
      gdQ t88 false (fun k => binQ Tryd.prog w .mul 3 false t101 t103 k) fun t104 =>
      gdQ t88 false (fun k => binQ Tryd.prog w .neq 3 false t96 t104 k) fun t105 =>
      pickQ t88 (.bool true) t105 fun t106 =>
      condW t106 (
        R (.returned (.bool false)) w
      ) (
        binQ Tryd.prog w .add 3 true t12 (.int .i64 1) fun t72 =>
        next t72 w
      )
    ) (
      callW Tryd.prog (.func (.func 14) #[] #[]) [] w fun t107 w =>
      R (.returned t107) w
    )

def S5 (t0 t1 t2 : Value) (w : World) (R : Ending → World → Prop) : Prop :=
  ln1 t2 fun t14 =>
  binQ Tryd.prog w .gtr 3 true t14 (.int .i64 40) fun t15 =>
  condW t15 (
    callW Tryd.prog (.func (.func 14) #[] #[]) [] w fun t16 w =>
    R (.returned t16) w
  ) (
    callW Tryd.prog (.func (.func 17) #[] #[]) [t0, t1, t2] w fun t21 w =>
    exQ t21 0 fun t22 =>
    exQ t21 1 fun t23 =>
    exQ t21 2 fun t24 =>
    binQ Tryd.prog w .neq 24 true t24 (.int .i64 0) fun t26 =>
    condW t26 (
      binQ Tryd.prog w .eql 3 true t22 (.int .i64 0) fun t28 =>
      gd t28 true (fun k => k t23 w) w fun t30 w =>
      gd t28 true (fun k => ln1 t30 fun v => k v w) w fun t31 w =>
      gd t28 true (fun k => binQ Tryd.prog w .eql 3 true t31 (.int .i64 0) fun v => k v w) w fun t32 w =>
      pickQ t28 t32 (.bool false) fun t33 =>
      gd t33 true (fun k => callW Tryd.prog (.func (.func 14) #[] #[]) [] w k) w fun t35 w =>
      pickQ t33 t35 (.bool false) fun t36 =>
      R (.returned t36) w
    ) (
      binQ Tryd.prog w .sub 3 true t22 (.int .i64 1) fun t41 =>
      callW Tryd.prog (.func (.func 22) #[] #[]) [t22, t23, (.int .i64 0), t41] w fun t42 w =>
      exQ t42 0 fun t43 =>
      exQ t42 1 fun t44 =>
      boxW 36 (.agg #[(.slice none 0 0), (.int .i64 0), (.int .i64 0)]) w fun t10 w =>
      stW Tryd.prog 36 t10 t43 w fun w =>
      binQ Tryd.prog w .neq 24 true t44 (.int .i64 0) fun t46 =>
      gd t46 false (fun k => fa1 t10 0 fun v => k v w) w fun t48 w =>
      gd t46 false (fun k => ld1 w t48 fun v => k v w) w fun t49 w =>
      gd t46 false (fun k => ln1 t49 fun v => k v w) w fun t50 w =>
      gd t46 false (fun k => k t2 w) w fun t51 w =>
      gd t46 false (fun k => ln1 t51 fun v => k v w) w fun t52 w =>
      gd t46 false (fun k => binQ Tryd.prog w .neq 3 false t50 t52 fun v => k v w) w fun t53 w =>
      pickQ t46 (.bool true) t53 fun t54 =>
      gd t54 false (fun k => k t23 w) w fun t56 w =>
      gd t54 false (fun k => ln1 t56 fun v => k v w) w fun t57 w =>
      gd t54 false (fun k => k t2 w) w fun t58 w =>
      gd t54 false (fun k => ln1 t58 fun v => k v w) w fun t59 w =>
      gd t54 false (fun k => binQ Tryd.prog w .neq 3 false t57 t59 fun v => k v w) w fun t60 w =>
      pickQ t54 (.bool true) t60 fun t61 =>
      gd t61 false (fun k => fa1 t10 1 fun v => k v w) w fun t63 w =>
      gd t61 false (fun k => ld1 w t63 fun v => k v w) w fun t64 w =>
      gd t61 false (fun k => binQ Tryd.prog w .lss 3 true t64 (.int .i64 1) fun v => k v w) w fun t65 w =>
      pickQ t61 (.bool true) t65 fun t66 =>
      condW t66 (
        R (.returned (.bool false)) w
      ) (
        S5L0 t0 t1 t2 t10 R w
      )
    )
  )

def A5 : Ann where
  live := fun
    | 0 => [12]
    | _ => []
  wr := fun
    | 0 => fun i => Nat.beq i 6 || Nat.beq i 12 || (Nat.ble 67 i && Nat.ble i 106)
    | _ => fun _ => false
  sched := fun
    | 12 => (.take 0 (.take 1 (.take 2 (.take 3 (.take 4 (.take 5 (.take 6 (.take 7 (.take 8 (.take 9 (.take 10 (.take 11 (.take 12 (.take 13 (.take 14 (.take 15 (.take 16 (.take 17 (.take 18 (.take 19 (.take 20 (.take 21 (.take 22 (.take 23 (.take 24 (.take 25 (.take 26 (.take 27 (.take 28 (.take 29 (.take 30 (.take 31 (.take 32 (.take 33 .done))))))))))))))))))))))))))))))))))
    | _ => .done

set_option maxRecDepth 100000 in
theorem ok5 : (codeOk Tryd.f5.ntmps A5 (Tryd.f5.body.getD .skip) 0 && Nat.ble 3 Tryd.f5.ntmps) = true := by kernel_rfl
set_option maxRecDepth 100000 in
theorem lift5 {t0 t1 t2 : Value} {w : World} {R : Ending → World → Prop} (h : S5 t0 t1 t2 w R) : Calls Tryd.prog 5 #[t0, t1, t2] w R :=
  calls_of_cw (fn := Tryd.f5) (c := Tryd.f5.body.getD .skip) A5 mixes Tryd.func5 (by kernel_rfl) ok5
    ((by kernel_rfl : (S5 t0 t1 t2 w R) = cw Tryd.prog A5 (Tryd.f5.body.getD .skip) 0 (bodyQ Tryd.prog Tryd.f5 R) (frOf #[t0, t1, t2]) w).mp h)

def S27 (t0 t1 t2 t3 : Value) (w : World) (R : Ending → World → Prop) : Prop :=
  callW Tryd.prog (.func (.func 31) #[] #[]) [t0, t1, t2, t3] w fun t15 w =>
  binQ Tryd.prog w .neq 24 true t15 (.int .i64 0) fun t17 =>
  condW t17 (
    R (.returned (.tuple #[(.int .i64 0), t15])) w
  ) (
    binQ Tryd.prog w .eql 3 true t0 (.int .i64 2) fun t20 =>
    condW t20 (
      R (.returned (.tuple #[(.int .i64 1), (.int .i64 0)])) w
    ) (
      binQ Tryd.prog w .sub 3 true t0 (.int .i64 1) fun t22 =>
      callW Tryd.prog (.func (.func 60) #[] #[]) [t0, t1, t2, t3] w fun t27 w =>
      callW Tryd.prog (.func (.func 59) #[] #[]) [t22, t27] w fun t28 w =>
      ln1 t28 fun t29 =>
      R (.returned (.tuple #[t29, (.int .i64 0)])) w
    )
  )

def A27 : Ann where
  live := fun _ => []
  wr := fun _ _ => false
  sched := fun _ => .done

set_option maxRecDepth 100000 in
theorem ok27 : (codeOk Tryd.f27.ntmps A27 (Tryd.f27.body.getD .skip) 0 && Nat.ble 4 Tryd.f27.ntmps) = true := by kernel_rfl
set_option maxRecDepth 100000 in
theorem lift27 {t0 t1 t2 t3 : Value} {w : World} {R : Ending → World → Prop} (h : S27 t0 t1 t2 t3 w R) : Calls Tryd.prog 27 #[t0, t1, t2, t3] w R :=
  calls_of_cw (fn := Tryd.f27) (c := Tryd.f27.body.getD .skip) A27 mixes Tryd.func27 (by kernel_rfl) ok27
    ((by kernel_rfl : (S27 t0 t1 t2 t3 w R) = cw Tryd.prog A27 (Tryd.f27.body.getD .skip) 0 (bodyQ Tryd.prog Tryd.f27 R) (frOf #[t0, t1, t2, t3]) w).mp h)

def S28L1 (t13 t14 t57 : Value) (next : Value → World → Prop) (w : World) : Prop :=
  Loop1 (.int .i64 0) w fun _ t16 w next_2 =>
    ln1 t57 fun t60 =>
    binQ Tryd.prog w .lss 3 false t16 t60 fun t61 =>
    condW t61 (
      Drew w fun w =>
      fa1 t13 0 fun t64 =>
      ld1 w t64 fun t65 =>
      iaS 1 t65 t16 fun t67 =>
      ld1 w t67 fun t68 =>
      iaS 1 t57 t16 fun t71 =>
      ld1 w t71 fun t72 =>
      binQ Tryd.prog w .add 3 false t68 t72 fun t73 =>
      iaS 1 t65 t16 fun t74 =>
      stW Tryd.prog 3 t74 t73 w fun w =>
      binQ Tryd.prog w .add 3 true t16 (.int .i64 1) fun t63 =>
      next_2 t63 w
    ) (
      binQ Tryd.prog w .add 3 true t14 (.int .i64 1) fun t48 =>
      next t48 w
    )

def S28L0 (t0 t1 t2 t3 t8 t13 t31 : Value) (R : Ending → World → Prop) (w : World) : Prop :=
  Loop1 (.int .i64 0) w fun _ t14 w next =>
    ln1 t31 fun t45 =>
    binQ Tryd.prog w .lss 3 false t14 t45 fun t46 =>
    condW t46 (
      iaS 1 t31 t14 fun t53 =>
      ld1 w t53 fun t54 =>
      callW Tryd.prog (.func (.func 61) #[] #[]) [t0, t1, t54, t2, t3] w fun t57 w =>
      S28L1 t13 t14 t57 next w
    ) (
      ldN 3 w t13 fun t75 =>
      stW Tryd.prog 36 t8 t75 w fun w =>
      ldN 3 w t8 fun r_3 =>
      R (.returned (.tuple #[r_3, (.int .i64 0)])) w
    )

def S28 (t0 t1 t2 t3 : Value) (w : World) (R : Ending → World → Prop) : Prop :=
  boxW 36 (.agg #[(.slice none 0 0), (.int .i64 0), (.int .i64 0)]) w fun t8 w =>
  callW Tryd.prog (.func (.func 27) #[] #[]) [t0, t1, t2, t3] w fun t22 w =>
  exQ t22 0 fun t23 =>
  exQ t22 1 fun t24 =>
  binQ Tryd.prog w .neq 24 true t24 (.int .i64 0) fun t26 =>
  condW t26 (
    bdQ Tryd.prog 36 [] fun t27 =>
    stW Tryd.prog 36 t8 t27 w fun w =>
    ldN 3 w t8 fun r =>
    R (.returned (.tuple #[r, t24])) w
  ) (
    callW Tryd.prog (.func (.func 59) #[] #[]) [t0, t1] w fun t31 w =>
    ln1 t31 fun t33 =>
    binQ Tryd.prog w .eql 3 true t33 (.int .i64 0) fun t34 =>
    condW t34 (
      bdQ Tryd.prog 36 [] fun t35 =>
      stW Tryd.prog 36 t8 t35 w fun w =>
      ldN 3 w t8 fun r_2 =>
      R (.returned (.tuple #[r_2, (.int .i64 10)])) w
    ) (
      ln1 t1 fun t37 =>
      mkW Tryd.prog 34 t37 t37 w fun t38 w =>
      ln1 t31 fun t40 =>
      bdQ Tryd.prog 36 [(0, t38), (1, t40), (2, t23)] fun t42 =>
      boxW 36 (.agg #[(.slice none 0 0), (.int .i64 0), (.int .i64 0)]) w fun t13 w =>
      stW Tryd.prog 36 t13 t42 w fun w =>
      S28L0 t0 t1 t2 t3 t8 t13 t31 R w
    )
  )

def A28 : Ann where
  live := fun
    | 0 => [14]
    | 2 => [16]
    | _ => []
  wr := fun
    | 0 => fun i => (Nat.ble 14 i && Nat.ble i 16) || (Nat.ble 43 i && Nat.ble i 74)
    | 2 => fun i => Nat.beq i 16 || (Nat.ble 58 i && Nat.ble i 74)
    | _ => fun _ => false
  sched := fun
    | 15 => (.take 0 (.take 1 (.take 2 (.take 3 (.take 4 (.take 5 (.take 6 (.take 7 (.take 8 (.take 9 (.take 10 (.bar 11 .done))))))))))))
    | _ => .done

set_option maxRecDepth 100000 in
theorem ok28 : (codeOk Tryd.f28.ntmps A28 (Tryd.f28.body.getD .skip) 0 && Nat.ble 4 Tryd.f28.ntmps) = true := by kernel_rfl
set_option maxRecDepth 100000 in
theorem lift28 {t0 t1 t2 t3 : Value} {w : World} {R : Ending → World → Prop} (h : S28 t0 t1 t2 t3 w R) : Calls Tryd.prog 28 #[t0, t1, t2, t3] w R :=
  calls_of_cw (fn := Tryd.f28) (c := Tryd.f28.body.getD .skip) A28 mixes Tryd.func28 (by kernel_rfl) ok28
    ((by kernel_rfl : (S28 t0 t1 t2 t3 w R) = cw Tryd.prog A28 (Tryd.f28.body.getD .skip) 0 (bodyQ Tryd.prog Tryd.f28 R) (frOf #[t0, t1, t2, t3]) w).mp h)

def S25 (t0 t1 : Value) (w : World) (R : Ending → World → Prop) : Prop :=
  callW Tryd.prog (.func (.func 30) #[] #[]) [t0, t1] w fun t9 w =>
  binQ Tryd.prog w .neq 24 true t9 (.int .i64 0) fun t11 =>
  condW t11 (
    R (.returned (.tuple #[(.int .i64 0), t9])) w
  ) (
    callW Tryd.prog (.func (.func 59) #[] #[]) [t0, t1] w fun t15 w =>
    ln1 t15 fun t16 =>
    R (.returned (.tuple #[t16, (.int .i64 0)])) w
  )

def A25 : Ann where
  live := fun _ => []
  wr := fun _ _ => false
  sched := fun _ => .done

set_option maxRecDepth 100000 in
theorem ok25 : (codeOk Tryd.f25.ntmps A25 (Tryd.f25.body.getD .skip) 0 && Nat.ble 2 Tryd.f25.ntmps) = true := by kernel_rfl
set_option maxRecDepth 100000 in
theorem lift25 {t0 t1 : Value} {w : World} {R : Ending → World → Prop} (h : S25 t0 t1 w R) : Calls Tryd.prog 25 #[t0, t1] w R :=
  calls_of_cw (fn := Tryd.f25) (c := Tryd.f25.body.getD .skip) A25 mixes Tryd.func25 (by kernel_rfl) ok25
    ((by kernel_rfl : (S25 t0 t1 w R) = cw Tryd.prog A25 (Tryd.f25.body.getD .skip) 0 (bodyQ Tryd.prog Tryd.f25 R) (frOf #[t0, t1]) w).mp h)

def S37 (t0 t1 : Value) (w : World) (R : Ending → World → Prop) : Prop :=
  boxW 58 t0 w fun t2 w =>
  boxW 58 t1 w fun t3 w =>
  fa1 t2 0 fun t5 =>
  ld1 w t5 fun t6 =>
  fa1 t3 1 fun t7 =>
  ld1 w t7 fun t8 =>
  binQ Tryd.prog w .mul 3 false t6 t8 fun t9 =>
  fa1 t3 0 fun t10 =>
  ld1 w t10 fun t11 =>
  fa1 t2 1 fun t12 =>
  ld1 w t12 fun t13 =>
  binQ Tryd.prog w .mul 3 false t11 t13 fun t14 =>
  binQ Tryd.prog w .leq 3 false t9 t14 fun t15 =>
  R (.returned t15) w

def A37 : Ann where
  live := fun _ => []
  wr := fun _ _ => false
  sched := fun _ => .done

set_option maxRecDepth 100000 in
theorem ok37 : (codeOk Tryd.f37.ntmps A37 (Tryd.f37.body.getD .skip) 0 && Nat.ble 2 Tryd.f37.ntmps) = true := by kernel_rfl
set_option maxRecDepth 100000 in
theorem lift37 {t0 t1 : Value} {w : World} {R : Ending → World → Prop} (h : S37 t0 t1 w R) : Calls Tryd.prog 37 #[t0, t1] w R :=
  calls_of_cw (fn := Tryd.f37) (c := Tryd.f37.body.getD .skip) A37 mixes Tryd.func37 (by kernel_rfl) ok37
    ((by kernel_rfl : (S37 t0 t1 w R) = cw Tryd.prog A37 (Tryd.f37.body.getD .skip) 0 (bodyQ Tryd.prog Tryd.f37 R) (frOf #[t0, t1]) w).mp h)

def S38 (t0 t1 t2 t3 : Value) (w : World) (R : Ending → World → Prop) : Prop :=
  boxW 58 (.agg #[(.int .i64 0), (.int .i64 0)]) w fun t8 w =>
  callW Tryd.prog (.func (.func 28) #[] #[]) [t0, t1, t2, t3] w fun t17 w =>
  exQ t17 0 fun t18 =>
  exQ t17 1 fun t19 =>
  boxW 36 (.agg #[(.slice none 0 0), (.int .i64 0), (.int .i64 0)]) w fun t10 w =>
  stW Tryd.prog 36 t10 t18 w fun w =>
  binQ Tryd.prog w .neq 24 true t19 (.int .i64 0) fun t21 =>
  condW t21 (
    bdQ Tryd.prog 58 [] fun t22 =>
    stW Tryd.prog 58 t8 t22 w fun w =>
    ldN 2 w t8 fun r =>
    R (.returned (.tuple #[r, t19])) w
  ) (
    fa1 t10 2 fun t24 =>
    ld1 w t24 fun t25 =>
    fa1 t10 1 fun t26 =>
    ld1 w t26 fun t27 =>
    callW Tryd.prog (.func (.func 63) #[] #[]) [t25, t27] w fun t28 w =>
    stW Tryd.prog 58 t8 t28 w fun w =>
    ldN 2 w t8 fun r_2 =>
    R (.returned (.tuple #[r_2, (.int .i64 0)])) w
  )

def A38 : Ann where
  live := fun _ => []
  wr := fun _ _ => false
  sched := fun _ => .done

set_option maxRecDepth 100000 in
theorem ok38 : (codeOk Tryd.f38.ntmps A38 (Tryd.f38.body.getD .skip) 0 && Nat.ble 4 Tryd.f38.ntmps) = true := by kernel_rfl
set_option maxRecDepth 100000 in
theorem lift38 {t0 t1 t2 t3 : Value} {w : World} {R : Ending → World → Prop} (h : S38 t0 t1 t2 t3 w R) : Calls Tryd.prog 38 #[t0, t1, t2, t3] w R :=
  calls_of_cw (fn := Tryd.f38) (c := Tryd.f38.body.getD .skip) A38 mixes Tryd.func38 (by kernel_rfl) ok38
    ((by kernel_rfl : (S38 t0 t1 t2 t3 w R) = cw Tryd.prog A38 (Tryd.f38.body.getD .skip) 0 (bodyQ Tryd.prog Tryd.f38 R) (frOf #[t0, t1, t2, t3]) w).mp h)

def S40L0 (t2 t6 t30 : Value) (R : Ending → World → Prop) (w : World) : Prop :=
  Loop2 (.int .i64 0) (.int .i64 0) w fun _ t10 t11 w next =>
    ln1 t30 fun t37 =>
    binQ Tryd.prog w .lss 3 false t11 t37 fun t38 =>
    condW t38 (
      iaS 1 t30 t11 fun t44 =>
      ld1 w t44 fun t45 =>
      binQ Tryd.prog w .shr 3 false t45 t2 fun t47 =>
      binQ Tryd.prog w .rem 3 true t47 (.int .i64 2) fun t48 =>
      binQ Tryd.prog w .add 3 false t10 t48 fun t49 =>
      binQ Tryd.prog w .add 3 true t11 (.int .i64 1) fun t40 =>
      next t49 t40 w
    ) (
      ln1 t30 fun t52 =>
      callW Tryd.prog (.func (.func 63) #[] #[]) [t10, t52] w fun t53 w =>
      stW Tryd.prog 58 t6 t53 w fun w =>
      ldN 2 w t6 fun r_4 =>
      R (.returned (.tuple #[r_4, (.int .i64 0)])) w
    )

def S40 (t0 t1 t2 : Value) (w : World) (R : Ending → World → Prop) : Prop :=
  boxW 58 (.agg #[(.int .i64 0), (.int .i64 0)]) w fun t6 w =>
  callW Tryd.prog (.func (.func 30) #[] #[]) [t0, t1] w fun t14 w =>
  binQ Tryd.prog w .neq 24 true t14 (.int .i64 0) fun t16 =>
  condW t16 (
    bdQ Tryd.prog 58 [] fun t17 =>
    stW Tryd.prog 58 t6 t17 w fun w =>
    ldN 2 w t6 fun r =>
    R (.returned (.tuple #[r, t14])) w
  ) (
    binQ Tryd.prog w .lss 3 true t2 (.int .i64 0) fun t20 =>
    gd t20 false (fun k => k t2 w) w fun t22 w =>
    gd t20 false (fun k => k t1 w) w fun t23 w =>
    gd t20 false (fun k => ln1 t23 fun v => k v w) w fun t24 w =>
    gd t20 false (fun k => binQ Tryd.prog w .geq 3 false t22 t24 fun v => k v w) w fun t25 w =>
    pickQ t20 (.bool true) t25 fun t26 =>
    condW t26 (
      bdQ Tryd.prog 58 [] fun t27 =>
      stW Tryd.prog 58 t6 t27 w fun w =>
      ldN 2 w t6 fun r_2 =>
      R (.returned (.tuple #[r_2, (.int .i64 6)])) w
    ) (
      callW Tryd.prog (.func (.func 59) #[] #[]) [t0, t1] w fun t30 w =>
      ln1 t30 fun t32 =>
      binQ Tryd.prog w .eql 3 true t32 (.int .i64 0) fun t33 =>
      condW t33 (
        bdQ Tryd.prog 58 [] fun t34 =>
        stW Tryd.prog 58 t6 t34 w fun w =>
        ldN 2 w t6 fun r_3 =>
        R (.returned (.tuple #[r_3, (.int .i64 10)])) w
      ) (
        S40L0 t2 t6 t30 R w
      )
    )
  )

def A40 : Ann where
  live := fun
    | 0 => [10, 11]
    | _ => []
  wr := fun
    | 0 => fun i => (Nat.ble 10 i && Nat.ble i 11) || (Nat.ble 35 i && Nat.ble i 49)
    | _ => fun _ => false
  sched := fun _ => .done

set_option maxRecDepth 100000 in
theorem ok40 : (codeOk Tryd.f40.ntmps A40 (Tryd.f40.body.getD .skip) 0 && Nat.ble 3 Tryd.f40.ntmps) = true := by kernel_rfl
set_option maxRecDepth 100000 in
theorem lift40 {t0 t1 t2 : Value} {w : World} {R : Ending → World → Prop} (h : S40 t0 t1 t2 w R) : Calls Tryd.prog 40 #[t0, t1, t2] w R :=
  calls_of_cw (fn := Tryd.f40) (c := Tryd.f40.body.getD .skip) A40 mixes Tryd.func40 (by kernel_rfl) ok40
    ((by kernel_rfl : (S40 t0 t1 t2 w R) = cw Tryd.prog A40 (Tryd.f40.body.getD .skip) 0 (bodyQ Tryd.prog Tryd.f40 R) (frOf #[t0, t1, t2]) w).mp h)

theorem fok6 : fnOk Tryd.prog 6 = true := by kernel_rfl
theorem fok10 : fnOk Tryd.prog 10 = true := by kernel_rfl
theorem fok11 : fnOk Tryd.prog 11 = true := by kernel_rfl
theorem fok12 : fnOk Tryd.prog 12 = true := by kernel_rfl
theorem fok13 : fnOk Tryd.prog 13 = true := by kernel_rfl
theorem fok3 : fnOk Tryd.prog 3 = true := by kernel_rfl
theorem fok5 : fnOk Tryd.prog 5 = true := by kernel_rfl
theorem fok27 : fnOk Tryd.prog 27 = true := by kernel_rfl
theorem fok28 : fnOk Tryd.prog 28 = true := by kernel_rfl
theorem fok25 : fnOk Tryd.prog 25 = true := by kernel_rfl
theorem fok37 : fnOk Tryd.prog 37 = true := by kernel_rfl
theorem fok38 : fnOk Tryd.prog 38 = true := by kernel_rfl
theorem fok40 : fnOk Tryd.prog 40 = true := by kernel_rfl
end Go.Proofs.YtkdcldbedbagjaaDoor

/- Contract of the reference: Network. SquareJudges. -/
namespace Go.Proofs.YtkdcldbedbagjaaDoor
open Go.Lf Go.RowKit Go.Dt

set_option maxRecDepth 100000 in
set_option maxHeartbeats 2000000 in
theorem r18_1 {W H : Int} {L : List T3} {part : Nat → Nat} {v t30 t32 : Value} {N : Int} {w0 : World} {R : Ending → World → Prop} (d : Diss W H L) (hp : Parts L part) (hl : L.length ≤ 16) (hr : RdS w0 v L) (h : RdP w0 t30 t32 L part)
    (hR : ∀ v' w', WrAt w0.heap.size w' v' (wiresL L) → Kp w0 w' → R (.returned (.tuple #[.int .i64 N, v', .int .i64 0])) w') :
    S18L1 v (.int .i64 N) t30 t32 R w0 := by
  obtain ⟨a, cap, ev, _⟩ := hr.len
  have lnv : ∀ K : Value → Prop, ln1 v K = K (.int .i64 L.length) := fun K => by rw [ev]; rfl
  have hwl : (wiresL L).length = L.length := by simp [wiresL]
  unfold S18L1
  refine ⟨fun t15 t16 wr => ∃ i : Nat, i ≤ L.length ∧ t16 = .int .i64 i ∧ WrAt w0.heap.size wr t15 ((wiresL L).take i) ∧ Kp w0 wr, fun _ t16 _ => L.length - (intOf t16).toNat, ⟨0, by omega, rfl, RecAt.nil, Kp.refl _⟩, ?_⟩
  rintro _ t15 _ wr ⟨i, hi, rfl, hC, kr⟩
  rw [lnv]
  by_cases hlt : i < L.length
  case neg =>
    have hlt' : ¬ (i : Int) < (L.length : Int) := by omega
    rw [r_lss, decide_eq_false hlt', r_condF]
    rw [List.take_of_length_le (by omega)] at hC
    exact hR _ _ hC kr
  have hlt' : (i : Int) < (L.length : Int) := by omega
  rw [r_lss, decide_eq_true hlt', r_condT]
  obtain ⟨s1, s2⟩ := sides_two hlt
  have hwi : (wiresL L).take (i + 1) = (wiresL L).take i ++ [((lvS L (2 * i) : Int), (lvS L (2 * i + 1) : Int))] := by
    rw [take_succ' _ _ (by omega)]
    simp only [wiresL, List.getElem_map]
    unfold lvS
    rw [s1, s2, getD_lt _ _ _ hlt]
  have e1 : (2 : Int) * (i : Int) = ((2 * i : Nat) : Int) := by omega
  have e2 : ((2 * i : Nat) : Int) + 1 = ((2 * i + 1 : Nat) : Int) := by omega
  rw [r_mul _ _ (by omega) (by omega), e1]
  refine r_use fok53 (place_calls (c := 2 * i) wr d hp hl (h.kp kr) (by omega)) rfl ?_
  rintro _ w1 ⟨rfl, k1⟩
  refine ⟨_, rfl, ?_⟩
  have k01 := Kp.trans kr k1
  rw [r_mul _ _ (by omega) (by omega), e1, r_add _ _ (by omega) (by omega), e2]
  refine r_use fok53 (place_calls (c := 2 * i + 1) w1 d hp hl (h.kp k01) (by omega)) rfl ?_
  rintro _ w2 ⟨rfl, k2⟩
  refine ⟨_, rfl, ?_⟩
  have k02 := Kp.trans k01 k2
  rw [bd40]
  refine r_pushRec (x := ((lvS L (2 * i) : Int), (lvS L (2 * i + 1) : Int))) (ty := 27) slt27 wC_len rfl (bs27 _ _ _) (wC_one _) (by omega) (hC.kp (Kp.trans k1 k2)) (by rw [List.length_take]; omega) k02.size fun v' w' o1 c1 _ => ?_
  rw [r_add _ _ (by omega) (by omega)]
  exact ⟨⟨i + 1, by omega, by go_num, by rw [hwi]; exact o1, Kp.of_chg k02 c1 fun k hk => (hC.lt hk).1⟩, by simp only [intOf]; omega⟩

set_option maxRecDepth 100000 in
set_option maxHeartbeats 2000000 in
theorem rNetwork_calls {v : Value} {W H : Int} {L : List T3} (w : World) (hr : RdS w v L) :
    Calls Tryd.prog 18 #[.int .i64 W, .int .i64 H, v] w fun e w' => Kp w w' ∧ ∃ v', e = .returned (.tuple #[.int .i64 (nwN W H L), v', .int .i64 (nwE W H L)]) ∧ WrAt w.heap.size w' v' (nwW W H L) := by
  refine lift18 ?_
  unfold S18
  refine r_use fok16 (rIs_calls w hr) rfl ?_
  rintro _ w1 ⟨rfl, k1⟩
  refine ⟨_, rfl, ?_⟩
  rw [r_ex2a, r_ex2b, r_neq]
  have nothing : ∀ (w' : World) (E : Int), nwE W H L = E → E ≠ 0 → Kp w w' → Kp w w' ∧ ∃ v', Ending.returned (.tuple #[.int .i64 0, .slice none 0 0, .int .i64 E]) = .returned (.tuple #[.int .i64 (nwN W H L), v', .int .i64 (nwE W H L)]) ∧ WrAt w.heap.size w' v' (nwW W H L) := fun w' E hE h0 k => by
    unfold nwN nwW
    rw [hE, if_neg h0, if_neg h0]
    exact ⟨k, _, rfl, RecAt.nil⟩
  by_cases h0 : isE W H L = 0
  case neg =>
    rw [decide_eq_false h0, Bool.not_false, r_condT]
    exact nothing w1 _ (if_neg h0) h0 k1
  rw [decide_eq_true h0, Bool.not_true, r_condF, r_not]
  have hV : isV W H L = isB W H L := by unfold isV; rw [decide_eq_true h0, Bool.true_and]
  rw [hV]
  cases hB : isB W H L with
  | false =>
    rw [Bool.not_false, r_condT]
    exact nothing w1 10 (by unfold nwE; rw [if_pos h0, hB]; rfl) (by decide) k1
  | true =>
  rw [Bool.not_true, r_condF]
  obtain ⟨hW, hH, hl⟩ := isE_zero h0
  have hW' := of_decide_eq_true hW
  have hH' := of_decide_eq_true hH
  have d := diss_of hW hH hB
  refine r_use fok51 (sides_calls w1 (hr.kp k1) hl fun s hs => by have := d.fit s hs; omega) rfl ?_
  rintro _ w2 ⟨k2, t30, rfl, hS⟩
  refine ⟨_, rfl, ?_⟩
  have k02 := Kp.trans k1 k2
  have hSr := hS.rd t3C_len
  refine r_use fok52 (parted_calls w2 hSr hl) rfl ?_
  rintro _ w3 ⟨k3, t32, part, rfl, hI, hP⟩
  refine ⟨_, rfl, ?_⟩
  have k03 := Kp.trans k02 k3
  have hp := parts_of d hP
  have hlen := sidesR_len L
  obtain ⟨ia, ic, ei, _⟩ := RecAt.len hI
  have lni : ∀ K : Value → Prop, ln1 t32 K = K (.int .i64 (2 * L.length : Nat)) := fun K => by rw [ei, il_len]; rfl
  have hRdP : RdP w3 t30 t32 L part := ⟨hSr.kp k3, Rd.ints (RecAt.rd iC_len hI) (by rw [il_len]; omega)⟩
  have hNW : nwE W H L = if 8 < (lvsL L).length then 8 else 0 := by unfold nwE; rw [if_pos h0, if_pos hB]
  unfold S18L0
  refine ⟨fun t13 t14 wr => ∃ i : Nat, i ≤ 2 * L.length ∧ t14 = .int .i64 i ∧ t13 = .int .i64 (cntS i (fun k => decide (part k = k)) : Nat) ∧ SameW w3 wr, fun _ t14 _ => 2 * L.length - (intOf t14).toNat, ⟨0, by omega, rfl, rfl, rfl⟩, ?_⟩
  rintro _ _ _ wr ⟨i, hi, rfl, rfl, rfl⟩
  rw [lni]
  have hle := cnt_le (fun k => decide (part k = k)) i
  by_cases hlt : i < 2 * L.length
  · have hlt' : (i : Int) < ((2 * L.length : Nat) : Int) := by omega
    rw [r_lss, decide_eq_true hlt', r_condT, part_at hRdP hlt, r_eql]
    have stepc : cntS (i + 1) (fun k => decide (part k = k)) = cntS i (fun k => decide (part k = k)) + if decide (part i = i) = true then 1 else 0 := rfl
    by_cases hrep : part i = i
    · have hrep' : ((part i : Nat) : Int) = (i : Int) := by omega
      rw [decide_eq_true hrep']
      simp only [Join, r_condT]
      rw [r_add _ _ (by omega) (by omega), r_add _ _ (by omega) (by omega)]
      refine ⟨⟨i + 1, by omega, by go_num, ?_, rfl⟩, by simp only [intOf]; omega⟩
      rw [stepc, decide_eq_true hrep]
      go_num
    · have hrep' : ¬ ((part i : Nat) : Int) = (i : Int) := by omega
      rw [decide_eq_false hrep']
      simp only [Join, r_condF]
      rw [r_add _ _ (by omega) (by omega)]
      refine ⟨⟨i + 1, by omega, by go_num, ?_, rfl⟩, by simp only [intOf]; omega⟩
      rw [stepc, decide_eq_false hrep]; rfl
  have hlt' : ¬ (i : Int) < ((2 * L.length : Nat) : Int) := by omega
  obtain rfl : i = 2 * L.length := by omega
  rw [r_lss, decide_eq_false hlt', r_condF, reps_all d hp, r_gtr]
  by_cases h8 : (8 : Int) < ((lvsL L).length : Int)
  · rw [decide_eq_true h8, r_condT]
    exact nothing w3 8 (by rw [hNW, if_pos (by omega)]) (by decide) k03
  rw [decide_eq_false h8, r_condF]
  have hE : nwE W H L = 0 := by rw [hNW, if_neg (by omega)]
  refine r18_1 d hp hl (hr.kp k03) hRdP fun v' w' o' k' => ⟨Kp.trans k03 k', v', ?_, ?_⟩
  · unfold nwN; rw [hE, if_pos rfl]
  · unfold nwW; rw [hE, if_pos rfl]
    exact RecAt.down o' k03.size

theorem r_neB {w : World} {b : Bool} {K : Value → Prop} (h : K (.bool false)) : binQ Tryd.prog w .neq 4 false (.bool b) (.bool b) K := by
  cases b
  · exact ⟨.bool false, fun w' _ => by kernel_rfl, h⟩
  · exact ⟨.bool false, fun w' _ => by kernel_rfl, h⟩
set_option maxRecDepth 100000 in
theorem bs22_e (w : World) (K : Value → World → Prop) : bsW Tryd.prog 22 0 [] w K = K (.slice (some ⟨w.heap.size, 0, none⟩) 0 0) (w.alloc (.cells #[] 44)) := by kernel_rfl

theorem nwW_len {W H : Int} {L : List T3} : (nwW W H L).length ≤ L.length := by
  unfold nwW
  split
  · simp [wiresL]
  · simp

set_option maxRecDepth 100000 in
set_option maxHeartbeats 2000000 in
theorem law_judges {v : Value} {L : List T3} (W H : Int) (W0 : World) (hw : Wh W0) (hr : RdS W0 v L) : Calls Tryd.prog 3 #[.int .i64 W, .int .i64 H, v] W0 fun e w' => e = .returned (.bool true) ∧ Kp W0 w' := by
  obtain ⟨va, vc, ev, _⟩ := hr.len
  have lnv : ∀ K : Value → Prop, ln1 v K = K (.int .i64 L.length) := fun K => by rw [ev]; rfl
  refine lift3 ?_
  unfold S3
  rw [lnv, r_gtr]
  by_cases h40 : (40 : Int) < (L.length : Int)
  · rw [decide_eq_true h40, r_condT]
    refine r_use fok14 (alive_calls W0 hw) rfl ?_
    rintro _ w4 ⟨rfl, k4⟩
    exact ⟨_, rfl, rfl, k4⟩
  rw [decide_eq_false h40, r_condF, bs22_e]
  have kA : Kp W0 (W0.alloc (.cells #[] 44)) := below_alloc _
  have hE0 : SqAt W0.heap.size (W0.alloc (.cells #[] 44)) (.slice (some ⟨W0.heap.size, 0, none⟩) 0 0) [] := rec_alloc t3C_len [] (by simp) W0
  have szA := kA.size
  generalize W0.alloc (.cells #[] 44) = wA at *
  refine r_apRec slt22 t3C_len t3C_one (by omega) hE0 (hr.kp kA) (by simp; omega) szA fun u w1 hO c1 _ => ?_
  have k1 : Kp W0 w1 := Kp.of_chg kA c1 fun q hq => (hE0.lt hq).1
  rw [List.nil_append] at hO
  have hru : RdS w1 u L := hO.rd t3C_len
  have hself : ∀ q : Int, decide (q = q) = true := fun q => decide_eq_true rfl
  have hlen : L.length ≤ 1000000 := by omega
  refine r_use fok15 (Is_calls (W := W) (H := H) w1 hru) rfl ?_
  rintro _ w2 ⟨rfl, k2⟩
  refine ⟨_, rfl, ?_⟩
  have k02 := Kp.trans k1 k2
  rw [r_ex2a, r_ex2b]
  refine r_use fok16 (rIs_calls (W := W) (H := H) w2 (hr.kp k02)) rfl ?_
  rintro _ w3 ⟨rfl, k3⟩
  refine ⟨_, rfl, ?_⟩
  have k03 := Kp.trans k02 k3
  rw [r_ex2a, r_ex2b]
  refine r_neB ?_
  simp only [r_gdFF, r_neq, hself, decide_true, Bool.not_true, r_pickF, r_condF]
  refine r_use fok17 (Network_calls (W := W) (H := H) w3 (hru.kp (Kp.trans k2 k3))) rfl ?_
  rintro _ w4 ⟨k4, a, rfl, hA⟩
  refine ⟨_, rfl, ?_⟩
  have k04 := Kp.trans k03 k4
  rw [r_ex3a, r_ex3b, r_ex3c]
  refine r_use fok18 (rNetwork_calls (W := W) (H := H) w4 (hr.kp k04)) rfl ?_
  rintro _ w5 ⟨k5, b, rfl, hB⟩
  refine ⟨_, rfl, ?_⟩
  have k05 := Kp.trans k04 k5
  rw [r_ex3a, r_ex3b, r_ex3c, r_eql, hself]
  simp only [r_gdTT]
  have hnl : (nwW W H L).length ≤ 1000000 := Nat.le_trans nwW_len hlen
  refine r_use fok19 (wired_calls w5 ((hA.rd wC_len).kp k5) (hB.rd wC_len) hnl) rfl ?_
  rintro _ w6 ⟨rfl, k6⟩
  refine ⟨_, rfl, ?_⟩
  have k06 := Kp.trans k05 k6
  simp only [decide_true, r_pickT, r_gdTT, r_eql, hself]
  refine r_use fok20 (squares_calls w6 (hru.kp (Kp.trans k2 (Kp.trans k3 (Kp.trans k4 (Kp.trans k5 k6))))) (hr.kp k06) hlen) rfl ?_
  rintro _ w7 ⟨rfl, k7⟩
  refine ⟨_, rfl, ?_⟩
  have k07 := Kp.trans k06 k7
  simp only [decide_true, r_pickT, r_gdTT]
  refine r_use fok14 (alive_calls w7 (hw.kp k07)) rfl ?_
  rintro _ w8 ⟨rfl, k8⟩
  refine ⟨_, rfl, ?_⟩
  exact ⟨by first | rfl | trivial, Kp.trans k07 k8⟩

end Go.Proofs.YtkdcldbedbagjaaDoor

/- From a contract that a law returns true to the given statement. -/
namespace Go.Proofs.YtkdcldbedbagjaaDoor
open Go.ChangeShapes Go.WideShapes Go.ChangeAt Go.RowKit Go.Lf

theorem own : ownKnob Tryd.prog.godebug = none := by kernel_rfl
theorem laid : laidOutB Tryd.prog = true := by kernel_rfl
theorem und4 : Tryd.prog.underlying 4 = some .bool := by kernel_rfl
/-- What the rows list: the package's variable. -/
def laid1 : List (String × DataW Unit) := [("encaustic/square.whole", Rows.laid_encaustic_square_whole)]
theorem gWhole : Tryd.prog.globalNamed "encaustic/square.whole" = some 0 := by kernel_rfl
theorem tWhole : (Tryd.prog.globals[0]?).map (·.type) = some 100 := by kernel_rfl
theorem cells74 : Tryd.prog.cellsOf 74 = 1 := by kernel_rfl
theorem cells100 : Tryd.prog.cellsOf 100 = 3 := by kernel_rfl

theorem door_met (os : Os) (args : Array Value) : laidMetH Tryd.prog laid1 ((World.doorLaid Tryd.prog 14 os).forCall (fun _ _ => 0) ⟨#[], args, []⟩).memory :=
  laidMetH_of_parts3 (fuel := 8) (laidMet_of_run' 8 (by kernel_rfl) (by kernel_rfl)) (by kernel_rfl) (by kernel_rfl)

def tok (k : UInt8) : List UInt8 := [101, 110, 99, 97, 117, 115, 116, 105, 99, 47, 115, 113, 117, 97, 114, 101, 46, 119, 104, 111, 108, 101, 36, k]

set_option maxRecDepth 100000 in
theorem wh_of_laid {W : World} (h : laidMetH Tryd.prog laid1 W) : Wh W := by
  obtain ⟨g, t, cs, fuel, p, hg, ht, hv, hd⟩ := h.funcs (List.mem_singleton.2 rfl)
  obtain rfl := Option.some.inj (gWhole.symm.trans hg)
  obtain rfl := Option.some.inj (tWhole.symm.trans ht)
  have hd' : DataW.trod (funcToken Tryd.prog) Tryd.prog W 0 (fun _ => true) true fuel 100 cs.toList = some (.agg [.held (tok 49), .held (tok 50), .held (tok 51)], p) := hd
  obtain ⟨y0, y1, y2, n, hx, hl, t0, t1, t2⟩ := Deep.trod_struct3 Tryd.underlying100 hd'
  rw [cells100] at hl
  simp only [Prod.mk.injEq, DataW.agg.injEq, List.cons.injEq] at hx
  obtain ⟨⟨e0, e1, e2, _⟩, _⟩ := hx
  obtain ⟨x0, q0⟩ := y0
  obtain ⟨x1, q1⟩ := y1
  obtain ⟨x2, q2⟩ := y2
  simp only at e0 e1 e2
  subst e0; subst e1; subst e2
  have hcs : ∃ a b c, cs.toList = [a, b, c] := by
    match cs.toList, hl with
    | [a, b, c], _ => exact ⟨a, b, c, rfl⟩
  obtain ⟨a, b, c, hcs⟩ := hcs
  rw [hcs] at t0 t1 t2
  simp only [cells74, List.drop_zero, List.take_succ_cons, List.take_zero, List.drop_succ_cons] at t0 t1 t2
  obtain rfl := func_of_trod (f0 := 122) Tryd.underlying74 (by kernel_rfl) t0
  obtain rfl := func_of_trod (f0 := 123) Tryd.underlying74 (by kernel_rfl) t1
  obtain rfl := func_of_trod (f0 := 124) Tryd.underlying74 (by kernel_rfl) t2
  have hcs' : cs = #[fnV 122, fnV 123, fnV 124] := Array.ext' (by rw [hcs])
  intro j u hu
  have := World.var?_cell hg hv j
  rw [hcs'] at this
  rw [Nat.zero_add, this]
  match j, hu with
  | 0, hu => exact hu
  | 1, hu => exact hu
  | 2, hu => exact hu

section
variable {H : Type} {enc : TypeId × Value → H}

theorem below_trodAll {P : Program} (hl : laidOutB P = true) {W W' : World} (hb : Below W.heap.size W W') (ts : List TypeId) : ∀ {vs : List Value} {ds : List (DataW H)} {p : List MemPlace},
    (ts.all fun t => P.readableRec t && Nat.blt t P.types.size) = true → DataW.TrodAll enc P W 0 (fun _ => true) true ts vs ds p → (∀ x ∈ p, x.block < W.heap.size) →
      DataW.TrodAll enc P W' 0 (fun b => decide (b < W.heap.size)) true ts vs ds p := by
  induction ts with
  | nil =>
    intro vs ds p _ h _
    obtain ⟨rfl, rfl, rfl⟩ := trodAll_nil h
    exact trodAll_mk0
  | cons t ts ih =>
    intro vs ds p hr h hlt
    obtain ⟨v, vs', d, ds', p0, q0, rfl, rfl, rfl, h0, r0⟩ := trodAll_cons h
    simp only [List.all_cons, Bool.and_eq_true, Nat.blt_eq] at hr
    exact trodAll_cons_mk (Below.trod hl hr.1.1 hr.1.2 h0 hb fun x hx => hlt x (by simp [hx])) (ih (by simpa using hr.2) r0 fun x hx => hlt x (by simp [hx]))

theorem trodAll_length {P : Program} {W : World} {base : Nat} {sp : Nat → Bool} {hd : Bool} (ts : List TypeId) : ∀ {vs : List Value} {ds : List (DataW H)} {p : List MemPlace}, DataW.TrodAll enc P W base sp hd ts vs ds p → vs.length = ts.length ∧ ds.length = ts.length := by
  induction ts with
  | nil =>
    intro vs ds p h
    obtain ⟨rfl, rfl, rfl⟩ := trodAll_nil h
    exact ⟨rfl, rfl⟩
  | cons t ts ih =>
    intro vs ds p h
    obtain ⟨v, vs', d, ds', p0, q0, rfl, rfl, rfl, h0, r0⟩ := trodAll_cons h
    have := ih r0
    simp only [List.length_cons]
    omega

set_option maxRecDepth 100000 in
theorem law_lifted {s : ChangeSpec} {conds : List PathCond} {f : FuncId} {fn : Func} {os : Os} (started : os.Started) (hvars : s.vars = []) (noInit : Tryd.prog.inits.idxOf? f = none) (hfn : Tryd.prog.funcs[f]? = some fn)
    (hres : fn.resultTypes = #[4]) (hread : (fn.params.toList.all fun t => Tryd.prog.readableRec t && Nat.blt t Tryd.prog.types.size) = true)
    (hspec : ∀ ds : List (DataW H), ds.length = fn.params.toList.length → (s.fn H ds).results = [.lit (.bool true)] ∧ (s.fn H ds).args = ds ∧ (s.fn H ds).vars = [])
    (wit : ∃ (w : World) (tape : Tape) (i : Input), w.os = os ∧ (w.forCall tape i).Shaped Tryd.prog ∧ i.vars = [] ∧ Input.okWide Tryd.prog (w.forCall tape i) .any w.heap.size f i ∧
      ((s.pre enc Tryd.prog fn conds false (w.forCall tape i).memory i.args ∧ laidMetH Tryd.prog laid1 (w.forCall tape i).memory) ∧ sizedMet enc Tryd.prog fn (OpenSpec.ofChange s) false (w.forCall tape i).memory i.args) ∧ ({} : Assume).holds Tryd.prog (lone (Frame.enter Tryd.prog f i.args .normal) [] (w.forCall tape i)))
    (walk : ∀ (W : World) (base : Nat) (args : Array Value) (ds : List (DataW H)) (p : List MemPlace), Wh W → (∀ (j : Nat) t v, fn.params[j]? = some t → args[j]? = some v → Value.okWide Tryd.prog W .any base t v) →
      DataW.TrodAll enc Tryd.prog W 0 (fun _ => true) true fn.params.toList args.toList ds p → Calls Tryd.prog f args W fun e W' => e = .returned (.bool true) ∧ Kp W W') :
    ReturnsInHanded {} Tryd.checked os f .any (fun w args => (s.pre enc Tryd.prog fn conds false w args ∧ laidMetH Tryd.prog laid1 w) ∧ sizedMet enc Tryd.prog fn (OpenSpec.ofChange s) false w args) (s.post enc Tryd.prog fn false true false false) := by
  refine returnsInHanded_of_change_and (C := Tryd.checked) (X := fun w _ => laidMetH Tryd.prog laid1 w) (fun _ _ _ hh h => h.of_heap hh) own started noInit hfn wit ?_
  intro W base args ds gs before hval hW hcnd _ hL _
  have hW' := hW
  obtain ⟨p, q, hA, hV, rfl, _, _⟩ := hW
  rw [hvars] at hV
  obtain ⟨rfl, rfl⟩ := trodVars_none hV
  have hlt : ∀ x ∈ p, x.block < W.heap.size := fun x hx => hW'.lt x (by simp [hx])
  have hlen := (trodAll_length _ hA).2
  obtain ⟨g1, g2, g3⟩ := hspec ds hlen
  refine (walk W base args ds p (wh_of_laid hL) hval hA).mono fun e W' ⟨he, hk⟩ => ?_
  subst he
  refine ⟨_, rfl, ds, [], p ++ [], [], p, [], hW', ?_, ?_, ?_, hk.frame _, fun h => by cases h⟩
  · rw [List.append_nil, g1, hres]
    exact trodAll_mk1 (shut_bool und4 _)
  · rw [List.append_nil, g2]
    exact below_trodAll laid hk _ hread hA hlt
  · rw [List.append_nil, g3, hvars]
    rfl

end

theorem wf_u8 {n : Int} (h : (Lit.int .u8 n).wf = true) : ∃ k : Nat, n = k ∧ k ≤ 255 := by
  have e1 : IntKind.u8.min = 0 := by decide
  have e2 : IntKind.u8.max = 255 := by decide
  simp [Lit.wf, e1, e2] at h
  exact ⟨n.toNat, by omega, by omega⟩
theorem wf_u32 {n : Int} (h : (Lit.int .u32 n).wf = true) : ∃ k : Nat, n = k ∧ k ≤ 4294967295 := by
  have e1 : IntKind.u32.min = 0 := by decide
  have e2 : IntKind.u32.max = 4294967295 := by decide
  simp [Lit.wf, e1, e2] at h
  exact ⟨n.toNat, by omega, by omega⟩
theorem wf_i64 {n : Int} (h : (Lit.int .i64 n).wf = true) : -9223372036854775808 ≤ n ∧ n ≤ 9223372036854775807 := by
  have e1 : IntKind.i64.min = -9223372036854775808 := by decide
  have e2 : IntKind.i64.max = 9223372036854775807 := by decide
  simpa [Lit.wf, e1, e2] using h

theorem und3 : Tryd.prog.underlying 3 = some (.int .i64) := by kernel_rfl

end Go.Proofs.YtkdcldbedbagjaaDoor
