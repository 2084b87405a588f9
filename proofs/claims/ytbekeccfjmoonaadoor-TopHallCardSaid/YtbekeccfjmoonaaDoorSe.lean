/- Lifted texts, printed by program (gen.py): what each function's code asks. The ties are by the kernel. -/
import Derived.Test.YtbekeccfjmoonaaDoorBase
set_option linter.all false
namespace Go.Proofs.YtbekeccfjmoonaaDoor
open Go.Lf Go.RowKit

def S17xL2 (t1 t12 t20 t55 t61 t66 : Value) (next_2 : Value → World → Prop) (w : World) : Prop :=
  Loop1 (.int .i64 0) w fun _ t67 w next_3 =>
    binQ Tryd.prog w .lss 3 false t67 t66 fun t68 =>
    condW t68 (
      iaS 1 t1 t67 fun t70 =>
      ld1 w t70 fun t71 =>
      ldN 2 w t12 fun t75 =>
      callW Tryd.prog (.func (.func 50) #[] #[]) [t20, t71, t75] w fun t76 w =>
      exQ t76 0 fun t77 =>
      exQ t76 1 fun t78 =>
      Join (fun (k_2 : World → Prop) =>
        condW t78 (
          Drew w fun w =>
          Join (fun (k_3 : World → Prop) =>
            ∃ X : Nat → Prop,
            takeX X w (fun w k => k t55) fun t80 =>
            takeX topX w (fun w k => k t55) fun t81 =>
            takeX X w (fun w k => k t55) fun t82 =>
            takeX X w (fun w k => ncQ t82 k) fun t83 =>
            takeX X w (fun w k => fa1 t83 2 k) fun t84 =>
            takeX X w (fun w k => ld1 w t84 k) fun t85 =>
            takeX X w (fun w k => k t67) fun t86 =>
            takeX X w (fun w k => fa1 t12 0 k) fun t87 =>
            takeX X w (fun w k => ld1 w t87 k) fun t88 =>
            takeX X w (fun w k => fa1 t12 1 k) fun t89 =>
            takeX X w (fun w k => ld1 w t89 k) fun t90 =>
            takeX X w (fun w k => bdQ Tryd.prog 106 [(0, t86), (1, t88), (2, t90)] k) fun t91 =>
            takeX X w (fun w k => k t55) fun t94 =>
            takeX X w (fun w k => ncQ t94 k) fun t95 =>
            takeX X w (fun w k => fa1 t95 3 k) fun t96 =>
            takeX X w (fun w k => ld1 w t96 k) fun t97 =>
            takeX X w (fun w k => k t77) fun t98 =>
            And (
              bsW Tryd.prog 36 1 [(0, t91)] w <| keepX X w fun t92 w =>
              And (
                semW Tryd.prog (apS [36, 36] 36 [t85, t92]) w <| keepX X w fun t93 w =>
                bsW Tryd.prog 50 1 [(0, t98)] w <| keepX X w fun t99 w =>
                semW Tryd.prog (apS [50, 50] 50 [t97, t99]) w <| keepX X w fun t100 w =>
                takeX X w (fun w k => ncQ t80 k) fun t101 =>
                takeX X w (fun w k => fa1 t101 2 k) fun t102 =>
                stW Tryd.prog 36 t102 t93 w <| keepW topX w fun w =>
                takeX topX w (fun w k => ncQ t81 k) fun t103 =>
                takeX topX w (fun w k => fa1 t103 3 k) fun t104 =>
                stW Tryd.prog 50 t104 t100 w fun w =>
                k_3  w
              ) <|
              And (
                bsW Tryd.prog 50 1 [(0, t98)] w <| keepX X w fun t99_2 w =>
                semW Tryd.prog (apS [36, 36] 36 [t85, t92]) w <| keepX X w fun t93_2 w =>
                semW Tryd.prog (apS [50, 50] 50 [t97, t99_2]) w <| keepX X w fun t100_2 w =>
                takeX X w (fun w k => ncQ t80 k) fun t101_2 =>
                takeX X w (fun w k => fa1 t101_2 2 k) fun t102_2 =>
                stW Tryd.prog 36 t102_2 t93_2 w <| keepW topX w fun w =>
                takeX topX w (fun w k => ncQ t81 k) fun t103_2 =>
                takeX topX w (fun w k => fa1 t103_2 3 k) fun t104_2 =>
                stW Tryd.prog 50 t104_2 t100_2 w fun w =>
                k_3  w
              ) <|
              True
            ) <|
            And (
              bsW Tryd.prog 50 1 [(0, t98)] w <| keepX X w fun t99_3 w =>
              bsW Tryd.prog 36 1 [(0, t91)] w <| keepX X w fun t92_2 w =>
              semW Tryd.prog (apS [36, 36] 36 [t85, t92_2]) w <| keepX X w fun t93_3 w =>
              semW Tryd.prog (apS [50, 50] 50 [t97, t99_3]) w <| keepX X w fun t100_3 w =>
              takeX X w (fun w k => ncQ t80 k) fun t101_3 =>
              takeX X w (fun w k => fa1 t101_3 2 k) fun t102_3 =>
              stW Tryd.prog 36 t102_3 t93_3 w <| keepW topX w fun w =>
              takeX topX w (fun w k => ncQ t81 k) fun t103_3 =>
              takeX topX w (fun w k => fa1 t103_3 3 k) fun t104_3 =>
              stW Tryd.prog 50 t104_3 t100_3 w fun w =>
              k_3  w
            ) <|
            True
          ) fun  w =>
          k_2 w
        ) (
          k_2 w
        )
      ) fun w =>
      binQ Tryd.prog w .add 3 true t67 (.int .i64 1) fun t105_2 =>
      next_3 t105_2 w
    ) (
      binQ Tryd.prog w .add 3 true t61 (.int .i64 1) fun t106 =>
      next_2 t106 w
    )

def S17xL1 (t1 t20 t55 t59 t60 : Value) (R : Ending → World → Prop) (w : World) : Prop :=
  Loop1 (.int .i64 0) w fun _ t61 w next_2 =>
    binQ Tryd.prog w .lss 3 false t61 t60 fun t62 =>
    condW t62 (
      iaS 2 t59 t61 fun t63 =>
      ldN 2 w t63 fun t64 =>
      boxW 43 (.agg #[(.int .i64 0), (.int .i64 0)]) w fun t12 w =>
      stW Tryd.prog 43 t12 t64 w fun w =>
      ln1 t1 fun t66 =>
      S17xL2 t1 t12 t20 t55 t61 t66 next_2 w
    ) (
      R (.returned (.tuple #[t55, (.int .i64 0)])) w
    )

def S17xL0 (t1 t20 t35 : Value) (R : Ending → World → Prop) (w : World) : Prop :=
  Loop1 (.int .i64 0) w fun _ t36 w next =>
    binQ Tryd.prog w .lss 3 false t36 t35 fun t37 =>
    condW t37 (
      iaS 1 t1 t36 fun t39 =>
      ld1 w t39 fun t40 =>
      boxW 61 (.slice none 0 0) w fun t9 w =>
      stW Tryd.prog 61 t9 t40 w fun w =>
      ld1 w t9 fun t41 =>
      callW Tryd.prog (.func (.func 46) #[] #[]) [t41] w fun t42 w =>
      unQ .not t42 fun t43 =>
      gd t43 false (fun k => k t1 w) w fun t45 w =>
      gd t43 false (fun k => k t36 w) w fun t46 w =>
      gd t43 false (fun k => slS 1 t45 none (some t46) fun v => k v w) w fun t47 w =>
      gd t43 false (fun k => k (.func (.func 48) #[] #[t9]) w) w fun t48 w =>
      gd t43 false (fun k => callW Tryd.prog (.func (.func 47) #[] #[]) [t47, t48] w k) w fun t49 w =>
      pickQ t43 (.bool true) t49 fun t50 =>
      condW t50 (
        R (.returned (.tuple #[(.pointer none), (.int .i64 2)])) w
      ) (
        binQ Tryd.prog w .add 3 true t36 (.int .i64 1) fun t51 =>
        next t51 w
      )
    ) (
      bdQ Tryd.prog 52 [(0, t20), (1, t1)] fun t54 =>
      boxW 52 t54 w fun t55 w =>
      ncQ t20 fun t57 =>
      fa1 t57 0 fun t58 =>
      ld1 w t58 fun t59 =>
      ln1 t59 fun t60 =>
      S17xL1 t1 t20 t55 t59 t60 R w
    )

def S17x (t0 t1 : Value) (w : World) (R : Ending → World → Prop) : Prop :=
  callW Tryd.prog (.func (.func 45) #[] #[]) [t0] w fun t19 w =>
  exQ t19 0 fun t20 =>
  exQ t19 1 fun t21 =>
  unQ .not t21 fun t23 =>
  gd t23 false (fun k => k t1 w) w fun t25 w =>
  gd t23 false (fun k => ln1 t25 fun v => k v w) w fun t26 w =>
  gd t23 false (fun k => binQ Tryd.prog w .lss 3 true t26 (.int .i64 1) fun v => k v w) w fun t27 w =>
  pickQ t23 (.bool true) t27 fun t28 =>
  gd t28 false (fun k => k t1 w) w fun t30 w =>
  gd t28 false (fun k => ln1 t30 fun v => k v w) w fun t31 w =>
  gd t28 false (fun k => binQ Tryd.prog w .gtr 3 true t31 (.int .i64 6) fun v => k v w) w fun t32 w =>
  pickQ t28 (.bool true) t32 fun t33 =>
  condW t33 (
    R (.returned (.tuple #[(.pointer none), (.int .i64 2)])) w
  ) (
    ln1 t1 fun t35 =>
    S17xL0 t1 t20 t35 R w
  )

def A17x : Ann where
  live := fun
    | 0 => [36]
    | 2 => [61]
    | 4 => [67]
    | _ => []
  wr := fun
    | 0 => fun i => (Nat.ble 4 i && Nat.ble i 5) || (Nat.ble 8 i && Nat.ble i 9) || (Nat.ble 36 i && Nat.ble i 51)
    | 2 => fun i => (Nat.ble 12 i && Nat.ble i 16) || (Nat.ble 61 i && Nat.ble i 106)
    | 4 => fun i => (Nat.ble 13 i && Nat.ble i 16) || (Nat.ble 67 i && Nat.ble i 105)
    | _ => fun _ => false
  sched := fun
    | 19 => (.cls (.take 0 (.take 1 (.take 2 (.take 3 (.take 4 (.take 5 (.take 6 (.take 7 (.take 8 (.take 9 (.take 10 (.take 11 (.take 14 (.take 15 (.take 16 (.take 17 (.take 18 (.alt 12 (.alt 13 (.eff 19 (.eff 20 (.take 21 (.take 22 (.eff 23 (.take 24 (.take 25 (.bar 26 .done)))))))) (.alt 19 (.eff 13 (.eff 20 (.take 21 (.take 22 (.eff 23 (.take 24 (.take 25 (.bar 26 .done)))))))) .nomore)) (.alt 19 (.eff 12 (.eff 13 (.eff 20 (.take 21 (.take 22 (.eff 23 (.take 24 (.take 25 (.bar 26 .done))))))))) .nomore))))))))))))))))))))
    | _ => .done

set_option maxRecDepth 100000 in
theorem ok17x : (codeOk Tryd.f17.ntmps A17x (Tryd.f17.body.getD .skip) 0 && Nat.ble 2 Tryd.f17.ntmps) = true := by kernel_rfl
set_option maxRecDepth 100000 in
theorem lift17x {t0 t1 : Value} {w : World} {R : Ending → World → Prop} (h : S17x t0 t1 w R) : Calls Tryd.prog 17 #[t0, t1] w R :=
  calls_of_cw (fn := Tryd.f17) (c := Tryd.f17.body.getD .skip) A17x mixes Tryd.func17 (by kernel_rfl) ok17x
    ((by kernel_rfl : (S17x t0 t1 w R) = cw Tryd.prog A17x (Tryd.f17.body.getD .skip) 0 (bodyQ Tryd.prog Tryd.f17 R) (frOf #[t0, t1]) w).mp h)

theorem fok17 : fnOk Tryd.prog 17 = true := by kernel_rfl
theorem fok45 : fnOk Tryd.prog 45 = true := by kernel_rfl
end Go.Proofs.YtbekeccfjmoonaaDoor
