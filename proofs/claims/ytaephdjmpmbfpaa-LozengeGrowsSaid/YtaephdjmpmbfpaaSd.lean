/- Lifted texts, printed by program (gen.py): what each function's code asks. The ties are by the kernel. -/
import Derived.Test.YtaephdjmpmbfpaaBase
set_option linter.all false
namespace Go.Proofs.Ytaephdjmpmbfpaa
open Go.Lf Go.RowKit

def S19 (t0 t1 : Value) (w : World) (R : Ending → World → Prop) : Prop :=
  boxW 25 t0 w fun t2 w =>
  ldN 3 w t2 fun t13 =>
  callW Try.prog (.func (.func 58) #[] #[]) [t13] w fun t14 w =>
  unQ .not t14 fun t15 =>
  condW t15 (
    R (.returned (.tuple #[(.slice none 0 0), (.int .i64 2)])) w
  ) (
    Drew w fun w =>
    Join (fun (k_2 : Value → Value → World → Prop) =>
      ldN 3 w t2 fun t16 =>
      ldN 3 w t2 fun t18 =>
      And (
        callW Try.prog (.func (.func 52) #[] #[]) [t16] w <| keepB w fun t17 w =>
        And (
          callW Try.prog (.func (.func 53) #[] #[]) [t18] w <| keepB w fun t19 w =>
          And (
            boxW 77 (.agg #[(.int .i64 0), (.int .i64 0), (.int .i64 0), (.map none)]) w <| keepB w fun t6_2 w =>
            boxW 80 (.agg #[(.int .i64 0), (.int .i64 0), (.int .i64 0), (.int .i64 0)]) w <| keepB w fun t7_2 w =>
            stW Try.prog 77 t6_2 t17 w fun w =>
            stW Try.prog 80 t7_2 t19 w fun w =>
            k_2 t6_2 t7_2 w
          ) <|
          And (
            boxW 80 (.agg #[(.int .i64 0), (.int .i64 0), (.int .i64 0), (.int .i64 0)]) w <| keepB w fun t7_3 w =>
            boxW 77 (.agg #[(.int .i64 0), (.int .i64 0), (.int .i64 0), (.map none)]) w <| keepB w fun t6_3 w =>
            stW Try.prog 77 t6_3 t17 w fun w =>
            stW Try.prog 80 t7_3 t19 w fun w =>
            k_2 t6_3 t7_3 w
          ) <|
          True
        ) <|
        And (
          boxW 77 (.agg #[(.int .i64 0), (.int .i64 0), (.int .i64 0), (.map none)]) w <| keepB w fun t6_4 w =>
          And (
            callW Try.prog (.func (.func 53) #[] #[]) [t18] w <| keepB w fun t19_2 w =>
            boxW 80 (.agg #[(.int .i64 0), (.int .i64 0), (.int .i64 0), (.int .i64 0)]) w <| keepB w fun t7_4 w =>
            stW Try.prog 77 t6_4 t17 w fun w =>
            stW Try.prog 80 t7_4 t19_2 w fun w =>
            k_2 t6_4 t7_4 w
          ) <|
          And (
            boxW 80 (.agg #[(.int .i64 0), (.int .i64 0), (.int .i64 0), (.int .i64 0)]) w <| keepB w fun t7_5 w =>
            callW Try.prog (.func (.func 53) #[] #[]) [t18] w <| keepB w fun t19_3 w =>
            stW Try.prog 77 t6_4 t17 w fun w =>
            stW Try.prog 80 t7_5 t19_3 w fun w =>
            k_2 t6_4 t7_5 w
          ) <|
          True
        ) <|
        And (
          boxW 80 (.agg #[(.int .i64 0), (.int .i64 0), (.int .i64 0), (.int .i64 0)]) w <| keepB w fun t7_6 w =>
          And (
            callW Try.prog (.func (.func 53) #[] #[]) [t18] w <| keepB w fun t19_4 w =>
            boxW 77 (.agg #[(.int .i64 0), (.int .i64 0), (.int .i64 0), (.map none)]) w <| keepB w fun t6_5 w =>
            stW Try.prog 77 t6_5 t17 w fun w =>
            stW Try.prog 80 t7_6 t19_4 w fun w =>
            k_2 t6_5 t7_6 w
          ) <|
          And (
            boxW 77 (.agg #[(.int .i64 0), (.int .i64 0), (.int .i64 0), (.map none)]) w <| keepB w fun t6_6 w =>
            callW Try.prog (.func (.func 53) #[] #[]) [t18] w <| keepB w fun t19_5 w =>
            stW Try.prog 77 t6_6 t17 w fun w =>
            stW Try.prog 80 t7_6 t19_5 w fun w =>
            k_2 t6_6 t7_6 w
          ) <|
          True
        ) <|
        True
      ) <|
      And (
        boxW 77 (.agg #[(.int .i64 0), (.int .i64 0), (.int .i64 0), (.map none)]) w <| keepB w fun t6_7 w =>
        And (
          callW Try.prog (.func (.func 52) #[] #[]) [t16] w <| keepB w fun t17_2 w =>
          And (
            callW Try.prog (.func (.func 53) #[] #[]) [t18] w <| keepB w fun t19_6 w =>
            boxW 80 (.agg #[(.int .i64 0), (.int .i64 0), (.int .i64 0), (.int .i64 0)]) w <| keepB w fun t7_7 w =>
            stW Try.prog 77 t6_7 t17_2 w fun w =>
            stW Try.prog 80 t7_7 t19_6 w fun w =>
            k_2 t6_7 t7_7 w
          ) <|
          And (
            boxW 80 (.agg #[(.int .i64 0), (.int .i64 0), (.int .i64 0), (.int .i64 0)]) w <| keepB w fun t7_8 w =>
            callW Try.prog (.func (.func 53) #[] #[]) [t18] w <| keepB w fun t19_7 w =>
            stW Try.prog 77 t6_7 t17_2 w fun w =>
            stW Try.prog 80 t7_8 t19_7 w fun w =>
            k_2 t6_7 t7_8 w
          ) <|
          True
        ) <|
        And (
          boxW 80 (.agg #[(.int .i64 0), (.int .i64 0), (.int .i64 0), (.int .i64 0)]) w <| keepB w fun t7_9 w =>
          callW Try.prog (.func (.func 52) #[] #[]) [t16] w <| keepB w fun t17_3 w =>
          callW Try.prog (.func (.func 53) #[] #[]) [t18] w <| keepB w fun t19_8 w =>
          stW Try.prog 77 t6_7 t17_3 w fun w =>
          stW Try.prog 80 t7_9 t19_8 w fun w =>
          k_2 t6_7 t7_9 w
        ) <|
        True
      ) <|
      And (
        boxW 80 (.agg #[(.int .i64 0), (.int .i64 0), (.int .i64 0), (.int .i64 0)]) w <| keepB w fun t7_10 w =>
        And (
          callW Try.prog (.func (.func 52) #[] #[]) [t16] w <| keepB w fun t17_4 w =>
          And (
            callW Try.prog (.func (.func 53) #[] #[]) [t18] w <| keepB w fun t19_9 w =>
            boxW 77 (.agg #[(.int .i64 0), (.int .i64 0), (.int .i64 0), (.map none)]) w <| keepB w fun t6_8 w =>
            stW Try.prog 77 t6_8 t17_4 w fun w =>
            stW Try.prog 80 t7_10 t19_9 w fun w =>
            k_2 t6_8 t7_10 w
          ) <|
          And (
            boxW 77 (.agg #[(.int .i64 0), (.int .i64 0), (.int .i64 0), (.map none)]) w <| keepB w fun t6_9 w =>
            callW Try.prog (.func (.func 53) #[] #[]) [t18] w <| keepB w fun t19_10 w =>
            stW Try.prog 77 t6_9 t17_4 w fun w =>
            stW Try.prog 80 t7_10 t19_10 w fun w =>
            k_2 t6_9 t7_10 w
          ) <|
          True
        ) <|
        And (
          boxW 77 (.agg #[(.int .i64 0), (.int .i64 0), (.int .i64 0), (.map none)]) w <| keepB w fun t6_10 w =>
          callW Try.prog (.func (.func 52) #[] #[]) [t16] w <| keepB w fun t17_5 w =>
          callW Try.prog (.func (.func 53) #[] #[]) [t18] w <| keepB w fun t19_11 w =>
          stW Try.prog 77 t6_10 t17_5 w fun w =>
          stW Try.prog 80 t7_10 t19_11 w fun w =>
          k_2 t6_10 t7_10 w
        ) <|
        True
      ) <|
      True
    ) fun t6 t7 w =>
    binQ Try.prog w .lss 3 true t1 (.int .i64 0) fun t21 =>
    gd t21 false (fun k => k t1 w) w fun t23 w =>
    gd t21 false (fun k => ldN 4 w t6 fun v => k v w) w fun t24 w =>
    gd t21 false (fun k => fa1 t2 0 fun v => k v w) w fun t25 w =>
    gd t21 false (fun k => ld1 w t25 fun v => k v w) w fun t26 w =>
    gd t21 false (fun k => ldN 4 w t7 fun v => k v w) w fun t27 w =>
    gd t21 false (fun k => bdQ Try.prog 88 [(0, t26), (1, t27)] fun v => k v w) w fun t28 w =>
    gd t21 false (fun k => callW Try.prog (.func (.func 57) #[] #[]) [t24, t28] w k) w fun t29 w =>
    gd t21 false (fun k => binQ Try.prog w .geq 3 false t23 t29 fun v => k v w) w fun t30 w =>
    pickQ t21 (.bool true) t30 fun t31 =>
    condW t31 (
      R (.returned (.tuple #[(.slice none 0 0), (.int .i64 4)])) w
    ) (
      fa1 t2 0 fun t32 =>
      ld1 w t32 fun t33 =>
      Loop3 t1 (.slice none 0 0) (.int .i64 0) w fun _ t1_2 t8 t34 w next =>
        binQ Try.prog w .lss 3 false t34 t33 fun t35 =>
        condW t35 (
          ldN 3 w t2 fun t37 =>
          ldN 4 w t7 fun t38 =>
          callW Try.prog (.func (.func 55) #[] #[]) [t37, t38] w fun t39 w =>
          ln1 t39 fun t40 =>
          Join (fun (k_3 : Value → Value → World → Prop) =>
            Loop3 t1_2 t8 (.int .i64 0) w fun _ t1_4 t8_3 t41 w next_2 =>
              binQ Try.prog w .lss 3 false t41 t40 fun t42 =>
              condW t42 (
                iaS 4 t39 t41 fun t43 =>
                ldN 4 w t43 fun t44 =>
                boxW 80 (.agg #[(.int .i64 0), (.int .i64 0), (.int .i64 0), (.int .i64 0)]) w fun t11 w =>
                stW Try.prog 80 t11 t44 w fun w =>
                ldN 4 w t6 fun t45 =>
                fa1 t2 0 fun t46 =>
                ld1 w t46 fun t47 =>
                binQ Try.prog w .sub 3 true t47 (.int .i64 1) fun t48 =>
                binQ Try.prog w .sub 3 false t48 t34 fun t50 =>
                ldN 4 w t11 fun t51 =>
                bdQ Try.prog 88 [(0, t50), (1, t51)] fun t52 =>
                callW Try.prog (.func (.func 57) #[] #[]) [t45, t52] w fun t53 w =>
                binQ Try.prog w .lss 3 false t1_4 t53 fun t56 =>
                condW t56 (
                  Drew w fun w =>
                  ∃ X : Nat → Prop,
                  takeX X w (fun w k => k t8_3) fun t57 =>
                  takeX X w (fun w k => fa1 t2 1 k) fun t58 =>
                  takeX X w (fun w k => ld1 w t58 k) fun t59 =>
                  takeX X w (fun w k => slA 4 1 t11 none (some t59) k) fun t60 =>
                  takeX X w (fun w k => ldN 4 w t11 k) fun t64 =>
                  callW Try.prog (.func (.func 59) #[] #[]) [t60] w <| keepX X w fun t61 w =>
                  bsW Try.prog 26 1 [(0, t61)] w <| keepX X w fun t62 w =>
                  semW Try.prog (apS [26, 26] 26 [t57, t62]) w <| keepX X w fun t63 w =>
                  takeX X w (fun w k => k t63) fun t8_4 =>
                  stW Try.prog 80 t7 t64 w fun w =>
                  k_3 t1_4 t8_4 w
                ) (
                  binQ Try.prog w .sub 3 false t1_4 t53 fun t67 =>
                  binQ Try.prog w .add 3 true t41 (.int .i64 1) fun t68 =>
                  next_2 t67 t8_3 t68 w
                )
              ) (
                k_3 t1_4 t8_3 w
              )
          ) fun t1_3 t8_2 w =>
          binQ Try.prog w .add 3 true t34 (.int .i64 1) fun t69_2 =>
          next t1_3 t8_2 t69_2 w
        ) (
          R (.returned (.tuple #[t8, (.int .i64 0)])) w
        )
    )
  )

def A19 : Ann where
  live := fun
    | 0 => [1, 8, 34]
    | 2 => [1, 8, 41]
    | _ => []
  wr := fun
    | 0 => fun i => Nat.beq i 1 || (Nat.ble 8 i && Nat.ble i 9) || (Nat.ble 11 i && Nat.ble i 12) || (Nat.ble 34 i && Nat.ble i 69)
    | 2 => fun i => Nat.beq i 1 || Nat.beq i 8 || (Nat.ble 11 i && Nat.ble i 12) || (Nat.ble 41 i && Nat.ble i 68)
    | _ => fun _ => false
  sched := fun
    | 3 => (.take 0 (.take 2 (.alt 1 (.alt 3 (.alt 4 (.eff 5 (.bar 6 (.bar 7 .done))) (.alt 5 (.eff 4 (.bar 6 (.bar 7 .done))) .nomore)) (.alt 4 (.alt 3 (.eff 5 (.bar 6 (.bar 7 .done))) (.alt 5 (.eff 3 (.bar 6 (.bar 7 .done))) .nomore)) (.alt 5 (.alt 3 (.eff 4 (.bar 6 (.bar 7 .done))) (.alt 4 (.eff 3 (.bar 6 (.bar 7 .done))) .nomore)) .nomore))) (.alt 4 (.alt 1 (.alt 3 (.eff 5 (.bar 6 (.bar 7 .done))) (.alt 5 (.eff 3 (.bar 6 (.bar 7 .done))) .nomore)) (.alt 5 (.eff 1 (.eff 3 (.bar 6 (.bar 7 .done)))) .nomore)) (.alt 5 (.alt 1 (.alt 3 (.eff 4 (.bar 6 (.bar 7 .done))) (.alt 4 (.eff 3 (.bar 6 (.bar 7 .done))) .nomore)) (.alt 4 (.eff 1 (.eff 3 (.bar 6 (.bar 7 .done)))) .nomore)) .nomore)))))
    | 15 => (.cls (.take 0 (.take 1 (.take 2 (.take 3 (.take 7 (.eff 4 (.eff 5 (.eff 6 (.take 8 (.bar 9 .done)))))))))))
    | _ => .done

set_option maxRecDepth 100000 in
theorem ok19 : (codeOk Try.f19.ntmps A19 (Try.f19.body.getD .skip) 0 && Nat.ble 2 Try.f19.ntmps) = true := by kernel_rfl
set_option maxRecDepth 100000 in
theorem lift19 {t0 t1 : Value} {w : World} {R : Ending → World → Prop} (h : S19 t0 t1 w R) : Calls Try.prog 19 #[t0, t1] w R :=
  calls_of_cw (fn := Try.f19) (c := Try.f19.body.getD .skip) A19 mixes Try.func19 (by kernel_rfl) ok19
    ((by kernel_rfl : (S19 t0 t1 w R) = cw Try.prog A19 (Try.f19.body.getD .skip) 0 (bodyQ Try.prog Try.f19 R) (frOf #[t0, t1]) w).mp h)

def S59 (t0 : Value) (w : World) (R : Ending → World → Prop) : Prop :=
  binQ Try.prog w .eql 36 true t0 (.slice none 0 0) fun t4 =>
  condW t4 (
    R (.returned (.slice none 0 0)) w
  ) (
    bsW Try.prog 36 0 [] w fun t5 w =>
    semW Try.prog (apS [36, 36] 36 [t5, t0]) w fun t7 w =>
    R (.returned t7) w
  )

def A59 : Ann where
  live := fun _ => []
  wr := fun _ _ => false
  sched := fun _ => .done

set_option maxRecDepth 100000 in
theorem ok59 : (codeOk Try.f59.ntmps A59 (Try.f59.body.getD .skip) 0 && Nat.ble 1 Try.f59.ntmps) = true := by kernel_rfl
set_option maxRecDepth 100000 in
theorem lift59 {t0 : Value} {w : World} {R : Ending → World → Prop} (h : S59 t0 w R) : Calls Try.prog 59 #[t0] w R :=
  calls_of_cw (fn := Try.f59) (c := Try.f59.body.getD .skip) A59 mixes Try.func59 (by kernel_rfl) ok59
    ((by kernel_rfl : (S59 t0 w R) = cw Try.prog A59 (Try.f59.body.getD .skip) 0 (bodyQ Try.prog Try.f59 R) (frOf #[t0]) w).mp h)

def S22 (t0 : Value) (w : World) (R : Ending → World → Prop) : Prop :=
  Loop2 (.slice none 0 0) (.int .i64 0) w fun _ t3 t4 w next =>
    ln1 t0 fun t8 =>
    binQ Try.prog w .lss 3 false t4 t8 fun t9 =>
    condW t9 (
      iaS 1 t0 t4 fun t16 =>
      ld1 w t16 fun t17 =>
      semW Try.prog (apS [36, 36] 36 [(.slice none 0 0), t17]) w fun t18 w =>
      bsW Try.prog 26 1 [(0, t18)] w fun t19 w =>
      semW Try.prog (apS [26, 26] 26 [t3, t19]) w fun t20 w =>
      binQ Try.prog w .add 3 true t4 (.int .i64 1) fun t11 =>
      next t20 t11 w
    ) (
      R (.returned t3) w
    )

def A22 : Ann where
  live := fun
    | 0 => [3, 4]
    | _ => []
  wr := fun
    | 0 => fun i => (Nat.ble 3 i && Nat.ble i 20)
    | _ => fun _ => false
  sched := fun _ => .done

set_option maxRecDepth 100000 in
theorem ok22 : (codeOk Try.f22.ntmps A22 (Try.f22.body.getD .skip) 0 && Nat.ble 1 Try.f22.ntmps) = true := by kernel_rfl
set_option maxRecDepth 100000 in
theorem lift22 {t0 : Value} {w : World} {R : Ending → World → Prop} (h : S22 t0 w R) : Calls Try.prog 22 #[t0] w R :=
  calls_of_cw (fn := Try.f22) (c := Try.f22.body.getD .skip) A22 mixes Try.func22 (by kernel_rfl) ok22
    ((by kernel_rfl : (S22 t0 w R) = cw Try.prog A22 (Try.f22.body.getD .skip) 0 (bodyQ Try.prog Try.f22 R) (frOf #[t0]) w).mp h)

def S20 (t0 t1 : Value) (w : World) (R : Ending → World → Prop) : Prop :=
  ln1 t0 fun t8 =>
  ln1 t1 fun t10 =>
  binQ Try.prog w .neq 3 false t8 t10 fun t11 =>
  condW t11 (
    R (.returned (.bool false)) w
  ) (
    Loop1 (.int .i64 0) w fun _ t5 w next =>
      ln1 t0 fun t14 =>
      binQ Try.prog w .lss 3 false t5 t14 fun t15 =>
      condW t15 (
        Drew w fun w =>
        iaS 1 t0 t5 fun t20 =>
        ld1 w t20 fun t21 =>
        ln1 t21 fun t22 =>
        iaS 1 t1 t5 fun t25 =>
        ld1 w t25 fun t26 =>
        ln1 t26 fun t27 =>
        binQ Try.prog w .neq 3 false t22 t27 fun t28 =>
        condW t28 (
          R (.returned (.bool false)) w
        ) (
          Loop1 (.int .i64 0) w fun _ t6 w next_2 =>
            iaS 1 t0 t5 fun t32 =>
            ld1 w t32 fun t33 =>
            ln1 t33 fun t34 =>
            binQ Try.prog w .lss 3 false t6 t34 fun t35 =>
            condW t35 (
              Drew w fun w =>
              iaS 1 t0 t5 fun t40 =>
              ld1 w t40 fun t41 =>
              iaS 1 t41 t6 fun t43 =>
              ld1 w t43 fun t44 =>
              iaS 1 t1 t5 fun t47 =>
              ld1 w t47 fun t48 =>
              iaS 1 t48 t6 fun t50 =>
              ld1 w t50 fun t51 =>
              binQ Try.prog w .neq 3 false t44 t51 fun t52 =>
              condW t52 (
                R (.returned (.bool false)) w
              ) (
                binQ Try.prog w .add 3 true t6 (.int .i64 1) fun t37 =>
                next_2 t37 w
              )
            ) (
              binQ Try.prog w .add 3 true t5 (.int .i64 1) fun t17 =>
              next t17 w
            )
        )
      ) (
        R (.returned (.bool true)) w
      )
  )

def A20 : Ann where
  live := fun
    | 0 => [5]
    | 2 => [6]
    | _ => []
  wr := fun
    | 0 => fun i => (Nat.ble 4 i && Nat.ble i 6) || (Nat.ble 12 i && Nat.ble i 52)
    | 2 => fun i => Nat.beq i 4 || Nat.beq i 6 || (Nat.ble 29 i && Nat.ble i 52)
    | _ => fun _ => false
  sched := fun
    | 6 => (.take 0 (.take 1 (.take 2 (.take 3 (.take 4 (.take 5 (.take 6 (.take 7 (.take 8 (.take 9 (.take 10 .done)))))))))))
    | 11 => (.take 0 (.take 1 (.take 2 (.take 3 (.take 4 (.take 5 (.take 6 (.take 7 (.take 8 (.take 9 (.take 10 (.take 11 (.take 12 (.take 13 (.take 14 .done)))))))))))))))
    | _ => .done

set_option maxRecDepth 100000 in
theorem ok20 : (codeOk Try.f20.ntmps A20 (Try.f20.body.getD .skip) 0 && Nat.ble 2 Try.f20.ntmps) = true := by kernel_rfl
set_option maxRecDepth 100000 in
theorem lift20 {t0 t1 : Value} {w : World} {R : Ending → World → Prop} (h : S20 t0 t1 w R) : Calls Try.prog 20 #[t0, t1] w R :=
  calls_of_cw (fn := Try.f20) (c := Try.f20.body.getD .skip) A20 mixes Try.func20 (by kernel_rfl) ok20
    ((by kernel_rfl : (S20 t0 t1 w R) = cw Try.prog A20 (Try.f20.body.getD .skip) 0 (bodyQ Try.prog Try.f20 R) (frOf #[t0, t1]) w).mp h)

def S4 (t0 t1 t2 t3 : Value) (w : World) (R : Ending → World → Prop) : Prop :=
  callW Try.prog (.func (.func 12) #[] #[]) [t0, t1, t2, t3] w fun t23 w =>
  exQ t23 0 fun t24 =>
  exQ t23 1 fun t25 =>
  boxW 25 (.agg #[(.int .i64 0), (.int .i64 0), (.int .i64 0)]) w fun t9 w =>
  stW Try.prog 25 t9 t24 w fun w =>
  ldN 3 w t9 fun t27 =>
  callW Try.prog (.func (.func 18) #[] #[]) [t27, t25] w fun t29 w =>
  exQ t29 0 fun t30 =>
  exQ t29 1 fun t31 =>
  ldN 3 w t9 fun t33 =>
  callW Try.prog (.func (.func 19) #[] #[]) [t33, t30] w fun t35 w =>
  exQ t35 0 fun t36 =>
  exQ t35 1 fun t37 =>
  binQ Try.prog w .neq 31 true t31 (.int .i64 0) fun t39 =>
  gd t39 false (fun k => k t37 w) w fun t41 w =>
  gd t39 false (fun k => binQ Try.prog w .neq 31 true t41 (.int .i64 0) fun v => k v w) w fun t42 w =>
  pickQ t39 (.bool true) t42 fun t43 =>
  gd t43 false (fun k => k t36 w) w fun t45 w =>
  gd t43 false (fun k => k t25 w) w fun t46 w =>
  gd t43 false (fun k => callW Try.prog (.func (.func 20) #[] #[]) [t45, t46] w k) w fun t47 w =>
  gd t43 false (fun k => unQ .not t47 fun v => k v w) w fun t48 w =>
  pickQ t43 (.bool true) t48 fun t49 =>
  condW t49 (
    R (.returned (.bool false)) w
  ) (
    ldN 3 w t9 fun t51 =>
    callW Try.prog (.func (.func 21) #[] #[]) [t51] w fun t52 w =>
    exQ t52 0 fun t53 =>
    exQ t52 1 fun t54 =>
    ldN 3 w t9 fun t56 =>
    callW Try.prog (.func (.func 19) #[] #[]) [t56, t53] w fun t58 w =>
    exQ t58 0 fun t59 =>
    exQ t58 1 fun t60 =>
    binQ Try.prog w .neq 31 true t54 (.int .i64 0) fun t62 =>
    gd t62 false (fun k => k t60 w) w fun t64 w =>
    gd t62 false (fun k => binQ Try.prog w .neq 31 true t64 (.int .i64 4) fun v => k v w) w fun t65 w =>
    pickQ t62 (.bool true) t65 fun t66 =>
    gd t66 false (fun k => k t30 w) w fun t68 w =>
    gd t66 false (fun k => binQ Try.prog w .lss 3 true t68 (.int .i64 0) fun v => k v w) w fun t69 w =>
    pickQ t66 (.bool true) t69 fun t70 =>
    gd t70 false (fun k => k t30 w) w fun t72 w =>
    gd t70 false (fun k => k t53 w) w fun t73 w =>
    gd t70 false (fun k => binQ Try.prog w .geq 3 false t72 t73 fun v => k v w) w fun t74 w =>
    pickQ t70 (.bool true) t74 fun t75 =>
    condW t75 (
      R (.returned (.bool false)) w
    ) (
      callW Try.prog (.func (.func 22) #[] #[]) [t25] w fun t77 w =>
      ldN 3 w t9 fun t78 =>
      callW Try.prog (.func (.func 23) #[] #[]) [t78, t77] w fun t80 w =>
      unQ .not t80 fun t81 =>
      condW t81 (
        binQ Try.prog w .sub 3 true t53 (.int .i64 1) fun t84 =>
        binQ Try.prog w .eql 3 false t30 t84 fun t85 =>
        gd t85 true (fun k => callW Try.prog (.func (.func 17) #[] #[]) [] w k) w fun t87 w =>
        pickQ t85 t87 (.bool false) fun t88 =>
        R (.returned t88) w
      ) (
        ldN 3 w t9 fun t90 =>
        callW Try.prog (.func (.func 18) #[] #[]) [t90, t77] w fun t92 w =>
        exQ t92 0 fun t93 =>
        exQ t92 1 fun t94 =>
        binQ Try.prog w .eql 31 true t94 (.int .i64 0) fun t96 =>
        gd t96 true (fun k => k t93 w) w fun t98 w =>
        gd t96 true (fun k => k t30 w) w fun t99 w =>
        gd t96 true (fun k => binQ Try.prog w .add 3 true t99 (.int .i64 1) fun v => k v w) w fun t100 w =>
        gd t96 true (fun k => binQ Try.prog w .eql 3 false t98 t100 fun v => k v w) w fun t101 w =>
        pickQ t96 t101 (.bool false) fun t102 =>
        gd t102 true (fun k => callW Try.prog (.func (.func 17) #[] #[]) [] w k) w fun t104 w =>
        pickQ t102 t104 (.bool false) fun t105 =>
        R (.returned t105) w
      )
    )
  )

def A4 : Ann where
  live := fun _ => []
  wr := fun _ _ => false
  sched := fun _ => .done

set_option maxRecDepth 100000 in
theorem ok4 : (codeOk Try.f4.ntmps A4 (Try.f4.body.getD .skip) 0 && Nat.ble 4 Try.f4.ntmps) = true := by kernel_rfl
set_option maxRecDepth 100000 in
theorem lift4 {t0 t1 t2 t3 : Value} {w : World} {R : Ending → World → Prop} (h : S4 t0 t1 t2 t3 w R) : Calls Try.prog 4 #[t0, t1, t2, t3] w R :=
  calls_of_cw (fn := Try.f4) (c := Try.f4.body.getD .skip) A4 mixes Try.func4 (by kernel_rfl) ok4
    ((by kernel_rfl : (S4 t0 t1 t2 t3 w R) = cw Try.prog A4 (Try.f4.body.getD .skip) 0 (bodyQ Try.prog Try.f4 R) (frOf #[t0, t1, t2, t3]) w).mp h)

theorem fok19 : fnOk Try.prog 19 = true := by kernel_rfl
theorem fok59 : fnOk Try.prog 59 = true := by kernel_rfl
theorem fok22 : fnOk Try.prog 22 = true := by kernel_rfl
theorem fok20 : fnOk Try.prog 20 = true := by kernel_rfl
theorem fok4 : fnOk Try.prog 4 = true := by kernel_rfl
end Go.Proofs.Ytaephdjmpmbfpaa
