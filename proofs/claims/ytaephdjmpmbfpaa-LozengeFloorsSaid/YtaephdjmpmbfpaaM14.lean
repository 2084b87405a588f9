/- Texts of my own, merged by program: Se V2 Lift6. -/
import Derived.Test.YtaephdjmpmbfpaaM02
import Derived.Test.YtaephdjmpmbfpaaM13
import Derived.Test.YtaephdjmpmbfpaaM01
set_option linter.all false
/- Lifted texts, printed by program (gen.py): what each function's code asks. The ties are by the kernel. -/
namespace Go.Proofs.Ytaephdjmpmbfpaa
open Go.Lf Go.RowKit

def S24 (t0 : Value) (w : World) (R : Ending → World → Prop) : Prop :=
  boxW 25 t0 w fun t1 w =>
  ldN 3 w t1 fun t9 =>
  callW Try.prog (.func (.func 28) #[] #[]) [t9] w fun t10 w =>
  exQ t10 0 fun t11 =>
  exQ t10 1 fun t12 =>
  Loop2 (.int .i64 0) (.int .i64 0) w fun _ t6 t7 w next =>
    ln1 t11 fun t15 =>
    binQ Try.prog w .lss 3 false t7 t15 fun t16 =>
    condW t16 (
      iaS 1 t11 t7 fun t22 =>
      ld1 w t22 fun t23 =>
      binQ Try.prog w .add 3 false t6 t23 fun t24 =>
      binQ Try.prog w .add 3 true t7 (.int .i64 1) fun t18 =>
      next t24 t18 w
    ) (
      R (.returned (.tuple #[t6, t12])) w
    )

def A24 : Ann where
  live := fun
    | 0 => [6, 7]
    | _ => []
  wr := fun
    | 0 => fun i => (Nat.ble 6 i && Nat.ble i 7) || (Nat.ble 13 i && Nat.ble i 24)
    | _ => fun _ => false
  sched := fun _ => .done

set_option maxRecDepth 100000 in
theorem ok24 : (codeOk Try.f24.ntmps A24 (Try.f24.body.getD .skip) 0 && Nat.ble 1 Try.f24.ntmps) = true := by kernel_rfl
set_option maxRecDepth 100000 in
theorem lift24 {t0 : Value} {w : World} {R : Ending → World → Prop} (h : S24 t0 w R) : Calls Try.prog 24 #[t0] w R :=
  calls_of_cw (fn := Try.f24) (c := Try.f24.body.getD .skip) A24 mixes Try.func24 (by kernel_rfl) ok24
    ((by kernel_rfl : (S24 t0 w R) = cw Try.prog A24 (Try.f24.body.getD .skip) 0 (bodyQ Try.prog Try.f24 R) (frOf #[t0]) w).mp h)

def S27 (t0 : Value) (w : World) (R : Ending → World → Prop) : Prop :=
  boxW 25 t0 w fun t1 w =>
  ldN 3 w t1 fun t4 =>
  callW Try.prog (.func (.func 58) #[] #[]) [t4] w fun t5 w =>
  unQ .not t5 fun t6 =>
  condW t6 (
    R (.returned (.tuple #[(.slice none 0 0), (.int .i64 2)])) w
  ) (
    Drew w fun w =>
    Join (fun (k_2 : Value → Value → World → Prop) =>
      ldN 3 w t1 fun t7 =>
      fa1 t1 0 fun t8 =>
      ld1 w t8 fun t9 =>
      ldN 3 w t1 fun t10 =>
      And (
        callW Try.prog (.func (.func 53) #[] #[]) [t10] w <| keepB w fun t11 w =>
        bdQ Try.prog 88 [(0, t9), (1, t11)] fun t12 =>
        mmW w <| keepB w fun t13 w =>
        callW Try.prog (.func (.func 65) #[] #[]) [t7, t12, t13] w fun t14 w =>
        callW Try.prog (.func (.func 59) #[] #[]) [t14] w fun t15 w =>
        k_2 t15 (.int .i64 0) w
      ) <|
      And (
        mmW w <| keepB w fun t13_2 w =>
        callW Try.prog (.func (.func 53) #[] #[]) [t10] w <| keepB w fun t11_2 w =>
        bdQ Try.prog 88 [(0, t9), (1, t11_2)] fun t12_2 =>
        callW Try.prog (.func (.func 65) #[] #[]) [t7, t12_2, t13_2] w fun t14_2 w =>
        callW Try.prog (.func (.func 59) #[] #[]) [t14_2] w fun t15_2 w =>
        k_2 t15_2 (.int .i64 0) w
      ) <|
      True
    ) fun t2 t3 w =>
    R (.returned (.tuple #[t2, t3])) w
  )

def A27 : Ann where
  live := fun _ => []
  wr := fun _ _ => false
  sched := fun
    | 3 => (.take 0 (.take 1 (.take 2 (.take 3 (.alt 4 (.take 5 (.eff 6 (.bar 7 (.bar 8 (.take 9 (.take 10 .done)))))) (.alt 6 (.eff 4 (.take 5 (.bar 7 (.bar 8 (.take 9 (.take 10 .done)))))) .nomore))))))
    | _ => .done

set_option maxRecDepth 100000 in
theorem ok27 : (codeOk Try.f27.ntmps A27 (Try.f27.body.getD .skip) 0 && Nat.ble 1 Try.f27.ntmps) = true := by kernel_rfl
set_option maxRecDepth 100000 in
theorem lift27 {t0 : Value} {w : World} {R : Ending → World → Prop} (h : S27 t0 w R) : Calls Try.prog 27 #[t0] w R :=
  calls_of_cw (fn := Try.f27) (c := Try.f27.body.getD .skip) A27 mixes Try.func27 (by kernel_rfl) ok27
    ((by kernel_rfl : (S27 t0 w R) = cw Try.prog A27 (Try.f27.body.getD .skip) 0 (bodyQ Try.prog Try.f27 R) (frOf #[t0]) w).mp h)

def S28 (t0 : Value) (w : World) (R : Ending → World → Prop) : Prop :=
  boxW 25 t0 w fun t1 w =>
  ldN 3 w t1 fun t6 =>
  callW Try.prog (.func (.func 62) #[] #[]) [t6] w fun t7 w =>
  unQ .not t7 fun t8 =>
  condW t8 (
    R (.returned (.tuple #[(.slice none 0 0), (.int .i64 2)])) w
  ) (
    fa1 t1 0 fun t9 =>
    ld1 w t9 fun t10 =>
    fa1 t1 1 fun t11 =>
    ld1 w t11 fun t12 =>
    binQ Try.prog w .mul 3 false t10 t12 fun t13 =>
    fa1 t1 2 fun t14 =>
    ld1 w t14 fun t15 =>
    binQ Try.prog w .mul 3 false t13 t15 fun t16 =>
    binQ Try.prog w .add 3 true t16 (.int .i64 1) fun t17 =>
    mkW Try.prog 36 t17 t17 w fun t18 w =>
    ldN 3 w t1 fun t19 =>
    callW Try.prog (.func (.func 66) #[] #[]) [t19] w fun t20 w =>
    iaS 1 t18 (.int .i64 0) fun t22 =>
    ld1 w t22 fun t23 =>
    binQ Try.prog w .add 3 true t23 (.int .i64 1) fun t24 =>
    iaS 1 t18 (.int .i64 0) fun t25 =>
    stW Try.prog 3 t25 t24 w fun w =>
    Loop0 w fun _ w next =>
      ldN 3 w t1 fun t26 =>
      callW Try.prog (.func (.func 23) #[] #[]) [t26, t20] w fun t28 w =>
      condW t28 (
        callW Try.prog (.func (.func 13) #[] #[]) [t20] w fun t31 w =>
        iaS 1 t18 t31 fun t32 =>
        ld1 w t32 fun t33 =>
        binQ Try.prog w .add 3 true t33 (.int .i64 1) fun t34 =>
        iaS 1 t18 t31 fun t35 =>
        stW Try.prog 3 t35 t34 w fun w =>
        next w
      ) (
        R (.returned (.tuple #[t18, (.int .i64 0)])) w
      )
  )

def A28 : Ann where
  live := fun
    | 0 => []
    | _ => []
  wr := fun
    | 0 => fun i => (Nat.ble 26 i && Nat.ble i 35)
    | _ => fun _ => false
  sched := fun _ => .done

set_option maxRecDepth 100000 in
theorem ok28 : (codeOk Try.f28.ntmps A28 (Try.f28.body.getD .skip) 0 && Nat.ble 1 Try.f28.ntmps) = true := by kernel_rfl
set_option maxRecDepth 100000 in
theorem lift28 {t0 : Value} {w : World} {R : Ending → World → Prop} (h : S28 t0 w R) : Calls Try.prog 28 #[t0] w R :=
  calls_of_cw (fn := Try.f28) (c := Try.f28.body.getD .skip) A28 mixes Try.func28 (by kernel_rfl) ok28
    ((by kernel_rfl : (S28 t0 w R) = cw Try.prog A28 (Try.f28.body.getD .skip) 0 (bodyQ Try.prog Try.f28 R) (frOf #[t0]) w).mp h)

def S29 (t0 t1 : Value) (w : World) (R : Ending → World → Prop) : Prop :=
  ln1 t0 fun t7 =>
  ln1 t1 fun t9 =>
  binQ Try.prog w .neq 3 false t7 t9 fun t10 =>
  condW t10 (
    R (.returned (.bool false)) w
  ) (
    Loop1 (.int .i64 0) w fun _ t5 w next =>
      ln1 t0 fun t13 =>
      binQ Try.prog w .lss 3 false t5 t13 fun t14 =>
      condW t14 (
        Drew w fun w =>
        iaS 1 t0 t5 fun t19 =>
        ld1 w t19 fun t20 =>
        iaS 1 t1 t5 fun t23 =>
        ld1 w t23 fun t24 =>
        binQ Try.prog w .neq 3 false t20 t24 fun t25 =>
        condW t25 (
          R (.returned (.bool false)) w
        ) (
          binQ Try.prog w .add 3 true t5 (.int .i64 1) fun t16 =>
          next t16 w
        )
      ) (
        R (.returned (.bool true)) w
      )
  )

def A29 : Ann where
  live := fun
    | 0 => [5]
    | _ => []
  wr := fun
    | 0 => fun i => (Nat.ble 4 i && Nat.ble i 5) || (Nat.ble 11 i && Nat.ble i 25)
    | _ => fun _ => false
  sched := fun
    | 6 => (.take 0 (.take 1 (.take 2 (.take 3 (.take 4 (.take 5 (.take 6 (.take 7 (.take 8 .done)))))))))
    | _ => .done

set_option maxRecDepth 100000 in
theorem ok29 : (codeOk Try.f29.ntmps A29 (Try.f29.body.getD .skip) 0 && Nat.ble 2 Try.f29.ntmps) = true := by kernel_rfl
set_option maxRecDepth 100000 in
theorem lift29 {t0 t1 : Value} {w : World} {R : Ending → World → Prop} (h : S29 t0 t1 w R) : Calls Try.prog 29 #[t0, t1] w R :=
  calls_of_cw (fn := Try.f29) (c := Try.f29.body.getD .skip) A29 mixes Try.func29 (by kernel_rfl) ok29
    ((by kernel_rfl : (S29 t0 t1 w R) = cw Try.prog A29 (Try.f29.body.getD .skip) 0 (bodyQ Try.prog Try.f29 R) (frOf #[t0, t1]) w).mp h)

def S65 (t0 t1 t2 : Value) (w : World) (R : Ending → World → Prop) : Prop :=
  boxW 25 t0 w fun t3 w =>
  boxW 88 t1 w fun t4 w =>
  ldN 5 w t4 fun t19 =>
  semW Try.prog (lkS 91 t2 t19 true) w fun t20 w =>
  exQ t20 0 fun t21 =>
  exQ t20 1 fun t22 =>
  condW t22 (
    R (.returned t21) w
  ) (
    fa1 t4 0 fun t25 =>
    ld1 w t25 fun t26 =>
    fa1 t3 1 fun t27 =>
    ld1 w t27 fun t28 =>
    binQ Try.prog w .mul 3 false t26 t28 fun t29 =>
    fa1 t3 2 fun t30 =>
    ld1 w t30 fun t31 =>
    binQ Try.prog w .mul 3 false t29 t31 fun t32 =>
    binQ Try.prog w .add 3 true t32 (.int .i64 1) fun t33 =>
    mkW Try.prog 36 t33 t33 w fun t34 w =>
    fa1 t4 0 fun t35 =>
    ld1 w t35 fun t36 =>
    binQ Try.prog w .eql 3 true t36 (.int .i64 0) fun t37 =>
    Join (fun (k_2 : World → Prop) =>
      condW t37 (
        iaS 1 t34 (.int .i64 0) fun t39 =>
        stW Try.prog 3 t39 (.int .i64 1) w fun w =>
        k_2 w
      ) (
        ldN 3 w t3 fun t40 =>
        fa1 t4 1 fun t41 =>
        ldN 4 w t41 fun t42 =>
        callW Try.prog (.func (.func 55) #[] #[]) [t40, t42] w fun t43 w =>
        ln1 t43 fun t44 =>
        Loop1 (.int .i64 0) w fun _ t45 w next =>
          binQ Try.prog w .lss 3 false t45 t44 fun t46 =>
          condW t46 (
            iaS 4 t43 t45 fun t47 =>
            ldN 4 w t47 fun t48 =>
            boxW 80 (.agg #[(.int .i64 0), (.int .i64 0), (.int .i64 0), (.int .i64 0)]) w fun t11 w =>
            stW Try.prog 80 t11 t48 w fun w =>
            ldN 4 w t11 fun t49 =>
            Loop2 (.int .i64 0) (.int .i64 0) w fun _ t12 t50 w next_2 =>
              binQ Try.prog w .lss 3 true t50 (.int .i64 4) fun t51 =>
              condW t51 (
                semW Try.prog (ixS 80 t49 t50) w fun t52 w =>
                binQ Try.prog w .add 3 false t12 t52 fun t55 =>
                binQ Try.prog w .add 3 true t50 (.int .i64 1) fun t56 =>
                next_2 t55 t56 w
              ) (
                ldN 3 w t3 fun t57 =>
                fa1 t4 0 fun t58 =>
                ld1 w t58 fun t59 =>
                binQ Try.prog w .sub 3 true t59 (.int .i64 1) fun t60 =>
                ldN 4 w t11 fun t61 =>
                bdQ Try.prog 88 [(0, t60), (1, t61)] fun t62 =>
                callW Try.prog (.func (.func 65) #[] #[]) [t57, t62, t2] w fun t64 w =>
                ln1 t64 fun t65 =>
                Loop1 (.int .i64 0) w fun _ t66 w next_3 =>
                  binQ Try.prog w .lss 3 false t66 t65 fun t67 =>
                  condW t67 (
                    iaS 1 t64 t66 fun t69 =>
                    ld1 w t69 fun t70 =>
                    binQ Try.prog w .add 3 false t66 t12 fun t74 =>
                    iaS 1 t34 t74 fun t75 =>
                    ld1 w t75 fun t76 =>
                    binQ Try.prog w .add 3 false t76 t70 fun t78 =>
                    iaS 1 t34 t74 fun t79 =>
                    stW Try.prog 3 t79 t78 w fun w =>
                    binQ Try.prog w .add 3 true t66 (.int .i64 1) fun t80 =>
                    next_3 t80 w
                  ) (
                    binQ Try.prog w .add 3 true t45 (.int .i64 1) fun t81 =>
                    next t81 w
                  )
              )
          ) (
            k_2 w
          )
      )
    ) fun w =>
    ldN 5 w t4 fun t83_2 =>
    semW Try.prog (muS 91 t2 t83_2 t34) w fun _ w =>
    R (.returned t34) w
  )

def A65 : Ann where
  live := fun
    | 0 => [45]
    | 2 => [12, 50]
    | 4 => [66]
    | _ => []
  wr := fun
    | 0 => fun i => (Nat.ble 11 i && Nat.ble i 12) || (Nat.ble 14 i && Nat.ble i 16) || (Nat.ble 45 i && Nat.ble i 81)
    | 2 => fun i => Nat.beq i 12 || Nat.beq i 14 || (Nat.ble 50 i && Nat.ble i 56)
    | 4 => fun i => (Nat.ble 15 i && Nat.ble i 16) || (Nat.ble 66 i && Nat.ble i 80)
    | _ => fun _ => false
  sched := fun _ => .done

set_option maxRecDepth 100000 in
theorem ok65 : (codeOk Try.f65.ntmps A65 (Try.f65.body.getD .skip) 0 && Nat.ble 3 Try.f65.ntmps) = true := by kernel_rfl
set_option maxRecDepth 100000 in
theorem lift65 {t0 t1 t2 : Value} {w : World} {R : Ending → World → Prop} (h : S65 t0 t1 t2 w R) : Calls Try.prog 65 #[t0, t1, t2] w R :=
  calls_of_cw (fn := Try.f65) (c := Try.f65.body.getD .skip) A65 mixes Try.func65 (by kernel_rfl) ok65
    ((by kernel_rfl : (S65 t0 t1 t2 w R) = cw Try.prog A65 (Try.f65.body.getD .skip) 0 (bodyQ Try.prog Try.f65 R) (frOf #[t0, t1, t2]) w).mp h)

def S5 (t0 : Value) (w : World) (R : Ending → World → Prop) : Prop :=
  boxW 25 t0 w fun t1 w =>
  ldN 3 w t1 fun t10 =>
  callW Try.prog (.func (.func 21) #[] #[]) [t10] w fun t11 w =>
  exQ t11 0 fun t12 =>
  exQ t11 1 fun t13 =>
  ldN 3 w t1 fun t15 =>
  callW Try.prog (.func (.func 24) #[] #[]) [t15] w fun t16 w =>
  exQ t16 0 fun t17 =>
  exQ t16 1 fun t18 =>
  binQ Try.prog w .neq 3 false t12 t17 fun t21 =>
  gd t21 false (fun k => k t13 w) w fun t23 w =>
  gd t21 false (fun k => k t18 w) w fun t24 w =>
  gd t21 false (fun k => binQ Try.prog w .neq 31 false t23 t24 fun v => k v w) w fun t25 w =>
  pickQ t21 (.bool true) t25 fun t26 =>
  condW t26 (
    R (.returned (.bool false)) w
  ) (
    ldN 3 w t1 fun t28 =>
    callW Try.prog (.func (.func 25) #[] #[]) [t28] w fun t29 w =>
    exQ t29 0 fun t30 =>
    exQ t29 1 fun t31 =>
    ldN 3 w t1 fun t33 =>
    callW Try.prog (.func (.func 26) #[] #[]) [t33] w fun t34 w =>
    exQ t34 0 fun t35 =>
    exQ t34 1 fun t36 =>
    binQ Try.prog w .neq 3 false t30 t35 fun t39 =>
    gd t39 false (fun k => k t31 w) w fun t41 w =>
    gd t39 false (fun k => k t36 w) w fun t42 w =>
    gd t39 false (fun k => binQ Try.prog w .neq 31 false t41 t42 fun v => k v w) w fun t43 w =>
    pickQ t39 (.bool true) t43 fun t44 =>
    condW t44 (
      R (.returned (.bool false)) w
    ) (
      ldN 3 w t1 fun t46 =>
      callW Try.prog (.func (.func 27) #[] #[]) [t46] w fun t47 w =>
      exQ t47 0 fun t48 =>
      exQ t47 1 fun t49 =>
      ldN 3 w t1 fun t51 =>
      callW Try.prog (.func (.func 28) #[] #[]) [t51] w fun t52 w =>
      exQ t52 0 fun t53 =>
      exQ t52 1 fun t54 =>
      callW Try.prog (.func (.func 29) #[] #[]) [t48, t53] w fun t57 w =>
      gd t57 true (fun k => k t49 w) w fun t59 w =>
      gd t57 true (fun k => k t54 w) w fun t60 w =>
      gd t57 true (fun k => binQ Try.prog w .eql 31 false t59 t60 fun v => k v w) w fun t61 w =>
      pickQ t57 t61 (.bool false) fun t62 =>
      gd t62 true (fun k => callW Try.prog (.func (.func 17) #[] #[]) [] w k) w fun t64 w =>
      pickQ t62 t64 (.bool false) fun t65 =>
      R (.returned t65) w
    )
  )

def A5 : Ann where
  live := fun _ => []
  wr := fun _ _ => false
  sched := fun _ => .done

set_option maxRecDepth 100000 in
theorem ok5 : (codeOk Try.f5.ntmps A5 (Try.f5.body.getD .skip) 0 && Nat.ble 1 Try.f5.ntmps) = true := by kernel_rfl
set_option maxRecDepth 100000 in
theorem lift5 {t0 : Value} {w : World} {R : Ending → World → Prop} (h : S5 t0 w R) : Calls Try.prog 5 #[t0] w R :=
  calls_of_cw (fn := Try.f5) (c := Try.f5.body.getD .skip) A5 mixes Try.func5 (by kernel_rfl) ok5
    ((by kernel_rfl : (S5 t0 w R) = cw Try.prog A5 (Try.f5.body.getD .skip) 0 (bodyQ Try.prog Try.f5 R) (frOf #[t0]) w).mp h)

theorem fok24 : fnOk Try.prog 24 = true := by kernel_rfl
theorem fok27 : fnOk Try.prog 27 = true := by kernel_rfl
theorem fok28 : fnOk Try.prog 28 = true := by kernel_rfl
theorem fok29 : fnOk Try.prog 29 = true := by kernel_rfl
theorem fok65 : fnOk Try.prog 65 = true := by kernel_rfl
theorem fok5 : fnOk Try.prog 5 = true := by kernel_rfl
end Go.Proofs.Ytaephdjmpmbfpaa

/- Contracts: sized, Volumes, Count of the specification, numbers. -/
namespace Go.Proofs.Ytaephdjmpmbfpaa
open Go.Lf Go.RowKit Go.Hp

/-- Block m is a map of places to slices of which Q holds. -/
def MapAt (w : World) (m : Nat) (Q : Int → List Int → Value → Prop) : Prop :=
  ∃ es clock, w.heap[m]? = some (.map es clock) ∧ ∀ e ∈ es.toList, ∃ l r, e.key = placeV l r ∧ Fine l r ∧ Q l r e.val

theorem MapAt.lt {w : World} {m : Nat} {Q : Int → List Int → Value → Prop} (h : MapAt w m Q) : m < w.heap.size := let ⟨_, _, h1, _⟩ := h; block_lt h1
theorem MapAt.chg {S : Nat → Prop} {w w' : World} {m : Nat} {Q Q' : Int → List Int → Value → Prop} (h : MapAt w m Q) (hc : Chg S w w') (hs : ¬ S m) (hq : ∀ l r v, Q l r v → Q' l r v) : MapAt w' m Q' :=
  let ⟨es, c, h1, h2⟩ := h; ⟨es, c, hc.at h1 hs, fun e he => let ⟨l, r, a, b, d⟩ := h2 e he; ⟨l, r, a, b, hq _ _ _ d⟩⟩

theorem u91 : Try.prog.underlying 91 = some (.map 88 36) := by kernel_rfl
theorem zero36 (w : World) : (zeroValue 36).run Try.prog w = .ok (.slice none 0 0) w := by kernel_rfl

theorem MapAt.keys {es : Array MapEntry} {Q : Int → List Int → Value → Prop} (h : ∀ e ∈ es.toList, ∃ l r, e.key = placeV l r ∧ Fine l r ∧ Q l r e.val) : ∀ e ∈ es.toList, ∃ l, keyOf Try.prog 88 e.key = some l := fun e he => by
  obtain ⟨l, r, h1, h2, _⟩ := h e he
  rw [h1]; exact h2.key

set_option maxRecDepth 100000 in
/-- A look into the map. -/
theorem r_look91 {w : World} {m : Nat} {Q : Int → List Int → Value → Prop} {l : Int} {r : List Int} {K : Value → World → Prop} (h : MapAt w m Q) (hf : Fine l r) (h1 : ∀ v, Q l r v → K (.tuple #[v, .bool true]) w) (h2 : K (.tuple #[.slice none 0 0, .bool false]) w) :
    semW Try.prog (lkS 91 (.map (some m)) (placeV l r) true) w K := by
  obtain ⟨es, c, hb, hes⟩ := h
  obtain ⟨kl, hkey⟩ := hf.key
  rcases keyed88.find w hkey es.toList (MapAt.keys hes) with ⟨g1, g2⟩ | ⟨j, e0, g1, g2, g3⟩
  · exact semW_of_run (by simp [lkS, Instr.lookup, run_underlying u91, MapKept.run_getObj_map hb, keyed88.check w _ hkey, g1, zero36, Result.andThen]) h2
  · obtain ⟨l', r', e1, e2, e3⟩ := hes e0 (List.mem_of_getElem? g2)
    obtain ⟨rfl, rfl⟩ := placeV_inj (e1.symm.trans g3)
    have h1' := h1 _ e3
    exact semW_of_run (by simp [lkS, Instr.lookup, run_underlying u91, MapKept.run_getObj_map hb, keyed88.check w _ hkey, g1, Result.andThen]) h1'

set_option maxRecDepth 100000 in
/-- A store into the map. -/
theorem r_store91 {w : World} {m : Nat} {Q : Int → List Int → Value → Prop} {l : Int} {r : List Int} {v : Value} {K : Value → World → Prop} (h : MapAt w m Q) (hf : Fine l r) (hv : Q l r v)
    (hk : ∀ w', MapAt w' m Q → Chg (fun k => k = m) w w' → w'.heap.size = w.heap.size → K undef w') :
    semW Try.prog (muS 91 (.map (some m)) (placeV l r) v) w K := by
  obtain ⟨es, c, hb, hes⟩ := h
  obtain ⟨kl, hkey⟩ := hf.key
  have hset : ∀ o : Obj, Chg (fun k => k = m) w { w with heap := w.heap.setIfInBounds m o } ∧ ({ w with heap := w.heap.setIfInBounds m o } : World).heap.size = w.heap.size ∧ ({ w with heap := w.heap.setIfInBounds m o } : World).heap[m]? = some o := fun o =>
    ⟨⟨rfl, rfl, rfl, by simp, fun i _ hn => by simp [Array.getElem?_setIfInBounds_ne (Ne.symm hn)]⟩, by simp, by simp [Array.getElem?_setIfInBounds_self_of_lt (block_lt hb)]⟩
  rcases keyed88.find w hkey es.toList (MapAt.keys hes) with ⟨g1, g2⟩ | ⟨j, e0, g1, g2, g3⟩
  · obtain ⟨s1, s2, s3⟩ := hset (.map (es.push ⟨placeV l r, v, c⟩) (c + 1))
    refine semW_of_skip (by simp [muS, Instr.mapUpdate, run_underlying u91, MapKept.run_getObj_map hb, keyed88.check w _ hkey, g1, MapKept.run_setObj_map _ hb, Result.andThen]) (hk _ ⟨_, _, s3, fun e he => ?_⟩ s1 s2)
    simp only [Array.toList_push, List.mem_append, List.mem_singleton] at he
    rcases he with he | rfl
    · exact hes e he
    · exact ⟨l, r, rfl, hf, hv⟩
  · have hj : es[j]? = some e0 := by simpa using g2
    obtain ⟨s1, s2, s3⟩ := hset (.map (es.modify j fun e => { e with key := placeV l r, val := v }) c)
    refine semW_of_skip (by simp [muS, Instr.mapUpdate, run_underlying u91, MapKept.run_getObj_map hb, keyed88.check w _ hkey, g1, hj, g3, keyed88.stays w hkey, MapKept.run_setObj_map _ hb, Result.andThen]) (hk _ ⟨_, _, s3, fun e he => ?_⟩ s1 s2)
    rw [Array.toList_modify] at he
    obtain ⟨i, hi, ex⟩ := List.getElem_of_mem he
    have hi' : i < es.toList.length := by simpa using hi
    rw [List.getElem_modify] at ex
    split at ex
    · exact ⟨l, r, by rw [← ex], hf, by rw [← ex]; exact hv⟩
    · rw [← ex]; exact hes _ (List.getElem_mem hi')

/-- The slice v lies whole in a block, which is none of F, and reads as l. -/
def RdF (F : Nat → Prop) (w : World) (v : Value) (l : List Int) : Prop := ∃ b, v = .slice (some ⟨b, 0, none⟩) l.length l.length ∧ ¬ F b ∧ w.heap[b]? = some (.cells (intCells l).toArray 3 (0, 0))

theorem RdF.chg {S F : Nat → Prop} {w w' : World} {v : Value} {l : List Int} (h : RdF F w v l) (hc : Chg S w w') (hs : ∀ k, k < w.heap.size → S k → F k) : RdF F w' v l :=
  let ⟨b, h1, h2, h3⟩ := h; ⟨b, h1, h2, hc.at h3 fun hS => h2 (hs b (block_lt h3) hS)⟩
theorem RdF.mono {F F' : Nat → Prop} {w : World} {v : Value} {l : List Int} (h : RdF F w v l) (hf : ∀ k, k < w.heap.size → F' k → F k) : RdF F' w v l :=
  let ⟨b, h1, h2, h3⟩ := h; ⟨b, h1, fun hS => h2 (hf b (block_lt h3) hS), h3⟩
theorem RdF.rd {F : Nat → Prop} {w : World} {v : Value} {l : List Int} (h : RdF F w v l) (hl : l.length ≤ 1000000) : RdInts w v l := by
  obtain ⟨b, rfl, _, h3⟩ := h
  exact ⟨_, _, rfl, by omega, fun _ => ⟨b, 0, rfl, fun i hi => by rw [Nat.zero_add]; exact row_cell h3 hi⟩⟩

/-- What the map knows. -/
abbrev sizedQ (B C : Nat) (F : Nat → Prop) (w : World) : Int → List Int → Value → Prop := fun l r v => 0 ≤ l ∧ RdF F w v (sizedM B C l.toNat r)

theorem MapAt.chgF {S F : Nat → Prop} {w w' : World} {m B C : Nat} (h : MapAt w m (sizedQ B C F w)) (hc : Chg S w w') (hm : ¬ S m) (hs : ∀ k, k < w.heap.size → S k → F k) : MapAt w' m (sizedQ B C F w') :=
  h.chg hc hm fun _ _ _ ⟨h0, hq⟩ => ⟨h0, hq.chg hc hs⟩
theorem MapAt.monoF {F F' : Nat → Prop} {w : World} {m B C : Nat} (h : MapAt w m (sizedQ B C F w)) (hf : ∀ k, k < w.heap.size → F' k → F k) : MapAt w m (sizedQ B C F' w) :=
  h.chg (Chg.refl (fun _ => False) w) (fun h => h) fun _ _ _ ⟨h0, hq⟩ => ⟨h0, hq.mono hf⟩

set_option maxRecDepth 100000 in
theorem ix80 {w : World} {K : Value → World → Prop} {a b c d : Int} : ∀ i : Nat, i < 4 → K (.int .i64 ([a, b, c, d].getD i 0)) w → semW Try.prog (ixS 80 (rowV [a, b, c, d]) (.int .i64 i)) w K
  | 0, _, h => semW_of_run (v := .int .i64 a) (w' := w) (by kernel_rfl) h
  | 1, _, h => semW_of_run (v := .int .i64 b) (w' := w) (by kernel_rfl) h
  | 2, _, h => semW_of_run (v := .int .i64 c) (w' := w) (by kernel_rfl) h
  | 3, _, h => semW_of_run (v := .int .i64 d) (w' := w) (by kernel_rfl) h
  | _ + 4, h, _ => absurd h (by omega)

set_option maxRecDepth 100000 in
theorem ix80r {w : World} {K : Value → World → Prop} {r : List Int} (hr : r.length = 4) (i : Nat) (hi : i < 4) (h : K (.int .i64 (r.getD i 0)) w) : semW Try.prog (ixS 80 (rowV r) (.int .i64 i)) w K := by
  match r, hr with
  | [a, b, c, d], _ => exact ix80 i hi h

theorem zeros_cells (n : Nat) : (Obj.cells (Array.replicate n (.int .i64 0)) 3 (0, 0)) = .cells (intCells (List.replicate n 0)).toArray 3 (0, 0) := by
  simp [intCells]

theorem sized_bound {B C : Nat} (hB : B ≤ 4) (n : Nat) (hn : n ≤ 4) (ab : List Int) (hg : GoodR B C ab) (hC : C ≤ 4) (k : Nat) : 0 ≤ (sizedM B C n ab).getD k 0 ∧ (sizedM B C n ab).getD k 0 ≤ 152587890625 := by
  rw [sized_volL hB n ab hg]
  by_cases hk : k < n * B * C + 1
  · rw [volL_getD hk]
    have h1 := volC_nonneg (allE B n ab) k
    have h2 := volC_le (allE B n ab) k
    have h3 := ways_le (B := B) (ab := ab) hB hn fun k => by have := (hg.2.1 k).2; omega
    rw [ways_length] at h3
    omega
  · rw [List.getD_eq_getElem?_getD, List.getElem?_eq_none (by rw [volL_length]; omega)]
    simp

theorem sized_length (B C : Nat) (hB : B ≤ 4) (n : Nat) (ab : List Int) (hg : GoodR B C ab) : (sizedM B C n ab).length = n * B * C + 1 := by rw [sized_volL hB n ab hg, volL_length]

theorem sum4 {r : List Int} (h : r.length = 4) (hr : ∀ k, 0 ≤ r.getD k 0 ∧ r.getD k 0 ≤ 4) (i : Nat) : 0 ≤ (r.take i).sum ∧ (r.take i).sum ≤ 16 := by
  have := sum_le (M := 4) (r.take i) fun x hx => by
    obtain ⟨k, hk, e⟩ := List.getElem_of_mem (List.mem_of_mem_take hx)
    have := hr k
    rw [getD_lt _ _ _ hk, e] at this
    exact this
  have h3 : (r.take i).length ≤ 4 := by rw [List.length_take]; omega
  omega

set_option maxRecDepth 100000 in
theorem sized_calls (A : Int) (B C m : Nat) (hB : B ≤ 4) (hC : C ≤ 4) : ∀ (n : Nat) (ab : List Int) (F : Nat → Prop) (w : World), n ≤ 4 → GoodR B C ab → (∀ k, F k → k < w.heap.size) → MapAt w m (sizedQ B C F w) →
    Calls Try.prog 65 #[boxV A B C, placeV n ab, .map (some m)] w fun e w' => ∃ v, e = .returned v ∧ RdF F w' v (sizedM B C n ab) ∧ MapAt w' m (sizedQ B C F w') ∧ Chg (fun k => k = m) w w' := by
  intro n
  induction n with
  | zero =>
    intro ab F w hn hg hF hm
    refine lift65 ?_
    unfold S65
    refine r_box fun b3 w1 e3 s1 h3 k1 => ?_
    refine r_box fun b4 w2 e4 s2 h4 k2 => ?_
    have hk : Kp w w2 := Kp.trans k1 k2
    have hfine : Fine ((0 : Nat) : Int) ab := ⟨hg.1, by omega, fun k => by have := hg.2.1 k; omega⟩
    have hm2 : MapAt w2 m (sizedQ B C F w2) := hm.chgF (S := fun _ => False) (Chg.of_kp hk) (fun h => h) fun _ _ h => h.elim
    have hsz : (placeV ((0 : Nat) : Int) ab).cells.size = 5 := by simp [Value.cells, intCells, hg.1]
    rw [r_ldRow (n := 5) h4 hsz, agg_cells]
    refine r_look91 hm2 hfine (fun v hv => ?_) ?_
    · simp (disch := omega) only [r_ln, r_pick, r_pickT, r_pickF, r_condT, r_condF, r_gdTT, r_gdFF, r_gdTF, r_gdFT, r_gqTT, r_gqFF, r_gqTF, r_gqFT, r_not, r_lss, r_leq, r_gtr, r_geq, r_eql, r_neq, r_add, r_sub, r_min2, r_max2, r_min3, r_max3, r_fa, r_iaS, r_iaA, r_ex2a, r_ex2b, r_ex3a, r_ex3b, r_ex3c, r_nc, r_keepE, Nat.zero_add, Nat.add_zero, Nat.mul_one, Int.toNat_natCast, toNat_sub1, toNat_add1, decide_true, decide_false, Bool.not_true, Bool.not_false, if_true, if_false, Bool.false_eq_true, reduceCtorEq]
      exact ⟨v, rfl, hv.2, hm2, Chg.of_kp hk⟩
    have c4 : w2.cell? ⟨b4, 0, none⟩ = some (.int .i64 (0 : Nat)) := by rw [cell_row h4]; rfl
    obtain ⟨c0, c1, c2⟩ := box3 (block_below h3 k2)
    simp (disch := omega) only [r_ln, r_pick, r_pickT, r_pickF, r_condT, r_condF, r_gdTT, r_gdFF, r_gdTF, r_gdFT, r_gqTT, r_gqFF, r_gqTF, r_gqFT, r_not, r_lss, r_leq, r_gtr, r_geq, r_eql, r_neq, r_add, r_sub, r_min2, r_max2, r_min3, r_max3, r_fa, r_iaS, r_iaA, r_ex2a, r_ex2b, r_ex3a, r_ex3b, r_ex3c, r_nc, r_keepE, Nat.zero_add, Nat.add_zero, Nat.mul_one, Int.toNat_natCast, toNat_sub1, toNat_add1, decide_true, decide_false, Bool.not_true, Bool.not_false, if_true, if_false, Bool.false_eq_true, reduceCtorEq, r_ld c4, r_ld c1, r_ld c2, r_mulN, Nat.zero_mul]
    have e1 : ((0 : Nat) : Int) + 1 = ((1 : Nat) : Int) := by omega
    rw [e1]
    refine mk36 (by omega) ?_
    have k3 : Kp w2 (w2.alloc (.cells (Array.replicate 1 (.int .i64 0)) 3)) := below_alloc _
    have h5 := heap_alloc_new w2 (.cells (Array.replicate 1 (.int .i64 0)) 3)
    have s3 : (w2.alloc (.cells (Array.replicate 1 (.int .i64 0)) 3)).heap.size = w2.heap.size + 1 := by show (w2.heap.push _).size = _; simp
    generalize w2.alloc (.cells (Array.replicate 1 (.int .i64 0)) 3) = w3 at *
    rw [zeros_cells] at h5
    have c5 := cell_later k3 c4
    have hz : ((0 : Nat) : Int) = 0 := rfl
    simp (disch := omega) only [r_ln, r_pick, r_pickT, r_pickF, r_condT, r_condF, r_gdTT, r_gdFF, r_gdTF, r_gdFT, r_gqTT, r_gqFF, r_gqTF, r_gqFT, r_not, r_lss, r_leq, r_gtr, r_geq, r_eql, r_neq, r_add, r_sub, r_min2, r_max2, r_min3, r_max3, r_fa, r_iaS, r_iaA, r_ex2a, r_ex2b, r_ex3a, r_ex3b, r_ex3c, r_nc, r_keepE, Nat.zero_add, Nat.add_zero, Nat.mul_one, Int.toNat_natCast, toNat_sub1, toNat_add1, decide_true, decide_false, Bool.not_true, Bool.not_false, if_true, if_false, Bool.false_eq_true, reduceCtorEq, r_ld c5, hz, Int.toNat_zero]
    refine r_join0 (fun w' => Chg (fun k => k = w2.heap.size) w3 w' ∧ w'.heap[w2.heap.size]? = some (.cells (intCells [1]).toArray 3 (0, 0))) ?_ ?_
    · rintro w4 ⟨hc4, h6⟩
      have h44 := hc4.at (block_below h4 k3) (by omega)
      have hkm := hm2.lt
      have hc04 : Chg (fun k => k = w2.heap.size) w2 w4 := (Chg.of_kp k3).trans hc4
      have hm4 : MapAt w4 m (sizedQ B C F w4) := hm2.chgF hc04 (by omega) fun k hk e => by omega
      rw [r_ldRow (n := 5) h44 hsz, agg_cells]
      have hnF : ¬ F w2.heap.size := fun h => by have := hF _ h; have := hk.size; omega
      refine r_store91 hm4 hfine ⟨by omega, w2.heap.size, rfl, hnF, h6⟩ fun w5 hm5 hc5 s5 => ?_
      have hcc : Chg (fun k => k = m) w w5 := (Chg.of_kp (Kp.of_chg (Kp.trans hk k3) hc4 fun i e => by have := hk.size; omega)).trans hc5
      refine ⟨_, rfl, ⟨w2.heap.size, rfl, hnF, hc5.at h6 (by omega)⟩, ?_, hcc⟩
      exact hm5.chg (Chg.refl (fun _ => False) _) (fun h => h) fun l r v ⟨h0, b, g1, g2, g3⟩ => ⟨h0, b, g1, g2, hc5.at g3 fun e => by subst e; obtain ⟨_, _, q, _⟩ := hm4; rw [q] at g3; cases g3⟩
    · intro k hk'
      rw [st3 (row_cell (j := 0) h5 (by simp)) (frozen_row h5)]
      exact hk' _ ⟨Chg.setCell _ _ rfl, row_set (j := 0) (x := 1) h5 rfl⟩
  | succ n ih =>
    intro ab F w hn hg hF hm
    refine lift65 ?_
    unfold S65
    refine r_box fun b3 w1 e3 s1 h3 k1 => ?_
    refine r_box fun b4 w2 e4 s2 h4 k2 => ?_
    have hk : Kp w w2 := Kp.trans k1 k2
    have hfine : Fine ((n + 1 : Nat) : Int) ab := ⟨hg.1, by omega, fun k => by have := hg.2.1 k; omega⟩
    have hm2 : MapAt w2 m (sizedQ B C F w2) := hm.chgF (S := fun _ => False) (Chg.of_kp hk) (fun h => h) fun _ _ h => h.elim
    have hsz : (placeV ((n + 1 : Nat) : Int) ab).cells.size = 5 := by simp [Value.cells, intCells, hg.1]
    rw [r_ldRow (n := 5) h4 hsz, agg_cells]
    refine r_look91 hm2 hfine (fun v hv => ?_) ?_
    · simp (disch := omega) only [r_ln, r_pick, r_pickT, r_pickF, r_condT, r_condF, r_gdTT, r_gdFF, r_gdTF, r_gdFT, r_gqTT, r_gqFF, r_gqTF, r_gqFT, r_not, r_lss, r_leq, r_gtr, r_geq, r_eql, r_neq, r_add, r_sub, r_min2, r_max2, r_min3, r_max3, r_fa, r_iaS, r_iaA, r_ex2a, r_ex2b, r_ex3a, r_ex3b, r_ex3c, r_nc, r_keepE, Nat.zero_add, Nat.add_zero, Nat.mul_one, Int.toNat_natCast, toNat_sub1, toNat_add1, decide_true, decide_false, Bool.not_true, Bool.not_false, if_true, if_false, Bool.false_eq_true, reduceCtorEq]
      exact ⟨v, rfl, hv.2, hm2, Chg.of_kp hk⟩
    have c4 : w2.cell? ⟨b4, 0, none⟩ = some (.int .i64 (n + 1 : Nat)) := by rw [cell_row h4]; rfl
    obtain ⟨c0, c1, c2⟩ := box3 (block_below h3 k2)
    have hb1 : (n + 1) * B ≤ 16 := Nat.mul_le_mul hn hB
    have hb2 : (n + 1) * B * C ≤ 64 := Nat.mul_le_mul hb1 hC
    simp (disch := omega) only [r_ln, r_pick, r_pickT, r_pickF, r_condT, r_condF, r_gdTT, r_gdFF, r_gdTF, r_gdFT, r_gqTT, r_gqFF, r_gqTF, r_gqFT, r_not, r_lss, r_leq, r_gtr, r_geq, r_eql, r_neq, r_add, r_sub, r_min2, r_max2, r_min3, r_max3, r_fa, r_iaS, r_iaA, r_ex2a, r_ex2b, r_ex3a, r_ex3b, r_ex3c, r_nc, r_keepE, Nat.zero_add, Nat.add_zero, Nat.mul_one, Int.toNat_natCast, toNat_sub1, toNat_add1, decide_true, decide_false, Bool.not_true, Bool.not_false, if_true, if_false, Bool.false_eq_true, reduceCtorEq, r_ld c4, r_ld c1, r_ld c2, r_mulN]
    have e1 : (((n + 1) * B * C : Nat) : Int) + 1 = (((n + 1) * B * C + 1 : Nat) : Int) := by omega
    rw [e1]
    have eN : (n + 1) * B * C = n * B * C + B * C := by rw [Nat.add_mul, Nat.add_mul, Nat.one_mul]
    generalize hN : (n + 1) * B * C + 1 = N at *
    refine mk36 (by omega) ?_
    have k3 : Kp w2 (w2.alloc (.cells (Array.replicate N (.int .i64 0)) 3)) := below_alloc _
    have h5 := heap_alloc_new w2 (.cells (Array.replicate N (.int .i64 0)) 3)
    have s3 : (w2.alloc (.cells (Array.replicate N (.int .i64 0)) 3)).heap.size = w2.heap.size + 1 := by show (w2.heap.push _).size = _; simp
    generalize w2.alloc (.cells (Array.replicate N (.int .i64 0)) 3) = w3 at *
    rw [zeros_cells] at h5
    have c5 := cell_later k3 c4
    have hz : ¬ ((n + 1 : Nat) : Int) = 0 := by omega
    simp (disch := omega) only [r_ln, r_pick, r_pickT, r_pickF, r_condT, r_condF, r_gdTT, r_gdFF, r_gdTF, r_gdFT, r_gqTT, r_gqFF, r_gqTF, r_gqFT, r_not, r_lss, r_leq, r_gtr, r_geq, r_eql, r_neq, r_add, r_sub, r_min2, r_max2, r_min3, r_max3, r_fa, r_iaS, r_iaA, r_ex2a, r_ex2b, r_ex3a, r_ex3b, r_ex3c, r_nc, r_keepE, Nat.zero_add, Nat.add_zero, Nat.mul_one, Int.toNat_natCast, toNat_sub1, toNat_add1, decide_true, decide_false, Bool.not_true, Bool.not_false, if_true, if_false, Bool.false_eq_true, reduceCtorEq, r_ld c5, hz]
    have hmlt := hm2.lt
    have hk3 : Kp w w3 := Kp.trans hk k3
    have hksz := hk.size
    obtain ⟨F', hF'⟩ : ∃ F' : Nat → Prop, F' = fun k => F k ∨ k = w2.heap.size := ⟨_, rfl⟩
    have hF'lt : ∀ k, F' k → k < w3.heap.size := fun k hk' => by
      rw [hF'] at hk'
      rcases hk' with h | h
      · have := hF k h; omega
      · omega
    have hm3 : MapAt w3 m (sizedQ B C F' w3) := by
      refine hm2.chg (S := fun _ => False) (Chg.of_kp k3) (fun h => h) fun _ _ _ ⟨h0, b, g1, g2, g3⟩ => ⟨h0, b, g1, fun h => ?_, block_below g3 k3⟩
      rw [hF'] at h
      rcases h with h | h
      · exact g2 h
      · have := block_lt g3; omega
    have hnF : ¬ F w2.heap.size := fun h => by have := hF _ h; omega
    have hmw := hm.lt
    have n4 : ¬ (b4 = m ∨ b4 = w2.heap.size) := by omega
    have n3 : ¬ (b3 = m ∨ b3 = w2.heap.size) := by omega
    -- what the rows below add up to
    have hgood := below_good (by omega) hg
    have hfr := belowM_fine (B := B) (ab := ab) (M := 4) (by decide) fun k => by have := (hg.2.1 k).2; omega
    have hcount := belowM_count (B := B) (ab := ab) hB fun k => by have := (hg.2.1 k).2; omega
    have hdef : sizedM B C (n + 1) ab = (belowM B ab).foldl (fun o r => addTo o r.sum.toNat (sizedM B C n r) (n * B * C + 1)) (List.replicate N 0) := by rw [← hN]; rfl
    have hbelow := below_calls A C B ab
    refine r_join0 (fun w' => Chg (fun k => k = m ∨ k = w2.heap.size) w3 w' ∧ w'.heap[w2.heap.size]? = some (.cells (intCells (sizedM B C (n + 1) ab)).toArray 3 (0, 0)) ∧ MapAt w' m (sizedQ B C F' w')) ?_ ?_
    · rintro w4 ⟨hc4, h6, hm4⟩
      have h44 := hc4.at (block_below h4 k3) (by have := hm.lt; omega)
      rw [r_ldRow (n := 5) h44 hsz, agg_cells]
      have hlen : N = (sizedM B C (n + 1) ab).length := by rw [sized_length B C hB _ _ hg, ← hN]
      have hm4' : MapAt w4 m (sizedQ B C F w4) := hm4.monoF fun k _ h => by rw [hF']; exact .inl h
      refine r_store91 hm4' hfine ⟨by omega, w2.heap.size, by rw [Int.toNat_natCast, ← hlen], hnF, by rw [Int.toNat_natCast]; exact h6⟩ fun w5 hm5 hc5 s5 => ?_
      have hcc : Chg (fun k => k = m) w w5 := by
        have x1 : Chg (fun k => k = m ∨ k = w2.heap.size) w w5 := ((Chg.of_kp hk3).trans hc4).trans (hc5.mono fun _ _ h => .inl h)
        exact x1.mono fun k hk' h => h.elim (fun h => h) fun h => by omega
      refine ⟨_, rfl, ⟨w2.heap.size, by rw [hlen], hnF, hc5.at h6 (by omega)⟩, ?_, hcc⟩
      exact hm5.chg (Chg.refl (fun _ => False) _) (fun h => h) fun l r v ⟨h0, b, g1, g2, g3⟩ => ⟨h0, b, g1, g2, hc5.at g3 fun e => by subst e; obtain ⟨_, _, q, _⟩ := hm4; rw [q] at g3; cases g3⟩
    · intro kj hkj
      have hb33 := block_below h3 (Kp.trans k2 k3)
      have h44 := block_below h4 k3
      have hrow1 : ((placeV ((n + 1 : Nat) : Int) ab).cells.toList.drop 1).take 4 = intCells ab := by
        simp [Value.cells, List.take_of_length_le, intCells, hg.1]
      simp (disch := omega) only [r_ln, r_pick, r_pickT, r_pickF, r_condT, r_condF, r_gdTT, r_gdFF, r_gdTF, r_gdFT, r_gqTT, r_gqFF, r_gqTF, r_gqFT, r_not, r_lss, r_leq, r_gtr, r_geq, r_eql, r_neq, r_add, r_sub, r_min2, r_max2, r_min3, r_max3, r_fa, r_iaS, r_iaA, r_ex2a, r_ex2b, r_ex3a, r_ex3b, r_ex3c, r_nc, r_keepE, Nat.zero_add, Nat.add_zero, Nat.mul_one, Int.toNat_natCast, toNat_sub1, toNat_add1, decide_true, decide_false, Bool.not_true, Bool.not_false, if_true, if_false, Bool.false_eq_true, reduceCtorEq, r_ldRow (n := 3) hb33 rfl, r_ldAt (n := 4) h44 (by omega) hrow1, agg_cells]
      refine r_use fok55 (hbelow w3 hB hg.1 fun k => by have := (hg.2.1 k).2; omega) rfl ?_
      rintro _ w4 ⟨v, rfl, k4, ho⟩
      refine ⟨_, rfl, ?_⟩
      have h4len : ∀ r ∈ belowM B ab, r.length = 4 := fun r hr => (hfr r hr).1
      rw [hdef] at hkj
      have hrsum : ∀ r ∈ belowM B ab, 0 ≤ r.sum ∧ r.sum ≤ B * C := fun r hr => (row_sum hB (hgood r hr)).2
      generalize belowM B ab = rows at *
      obtain ⟨va, vc, rfl⟩ := owned_len ho
      simp (disch := omega) only [r_ln, r_pick, r_pickT, r_pickF, r_condT, r_condF, r_gdTT, r_gdFF, r_gdTF, r_gdFT, r_gqTT, r_gqFF, r_gqTF, r_gqFT, r_not, r_lss, r_leq, r_gtr, r_geq, r_eql, r_neq, r_add, r_sub, r_min2, r_max2, r_min3, r_max3, r_fa, r_iaS, r_iaA, r_ex2a, r_ex2b, r_ex3a, r_ex3b, r_ex3c, r_nc, r_keepE, Nat.zero_add, Nat.add_zero, Nat.mul_one, Int.toNat_natCast, toNat_sub1, toNat_add1, decide_true, decide_false, Bool.not_true, Bool.not_false, if_true, if_false, Bool.false_eq_true, reduceCtorEq]
      have hstep : ∀ i, i < rows.length → (rows.take (i + 1)).foldl (fun o r => addTo o r.sum.toNat (sizedM B C n r) (n * B * C + 1)) (List.replicate N 0) = addTo ((rows.take i).foldl (fun o r => addTo o r.sum.toNat (sizedM B C n r) (n * B * C + 1)) (List.replicate N 0)) (rows.getD i []).sum.toNat (sizedM B C n (rows.getD i [])) (n * B * C + 1) := fun i hi => by
        rw [take_succ' _ _ hi, List.foldl_append, getD_lt _ _ _ hi]; rfl
      have eBC : ((B * C : Nat) : Int) = (B : Int) * C := by simp
      have hpre : ∀ i, i ≤ rows.length → ((rows.take i).foldl (fun o r => addTo o r.sum.toNat (sizedM B C n r) (n * B * C + 1)) (List.replicate N 0)).length = N ∧
          ∀ k, 0 ≤ ((rows.take i).foldl (fun o r => addTo o r.sum.toNat (sizedM B C n r) (n * B * C + 1)) (List.replicate N 0)).getD k 0 ∧ ((rows.take i).foldl (fun o r => addTo o r.sum.toNat (sizedM B C n r) (n * B * C + 1)) (List.replicate N 0)).getD k 0 ≤ i * 152587890625 := by
        intro i
        induction i with
        | zero => intro _; exact ⟨by simp, fun k => by simp [List.getD_eq_getElem?_getD, List.getElem?_replicate]; split <;> simp⟩
        | succ i ihi =>
          intro hi
          obtain ⟨g1, g2⟩ := ihi (by omega)
          have hm' : rows.getD i [] ∈ rows := by rw [getD_lt _ _ _ (show i < rows.length by omega)]; exact List.getElem_mem _
          have hs := hrsum _ hm'
          rw [hstep i (by omega)]
          refine ⟨by rw [addTo_length]; exact g1, fun k => ?_⟩
          rw [addTo_getD _ (by rw [g1]; omega)]
          have := g2 k
          have hb := sized_bound hB n (by omega) _ (hgood _ hm') hC (k - (rows.getD i []).sum.toNat)
          split <;> omega
      refine ⟨fun t45 wr => ∃ i : Nat, i ≤ rows.length ∧ t45 = .int .i64 i ∧ Chg (fun k => k = m ∨ k = w2.heap.size) w4 wr ∧ MapAt wr m (sizedQ B C F' wr) ∧
          wr.heap[w2.heap.size]? = some (.cells (intCells ((rows.take i).foldl (fun o r => addTo o r.sum.toNat (sizedM B C n r) (n * B * C + 1)) (List.replicate N 0))).toArray 3 (0, 0)),
        fun t45 _ => rows.length - (intOf t45).toNat, ⟨0, by omega, rfl, Chg.refl _ _, hm3.chgF (S := fun _ => False) (Chg.of_kp k4) (fun h => h) (fun _ _ h => h.elim), block_below h5 k4⟩, ?_⟩
      rintro _ _ wr ⟨i, hi, rfl, hcr, hmr, hor⟩
      have hk4s := k4.size
      by_cases hlt : i < rows.length
      case neg =>
        have hlt' : ¬ (i : Int) < (rows.length : Int) := by omega
        have e : i = rows.length := by omega
        subst e
        rw [List.take_length] at hor
        simp (disch := omega) only [r_ln, r_pick, r_pickT, r_pickF, r_condT, r_condF, r_gdTT, r_gdFF, r_gdTF, r_gdFT, r_gqTT, r_gqFF, r_gqTF, r_gqFT, r_not, r_lss, r_leq, r_gtr, r_geq, r_eql, r_neq, r_add, r_sub, r_min2, r_max2, r_min3, r_max3, r_fa, r_iaS, r_iaA, r_ex2a, r_ex2b, r_ex3a, r_ex3b, r_ex3c, r_nc, r_keepE, Nat.zero_add, Nat.add_zero, Nat.mul_one, Int.toNat_natCast, toNat_sub1, toNat_add1, decide_true, decide_false, Bool.not_true, Bool.not_false, if_true, if_false, Bool.false_eq_true, reduceCtorEq, hlt']
        exact hkj _ ⟨(Chg.of_kp k4).trans hcr, hor, hmr⟩
      have hlt' : (i : Int) < (rows.length : Int) := by omega
      have hmem : rows.getD i [] ∈ rows := by rw [getD_lt _ _ _ hlt]; exact List.getElem_mem hlt
      have hor2 := owns_chg ho hcr fun k hk' e => by have := owned_block ho hk'; omega
      obtain ⟨g, cap, cur, e, hgb, hgc, hgs, hrw⟩ := rows4 hor2 h4len hlt
      cases e
      have hl4 := h4len _ hmem
      simp (disch := omega) only [r_ln, r_pick, r_pickT, r_pickF, r_condT, r_condF, r_gdTT, r_gdFF, r_gdTF, r_gdFT, r_gqTT, r_gqFF, r_gqTF, r_gqFT, r_not, r_lss, r_leq, r_gtr, r_geq, r_eql, r_neq, r_add, r_sub, r_min2, r_max2, r_min3, r_max3, r_fa, r_iaS, r_iaA, r_ex2a, r_ex2b, r_ex3a, r_ex3b, r_ex3c, r_nc, r_keepE, Nat.zero_add, Nat.add_zero, Nat.mul_one, Int.toNat_natCast, toNat_sub1, toNat_add1, decide_true, decide_false, Bool.not_true, Bool.not_false, if_true, if_false, Bool.false_eq_true, reduceCtorEq, hlt', r_ldAt (n := 4) hgc hgs hrw]
      refine r_box fun b11 q1 e11 s11 g11 x1 => ?_
      refine r_stAll (n := 4) (ty := 80) (v := .agg (intCells (rows.getD i [])).toArray) (by kernel_rfl) (by rw [rowV_size]; exact hl4) (rowV_one _) g11 rfl fun q2 hcq2 hsq2 g11' => ?_
      have x2 : Kp wr q2 := Kp.of_chg x1 hcq2 fun k e => by omega
      have hm22 : MapAt q2 m (sizedQ B C F' q2) := hmr.chgF (S := fun _ => False) (Chg.of_kp x2) (fun h => h) fun _ _ h => h.elim
      have hor3 := block_below hor x2
      have hl4v : (Value.agg (intCells (rows.getD i [])).toArray).cells.size = 4 := by rw [rowV_size]; exact hl4
      rw [r_ldRow (n := 4) g11' hl4v, agg_cells]
      have hrng : ∀ k, 0 ≤ (rows.getD i []).getD k 0 ∧ (rows.getD i []).getD k 0 ≤ 4 := fun k => (hfr _ hmem).2 k
      have hgr := hgood _ hmem
      have hrs := hrsum _ hmem
      obtain ⟨pl1, pl2⟩ := hpre i (by omega)
      have hst := hstep i hlt
      generalize rows.getD i [] = r at *
      generalize (rows.take i).foldl (fun o r => addTo o r.sum.toNat (sizedM B C n r) (n * B * C + 1)) (List.replicate N 0) = out at *
      have hxs := x2.size
      have hcrs := hcr.size
      refine ⟨fun t12 t50 wq => ∃ j : Nat, j ≤ 4 ∧ t50 = .int .i64 j ∧ t12 = .int .i64 (r.take j).sum ∧ q2 = wq, fun _ t50 _ => 4 - (intOf t50).toNat, ⟨0, by omega, rfl, by simp, rfl⟩, ?_⟩
      rintro _ _ _ _ ⟨j, hj, rfl, rfl, rfl⟩
      have hsj := sum4 hl4 hrng j
      by_cases hj4 : j < 4
      case pos =>
        have hj4' : (j : Int) < 4 := by omega
        have hsj1 := sum4 hl4 hrng (j + 1)
        rw [sum_takeI_succ (by omega)] at hsj1
        simp (disch := omega) only [r_ln, r_pick, r_pickT, r_pickF, r_condT, r_condF, r_gdTT, r_gdFF, r_gdTF, r_gdFT, r_gqTT, r_gqFF, r_gqTF, r_gqFT, r_not, r_lss, r_leq, r_gtr, r_geq, r_eql, r_neq, r_add, r_sub, r_min2, r_max2, r_min3, r_max3, r_fa, r_iaS, r_iaA, r_ex2a, r_ex2b, r_ex3a, r_ex3b, r_ex3c, r_nc, r_keepE, Nat.zero_add, Nat.add_zero, Nat.mul_one, Int.toNat_natCast, toNat_sub1, toNat_add1, decide_true, decide_false, Bool.not_true, Bool.not_false, if_true, if_false, Bool.false_eq_true, reduceCtorEq, hj4']
        refine ix80r hl4 j hj4 ?_
        simp (disch := omega) only [r_ln, r_pick, r_pickT, r_pickF, r_condT, r_condF, r_gdTT, r_gdFF, r_gdTF, r_gdFT, r_gqTT, r_gqFF, r_gqTF, r_gqFT, r_not, r_lss, r_leq, r_gtr, r_geq, r_eql, r_neq, r_add, r_sub, r_min2, r_max2, r_min3, r_max3, r_fa, r_iaS, r_iaA, r_ex2a, r_ex2b, r_ex3a, r_ex3b, r_ex3c, r_nc, r_keepE, Nat.zero_add, Nat.add_zero, Nat.mul_one, Int.toNat_natCast, toNat_sub1, toNat_add1, decide_true, decide_false, Bool.not_true, Bool.not_false, if_true, if_false, Bool.false_eq_true, reduceCtorEq]
        exact ⟨⟨j + 1, by omega, by go_num, by rw [sum_takeI_succ (by omega)], trivial⟩, by simp only [intOf]; omega⟩
      have hj4' : ¬ (j : Int) < 4 := by omega
      have ej : j = 4 := by omega
      subst ej
      have etk : (r.take 4).sum = r.sum := by rw [List.take_of_length_le (by omega)]
      rw [etk] at *
      have d4 : q2.cell? ⟨b4, 0, none⟩ = some (.int .i64 (n + 1 : Nat)) := by
        rw [cell_row (block_below (hcr.at (block_below h44 k4) n4) x2)]; rfl
      have d3 := block_below (hcr.at (block_below hb33 k4) n3) x2
      have en : ((n + 1 : Nat) : Int) - 1 = (n : Nat) := by omega
      simp (disch := omega) only [r_ln, r_pick, r_pickT, r_pickF, r_condT, r_condF, r_gdTT, r_gdFF, r_gdTF, r_gdFT, r_gqTT, r_gqFF, r_gqTF, r_gqFT, r_not, r_lss, r_leq, r_gtr, r_geq, r_eql, r_neq, r_add, r_sub, r_min2, r_max2, r_min3, r_max3, r_fa, r_iaS, r_iaA, r_ex2a, r_ex2b, r_ex3a, r_ex3b, r_ex3c, r_nc, r_keepE, Nat.zero_add, Nat.add_zero, Nat.mul_one, Int.toNat_natCast, toNat_sub1, toNat_add1, decide_true, decide_false, Bool.not_true, Bool.not_false, if_true, if_false, Bool.false_eq_true, reduceCtorEq, hj4', r_ldRow (n := 3) d3 rfl, r_ld d4, r_ldRow (n := 4) g11' hl4v, agg_cells, en, bd88 _ hl4]
      refine r_use fok65 (ih r F' q2 (by omega) hgr (fun k hk' => by have := hF'lt k hk'; omega) hm22) rfl ?_
      rintro _ q3 ⟨vl, rfl, hvl, hm33, hc33⟩
      refine ⟨_, rfl, ?_⟩
      have hlen := sized_length B C hB n r hgr
      have hbd := sized_bound hB n (by omega) r hgr hC
      obtain ⟨bl, rfl, hbl, hgl⟩ := hvl
      generalize sizedM B C n r = l at *
      rw [hlen]
      simp (disch := omega) only [r_ln, r_pick, r_pickT, r_pickF, r_condT, r_condF, r_gdTT, r_gdFF, r_gdTF, r_gdFT, r_gqTT, r_gqFF, r_gqTF, r_gqFT, r_not, r_lss, r_leq, r_gtr, r_geq, r_eql, r_neq, r_add, r_sub, r_min2, r_max2, r_min3, r_max3, r_fa, r_iaS, r_iaA, r_ex2a, r_ex2b, r_ex3a, r_ex3b, r_ex3c, r_nc, r_keepE, Nat.zero_add, Nat.add_zero, Nat.mul_one, Int.toNat_natCast, toNat_sub1, toNat_add1, decide_true, decide_false, Bool.not_true, Bool.not_false, if_true, if_false, Bool.false_eq_true, reduceCtorEq]
      have hor4 := hc33.at hor3 (by omega)
      have hq33 := hc33.size
      refine ⟨fun t66 wq => ∃ j : Nat, j ≤ n * B * C + 1 ∧ t66 = .int .i64 j ∧ Chg (fun k => k = w2.heap.size) q3 wq ∧ wq.heap[w2.heap.size]? = some (.cells (intCells (addTo out r.sum.toNat l j)).toArray 3 (0, 0)), fun t66 _ => n * B * C + 1 - (intOf t66).toNat,
        ⟨0, by omega, rfl, Chg.refl _ _, hor4⟩, ?_⟩
      rintro _ _ wq ⟨j, hj2, rfl, hcq, hoq⟩
      by_cases hjl : j < n * B * C + 1
      case neg =>
        have hjl' : ¬ (j : Int) < ((n * B * C + 1 : Nat) : Int) := by omega
        have e : j = n * B * C + 1 := by omega
        subst e
        simp (disch := omega) only [r_ln, r_pick, r_pickT, r_pickF, r_condT, r_condF, r_gdTT, r_gdFF, r_gdTF, r_gdFT, r_gqTT, r_gqFF, r_gqTF, r_gqFT, r_not, r_lss, r_leq, r_gtr, r_geq, r_eql, r_neq, r_add, r_sub, r_min2, r_max2, r_min3, r_max3, r_fa, r_iaS, r_iaA, r_ex2a, r_ex2b, r_ex3a, r_ex3b, r_ex3c, r_nc, r_keepE, Nat.zero_add, Nat.add_zero, Nat.mul_one, Int.toNat_natCast, toNat_sub1, toNat_add1, decide_true, decide_false, Bool.not_true, Bool.not_false, if_true, if_false, Bool.false_eq_true, reduceCtorEq, hjl']
        have hcall : Chg (fun k => k = m ∨ k = w2.heap.size) w4 wq := ((hcr.trans (Chg.of_kp x2)).trans (hc33.mono fun _ _ h => .inl h)).trans (hcq.mono fun _ _ h => .inr h)
        exact ⟨⟨i + 1, by omega, by go_num, hcall, hm33.chgF hcq (by omega) (fun k _ e => by rw [hF']; exact .inr e), by rw [hst]; exact hoq⟩, by simp only [intOf]; omega⟩
      have hjl' : (j : Int) < ((n * B * C + 1 : Nat) : Int) := by omega
      have hne : bl ≠ w2.heap.size := fun e => hbl (by rw [hF']; exact .inr e)
      have cl := row_cell (j := j) (hcq.at hgl hne) (by omega)
      have hal := addTo_length out r.sum.toNat l j
      have es : ((j : Int) + r.sum).toNat = j + r.sum.toNat := by omega
      have co := row_cell (j := j + r.sum.toNat) hoq (by rw [hal, pl1]; omega)
      have hv := addTo_getD (out := out) (s := r.sum.toNat) (l := l) j (by rw [pl1]; omega) (j + r.sum.toNat)
      rw [if_neg (by omega)] at hv
      have hp2 := pl2 (j + r.sum.toNat)
      have hbj := hbd j
      simp (disch := omega) only [r_ln, r_pick, r_pickT, r_pickF, r_condT, r_condF, r_gdTT, r_gdFF, r_gdTF, r_gdFT, r_gqTT, r_gqFF, r_gqTF, r_gqFT, r_not, r_lss, r_leq, r_gtr, r_geq, r_eql, r_neq, r_add, r_sub, r_min2, r_max2, r_min3, r_max3, r_fa, r_iaS, r_iaA, r_ex2a, r_ex2b, r_ex3a, r_ex3b, r_ex3c, r_nc, r_keepE, Nat.zero_add, Nat.add_zero, Nat.mul_one, Int.toNat_natCast, toNat_sub1, toNat_add1, decide_true, decide_false, Bool.not_true, Bool.not_false, if_true, if_false, Bool.false_eq_true, reduceCtorEq, hjl', r_ld cl, es, r_ld co]
      rw [st3 co (frozen_row hoq)]
      exact ⟨⟨j + 1, by omega, by go_num, hcq.trans (Chg.setCell _ _ rfl), row_set hoq rfl⟩, by simp only [intOf]; omega⟩

end Go.Proofs.Ytaephdjmpmbfpaa

/- Lifting, part 6: loops with a number beside them that is not in the frame. -/
namespace Go.Lf

theorem least {P : Nat → Prop} (h : ∃ n, P n) : ∃ n, P n ∧ ∀ m, P m → n ≤ m := by
  obtain ⟨n, hn⟩ := h
  induction n using Nat.strongRecOn with
  | ind n ih =>
    by_cases hx : ∃ m, m < n ∧ P m
    · obtain ⟨m, h1, h2⟩ := hx
      exact ih m h1 h2
    · exact ⟨n, hn, fun m hm => Nat.le_of_not_lt fun hlt => hx ⟨m, hlt, hm⟩⟩

noncomputable def leastN (P : Nat → Prop) : Nat := by
  classical exact if h : ∃ n, P n then Classical.choose (least h) else 0

theorem leastN_spec {P : Nat → Prop} (h : ∃ n, P n) : P (leastN P) ∧ ∀ m, P m → leastN P ≤ m := by
  unfold leastN
  rw [dif_pos h]
  exact Classical.choose_spec (least h)

theorem loop0_ghost {w0 : World} {body : Fr → World → (World → Prop) → Prop} (I : Nat → World → Prop) (n0 : Nat) (h0 : I n0 w0)
    (h : ∀ (junk : Fr) (n : Nat) (w : World) (next : World → Prop), I n w → (∀ w' n', n' < n → I n' w' → next w') → body junk w next) : Loop0 w0 body :=
  ⟨fun w => ∃ n, I n w, fun w => leastN fun n => I n w, ⟨n0, h0⟩, fun junk w hw => h junk _ w _ (leastN_spec hw).1 fun w' n' hlt hi => ⟨⟨n', hi⟩, Nat.lt_of_le_of_lt ((leastN_spec ⟨n', hi⟩).2 n' hi) hlt⟩⟩

theorem loop1_ghost {a0 : Value} {w0 : World} {body : Fr → Value → World → (Value → World → Prop) → Prop} (I : Nat → Value → World → Prop) (n0 : Nat) (h0 : I n0 a0 w0)
    (h : ∀ (junk : Fr) (n : Nat) (a : Value) (w : World) (next : Value → World → Prop), I n a w → (∀ a' w' n', n' < n → I n' a' w' → next a' w') → body junk a w next) : Loop1 a0 w0 body :=
  ⟨fun a w => ∃ n, I n a w, fun a w => leastN fun n => I n a w, ⟨n0, h0⟩, fun junk a w hw => h junk _ a w _ (leastN_spec hw).1 fun a' w' n' hlt hi => ⟨⟨n', hi⟩, Nat.lt_of_le_of_lt ((leastN_spec ⟨n', hi⟩).2 n' hi) hlt⟩⟩

end Go.Lf
