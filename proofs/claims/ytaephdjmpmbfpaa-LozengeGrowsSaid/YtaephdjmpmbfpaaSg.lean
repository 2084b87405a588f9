/- Lifted texts, printed by program (gen.py): what each function's code asks. The ties are by the kernel. -/
import Derived.Test.YtaephdjmpmbfpaaBase
set_option linter.all false
namespace Go.Proofs.Ytaephdjmpmbfpaa
open Go.Lf Go.RowKit

def S7 (t0 t1 t2 : Value) (w : World) (R : Ending → World → Prop) : Prop :=
  binQ Try.prog w .rem 5 true t0 (.int .u8 4) fun t27 =>
  cv1 .i64 t27 fun t28 =>
  binQ Try.prog w .add 3 true (.int .i64 1) t28 fun t29 =>
  binQ Try.prog w .rem 5 true t1 (.int .u8 4) fun t31 =>
  cv1 .i64 t31 fun t32 =>
  binQ Try.prog w .add 3 true (.int .i64 1) t32 fun t33 =>
  binQ Try.prog w .rem 5 true t2 (.int .u8 4) fun t35 =>
  cv1 .i64 t35 fun t36 =>
  binQ Try.prog w .add 3 true (.int .i64 1) t36 fun t37 =>
  bdQ Try.prog 25 [(0, t29), (1, t33), (2, t37)] fun t38 =>
  boxW 25 (.agg #[(.int .i64 0), (.int .i64 0), (.int .i64 0)]) w fun t7 w =>
  stW Try.prog 25 t7 t38 w fun w =>
  Loop3 (.int .i64 1) (.int .i64 1) (.int .i64 1) w fun _ t8 t9 t10 w next =>
    fa1 t7 0 fun t40 =>
    ld1 w t40 fun t41 =>
    binQ Try.prog w .leq 3 false t10 t41 fun t42 =>
    condW t42 (
      Loop3 t8 t9 (.int .i64 1) w fun _ t8_2 t9_2 t11 w next_2 =>
        fa1 t7 1 fun t46 =>
        ld1 w t46 fun t47 =>
        binQ Try.prog w .leq 3 false t11 t47 fun t48 =>
        condW t48 (
          Loop3 t8_2 t9_2 (.int .i64 1) w fun _ t8_3 t9_3 t12 w next_3 =>
            fa1 t7 2 fun t52 =>
            ld1 w t52 fun t53 =>
            binQ Try.prog w .leq 3 false t12 t53 fun t54 =>
            condW t54 (
              binQ Try.prog w .add 3 false t10 t11 fun t60 =>
              binQ Try.prog w .add 3 false t60 t12 fun t62 =>
              binQ Try.prog w .sub 3 true t62 (.int .i64 1) fun t63 =>
              binQ Try.prog w .mul 3 false t8_3 t63 fun t64 =>
              binQ Try.prog w .add 3 false t10 t11 fun t68 =>
              binQ Try.prog w .add 3 false t68 t12 fun t70 =>
              binQ Try.prog w .sub 3 true t70 (.int .i64 2) fun t71 =>
              binQ Try.prog w .mul 3 false t9_3 t71 fun t72 =>
              callW Try.prog (.func (.func 35) #[] #[]) [t64, t72] w fun t75 w =>
              binQ Try.prog w .quo 3 false t64 t75 fun t78 =>
              binQ Try.prog w .quo 3 false t72 t75 fun t81 =>
              binQ Try.prog w .add 3 true t12 (.int .i64 1) fun t56 =>
              next_3 t78 t81 t56 w
            ) (
              binQ Try.prog w .add 3 true t11 (.int .i64 1) fun t50 =>
              next_2 t8_3 t9_3 t50 w
            )
        ) (
          binQ Try.prog w .add 3 true t10 (.int .i64 1) fun t44 =>
          next t8_2 t9_2 t44 w
        )
    ) (
      ldN 3 w t7 fun t83 =>
      callW Try.prog (.func (.func 21) #[] #[]) [t83] w fun t84 w =>
      exQ t84 0 fun t85 =>
      exQ t84 1 fun t86 =>
      ldN 3 w t7 fun t88 =>
      callW Try.prog (.func (.func 25) #[] #[]) [t88] w fun t89 w =>
      exQ t89 0 fun t90 =>
      exQ t89 1 fun t91 =>
      ldN 3 w t7 fun t93 =>
      callW Try.prog (.func (.func 27) #[] #[]) [t93] w fun t94 w =>
      exQ t94 0 fun t95 =>
      exQ t94 1 fun t96 =>
      fa1 t7 2 fun t98 =>
      ld1 w t98 fun t99 =>
      fa1 t7 0 fun t100 =>
      ld1 w t100 fun t101 =>
      fa1 t7 1 fun t102 =>
      ld1 w t102 fun t103 =>
      bdQ Try.prog 25 [(0, t99), (1, t101), (2, t103)] fun t104 =>
      callW Try.prog (.func (.func 21) #[] #[]) [t104] w fun t105 w =>
      exQ t105 0 fun t106 =>
      exQ t105 1 fun t107 =>
      fa1 t7 1 fun t109 =>
      ld1 w t109 fun t110 =>
      fa1 t7 0 fun t111 =>
      ld1 w t111 fun t112 =>
      fa1 t7 2 fun t113 =>
      ld1 w t113 fun t114 =>
      bdQ Try.prog 25 [(0, t110), (1, t112), (2, t114)] fun t115 =>
      callW Try.prog (.func (.func 25) #[] #[]) [t115] w fun t116 w =>
      exQ t116 0 fun t117 =>
      exQ t116 1 fun t118 =>
      binQ Try.prog w .neq 31 true t86 (.int .i64 0) fun t120 =>
      gd t120 false (fun k => k t91 w) w fun t122 w =>
      gd t120 false (fun k => binQ Try.prog w .neq 31 true t122 (.int .i64 0) fun v => k v w) w fun t123 w =>
      pickQ t120 (.bool true) t123 fun t124 =>
      gd t124 false (fun k => k t96 w) w fun t126 w =>
      gd t124 false (fun k => binQ Try.prog w .neq 31 true t126 (.int .i64 0) fun v => k v w) w fun t127 w =>
      pickQ t124 (.bool true) t127 fun t128 =>
      gd t128 false (fun k => k t107 w) w fun t130 w =>
      gd t128 false (fun k => binQ Try.prog w .neq 31 true t130 (.int .i64 0) fun v => k v w) w fun t131 w =>
      pickQ t128 (.bool true) t131 fun t132 =>
      gd t132 false (fun k => k t118 w) w fun t134 w =>
      gd t132 false (fun k => binQ Try.prog w .neq 31 true t134 (.int .i64 0) fun v => k v w) w fun t135 w =>
      pickQ t132 (.bool true) t135 fun t136 =>
      gd t136 false (fun k => k t9 w) w fun t138 w =>
      gd t136 false (fun k => binQ Try.prog w .neq 3 true t138 (.int .i64 1) fun v => k v w) w fun t139 w =>
      pickQ t136 (.bool true) t139 fun t140 =>
      gd t140 false (fun k => k t85 w) w fun t142 w =>
      gd t140 false (fun k => k t8 w) w fun t143 w =>
      gd t140 false (fun k => binQ Try.prog w .neq 3 false t142 t143 fun v => k v w) w fun t144 w =>
      pickQ t140 (.bool true) t144 fun t145 =>
      gd t145 false (fun k => k t90 w) w fun t147 w =>
      gd t145 false (fun k => k t8 w) w fun t148 w =>
      gd t145 false (fun k => binQ Try.prog w .neq 3 false t147 t148 fun v => k v w) w fun t149 w =>
      pickQ t145 (.bool true) t149 fun t150 =>
      gd t150 false (fun k => k t106 w) w fun t152 w =>
      gd t150 false (fun k => k t8 w) w fun t153 w =>
      gd t150 false (fun k => binQ Try.prog w .neq 3 false t152 t153 fun v => k v w) w fun t154 w =>
      pickQ t150 (.bool true) t154 fun t155 =>
      gd t155 false (fun k => k t117 w) w fun t157 w =>
      gd t155 false (fun k => k t8 w) w fun t158 w =>
      gd t155 false (fun k => binQ Try.prog w .neq 3 false t157 t158 fun v => k v w) w fun t159 w =>
      pickQ t155 (.bool true) t159 fun t160 =>
      condW t160 (
        R (.returned (.bool false)) w
      ) (
        Loop2 (.int .i64 0) (.int .i64 0) w fun _ t24 t25 w next_4 =>
          ln1 t95 fun t163 =>
          binQ Try.prog w .lss 3 false t25 t163 fun t164 =>
          condW t164 (
            iaS 1 t95 t25 fun t170 =>
            ld1 w t170 fun t171 =>
            binQ Try.prog w .add 3 false t24 t171 fun t172 =>
            Drew w fun w =>
            iaS 1 t95 t25 fun t175 =>
            ld1 w t175 fun t176 =>
            ln1 t95 fun t179 =>
            binQ Try.prog w .sub 3 true t179 (.int .i64 1) fun t180 =>
            binQ Try.prog w .sub 3 false t180 t25 fun t182 =>
            iaS 1 t95 t182 fun t183 =>
            ld1 w t183 fun t184 =>
            binQ Try.prog w .neq 3 false t176 t184 fun t185 =>
            gdQ t185 false (fun k => k t95) fun t187 =>
            gdQ t185 false (fun k => k t25) fun t188 =>
            gdQ t185 false (fun k => iaS 1 t187 t188 k) fun t189 =>
            gdQ t185 false (fun k => ld1 w t189 k) fun t190 =>
            gdQ t185 false (fun k => binQ Try.prog w .lss 3 true t190 (.int .i64 1) k) fun t191 =>
            pickQ t185 (.bool true) t191 fun t192 =>
            condW t192 (
              R (.returned (.bool false)) w
            ) (
              binQ Try.prog w .add 3 true t25 (.int .i64 1) fun t166 =>
              next_4 t172 t166 w
            )
          ) (
            binQ Try.prog w .eql 3 false t24 t8 fun t195 =>
            gd t195 true (fun k => k t95 w) w fun t197 w =>
            gd t195 true (fun k => ln1 t197 fun v => k v w) w fun t198 w =>
            gd t195 true (fun k => fa1 t7 0 fun v => k v w) w fun t199 w =>
            gd t195 true (fun k => ld1 w t199 fun v => k v w) w fun t200 w =>
            gd t195 true (fun k => fa1 t7 1 fun v => k v w) w fun t201 w =>
            gd t195 true (fun k => ld1 w t201 fun v => k v w) w fun t202 w =>
            gd t195 true (fun k => binQ Try.prog w .mul 3 false t200 t202 fun v => k v w) w fun t203 w =>
            gd t195 true (fun k => fa1 t7 2 fun v => k v w) w fun t204 w =>
            gd t195 true (fun k => ld1 w t204 fun v => k v w) w fun t205 w =>
            gd t195 true (fun k => binQ Try.prog w .mul 3 false t203 t205 fun v => k v w) w fun t206 w =>
            gd t195 true (fun k => binQ Try.prog w .add 3 true t206 (.int .i64 1) fun v => k v w) w fun t207 w =>
            gd t195 true (fun k => binQ Try.prog w .eql 3 false t198 t207 fun v => k v w) w fun t208 w =>
            pickQ t195 t208 (.bool false) fun t209 =>
            gd t209 true (fun k => callW Try.prog (.func (.func 17) #[] #[]) [] w k) w fun t211 w =>
            pickQ t209 t211 (.bool false) fun t212 =>
            R (.returned t212) w
          )
      )
    )

def A7 : Ann where
  live := fun
    | 0 => [8, 9, 10]
    | 2 => [8, 9, 11]
    | 4 => [8, 9, 12]
    | 6 => [24, 25]
    | _ => []
  wr := fun
    | 0 => fun i => (Nat.ble 8 i && Nat.ble i 13) || (Nat.ble 39 i && Nat.ble i 81)
    | 2 => fun i => (Nat.ble 8 i && Nat.ble i 9) || (Nat.ble 11 i && Nat.ble i 13) || (Nat.ble 45 i && Nat.ble i 81)
    | 4 => fun i => (Nat.ble 8 i && Nat.ble i 9) || (Nat.ble 12 i && Nat.ble i 13) || (Nat.ble 51 i && Nat.ble i 81)
    | 6 => fun i => Nat.beq i 6 || (Nat.ble 24 i && Nat.ble i 25) || (Nat.ble 161 i && Nat.ble i 192)
    | _ => fun _ => false
  sched := fun
    | 29 => (.take 0 (.take 1 (.take 2 (.take 3 (.take 4 (.take 5 (.take 6 (.take 7 (.take 8 (.take 9 (.take 10 (.take 11 (.take 12 (.take 13 (.take 14 (.take 15 (.take 16 (.take 17 (.take 18 (.take 19 .done))))))))))))))))))))
    | _ => .done

set_option maxRecDepth 100000 in
theorem ok7 : (codeOk Try.f7.ntmps A7 (Try.f7.body.getD .skip) 0 && Nat.ble 3 Try.f7.ntmps) = true := by kernel_rfl
set_option maxRecDepth 100000 in
theorem lift7 {t0 t1 t2 : Value} {w : World} {R : Ending → World → Prop} (h : S7 t0 t1 t2 w R) : Calls Try.prog 7 #[t0, t1, t2] w R :=
  calls_of_cw (fn := Try.f7) (c := Try.f7.body.getD .skip) A7 mixes Try.func7 (by kernel_rfl) ok7
    ((by kernel_rfl : (S7 t0 t1 t2 w R) = cw Try.prog A7 (Try.f7.body.getD .skip) 0 (bodyQ Try.prog Try.f7 R) (frOf #[t0, t1, t2]) w).mp h)

def S35 (t0 t1 : Value) (w : World) (R : Ending → World → Prop) : Prop :=
  Loop2 t0 t1 w fun _ t0_2 t1_2 w next =>
    binQ Try.prog w .neq 3 true t1_2 (.int .i64 0) fun t6 =>
    condW t6 (
      Drew w fun w =>
      binQ Try.prog w .rem 3 false t0_2 t1_2 fun t10 =>
      next t1_2 t10 w
    ) (
      R (.returned t0_2) w
    )

def A35 : Ann where
  live := fun
    | 0 => [0, 1]
    | _ => []
  wr := fun
    | 0 => fun i => (Nat.ble 0 i && Nat.ble i 1) || (Nat.ble 5 i && Nat.ble i 10)
    | _ => fun _ => false
  sched := fun
    | 2 => (.take 0 (.take 1 (.take 2 (.take 3 (.take 4 (.take 5 .done))))))
    | _ => .done

set_option maxRecDepth 100000 in
theorem ok35 : (codeOk Try.f35.ntmps A35 (Try.f35.body.getD .skip) 0 && Nat.ble 2 Try.f35.ntmps) = true := by kernel_rfl
set_option maxRecDepth 100000 in
theorem lift35 {t0 t1 : Value} {w : World} {R : Ending → World → Prop} (h : S35 t0 t1 w R) : Calls Try.prog 35 #[t0, t1] w R :=
  calls_of_cw (fn := Try.f35) (c := Try.f35.body.getD .skip) A35 mixes Try.func35 (by kernel_rfl) ok35
    ((by kernel_rfl : (S35 t0 t1 w R) = cw Try.prog A35 (Try.f35.body.getD .skip) 0 (bodyQ Try.prog Try.f35 R) (frOf #[t0, t1]) w).mp h)

def S8 (t0 t1 t2 t3 : Value) (w : World) (R : Ending → World → Prop) : Prop :=
  callW Try.prog (.func (.func 12) #[] #[]) [t0, t1, t2, t3] w fun t30 w =>
  exQ t30 0 fun t31 =>
  exQ t30 1 fun t32 =>
  boxW 25 (.agg #[(.int .i64 0), (.int .i64 0), (.int .i64 0)]) w fun t9 w =>
  stW Try.prog 25 t9 t31 w fun w =>
  Drew w fun w =>
  Join (fun (k_2 : Value → Value → World → Prop) =>
    ∃ X : Nat → Prop,
    takeX X w (fun w k => fa1 t9 2 k) fun t33 =>
    takeX X w (fun w k => ld1 w t33 k) fun t34 =>
    takeX X w (fun w k => fa1 t9 0 k) fun t35 =>
    takeX X w (fun w k => ld1 w t35 k) fun t36 =>
    takeX X w (fun w k => fa1 t9 1 k) fun t37 =>
    takeX X w (fun w k => ld1 w t37 k) fun t38 =>
    takeX X w (fun w k => bdQ Try.prog 25 [(0, t34), (1, t36), (2, t38)] k) fun t39 =>
    takeX X w (fun w k => fa1 t9 1 k) fun t40 =>
    takeX X w (fun w k => ld1 w t40 k) fun t41 =>
    takeX X w (fun w k => fa1 t9 2 k) fun t42 =>
    takeX X w (fun w k => ld1 w t42 k) fun t43 =>
    takeX X w (fun w k => fa1 t9 0 k) fun t44 =>
    takeX X w (fun w k => ld1 w t44 k) fun t45 =>
    takeX X w (fun w k => bdQ Try.prog 25 [(0, t41), (1, t43), (2, t45)] k) fun t46 =>
    And (
      boxW 25 (.agg #[(.int .i64 0), (.int .i64 0), (.int .i64 0)]) w <| keepX X w fun t11_2 w =>
      boxW 25 (.agg #[(.int .i64 0), (.int .i64 0), (.int .i64 0)]) w <| keepX X w fun t12_2 w =>
      stW Try.prog 25 t11_2 t39 w <| keepW X w fun w =>
      stW Try.prog 25 t12_2 t46 w fun w =>
      k_2 t11_2 t12_2 w
    ) <|
    And (
      boxW 25 (.agg #[(.int .i64 0), (.int .i64 0), (.int .i64 0)]) w <| keepX X w fun t12_3 w =>
      boxW 25 (.agg #[(.int .i64 0), (.int .i64 0), (.int .i64 0)]) w <| keepX X w fun t11_3 w =>
      stW Try.prog 25 t11_3 t39 w <| keepW X w fun w =>
      stW Try.prog 25 t12_3 t46 w fun w =>
      k_2 t11_3 t12_3 w
    ) <|
    True
  ) fun t11 t12 w =>
  callW Try.prog (.func (.func 13) #[] #[]) [t32] w fun t48 w =>
  ldN 3 w t9 fun t50 =>
  callW Try.prog (.func (.func 36) #[] #[]) [t50, t32] w fun t52 w =>
  exQ t52 0 fun t53 =>
  exQ t52 1 fun t54 =>
  ldN 3 w t9 fun t56 =>
  callW Try.prog (.func (.func 36) #[] #[]) [t56, t53] w fun t58 w =>
  exQ t58 0 fun t59 =>
  exQ t58 1 fun t60 =>
  ldN 3 w t9 fun t62 =>
  callW Try.prog (.func (.func 37) #[] #[]) [t62, t32] w fun t64 w =>
  exQ t64 0 fun t65 =>
  exQ t64 1 fun t66 =>
  fa1 t9 1 fun t68 =>
  ld1 w t68 fun t69 =>
  fa1 t9 0 fun t70 =>
  ld1 w t70 fun t71 =>
  fa1 t9 2 fun t72 =>
  ld1 w t72 fun t73 =>
  bdQ Try.prog 25 [(0, t69), (1, t71), (2, t73)] fun t74 =>
  callW Try.prog (.func (.func 37) #[] #[]) [t74, t65] w fun t76 w =>
  exQ t76 0 fun t77 =>
  exQ t76 1 fun t78 =>
  Drew w fun w =>
  binQ Try.prog w .neq 31 true t54 (.int .i64 0) fun t80 =>
  gdQ t80 false (fun k => k t60) fun t82 =>
  gdQ t80 false (fun k => binQ Try.prog w .neq 31 true t82 (.int .i64 0) k) fun t83 =>
  pickQ t80 (.bool true) t83 fun t84 =>
  gdQ t84 false (fun k => k t66) fun t86 =>
  gdQ t84 false (fun k => binQ Try.prog w .neq 31 true t86 (.int .i64 0) k) fun t87 =>
  pickQ t84 (.bool true) t87 fun t88 =>
  gdQ t88 false (fun k => k t78) fun t90 =>
  gdQ t88 false (fun k => binQ Try.prog w .neq 31 true t90 (.int .i64 0) k) fun t91 =>
  pickQ t88 (.bool true) t91 fun t92 =>
  gdQ t92 false (fun k => k t59) fun t94 =>
  gdQ t92 false (fun k => k t32) fun t95 =>
  gd t92 false (fun k => callW Try.prog (.func (.func 20) #[] #[]) [t94, t95] w k) w fun t96 w =>
  gdQ t92 false (fun k => unQ .not t96 k) fun t97 =>
  pickQ t92 (.bool true) t97 fun t98 =>
  gdQ t98 false (fun k => k t77) fun t100 =>
  gdQ t98 false (fun k => k t32) fun t101 =>
  gd t98 false (fun k => callW Try.prog (.func (.func 20) #[] #[]) [t100, t101] w k) w <| keepB w fun t102 w =>
  gdQ t98 false (fun k => unQ .not t102 k) fun t103 =>
  pickQ t98 (.bool true) t103 fun t104 =>
  gdQ t104 false (fun k => k t53) fun t106 =>
  gdQ t104 false (fun k => fa1 t9 0 k) fun t108 =>
  gdQ t104 false (fun k => ld1 w t108 k) fun t109 =>
  gdQ t104 false (fun k => fa1 t9 1 k) fun t110 =>
  gdQ t104 false (fun k => ld1 w t110 k) fun t111 =>
  gdQ t104 false (fun k => binQ Try.prog w .mul 3 false t109 t111 k) fun t112 =>
  gdQ t104 false (fun k => fa1 t9 2 k) fun t113 =>
  gdQ t104 false (fun k => ld1 w t113 k) fun t114 =>
  gdQ t104 false (fun k => binQ Try.prog w .mul 3 false t112 t114 k) fun t115 =>
  gdQ t104 false (fun k => k t48) fun t116 =>
  gdQ t104 false (fun k => binQ Try.prog w .sub 3 false t115 t116 k) fun t117 =>
  gd t104 false (fun k => callW Try.prog (.func (.func 13) #[] #[]) [t106] w k) w <| keepB w fun t107 w =>
  gdQ t104 false (fun k => binQ Try.prog w .neq 3 false t107 t117 k) fun t118 =>
  pickQ t104 (.bool true) t118 fun t119 =>
  gdQ t119 false (fun k => k t65) fun t121 =>
  gdQ t119 false (fun k => k t48) fun t123 =>
  gd t119 false (fun k => callW Try.prog (.func (.func 13) #[] #[]) [t121] w k) w <| keepB w fun t122 w =>
  gdQ t119 false (fun k => binQ Try.prog w .neq 3 false t122 t123 k) fun t124 =>
  pickQ t119 (.bool true) t124 fun t125 =>
  condW t125 (
    R (.returned (.bool false)) w
  ) (
    ldN 3 w t9 fun t127 =>
    callW Try.prog (.func (.func 38) #[] #[]) [t127, t32] w fun t129 w =>
    exQ t129 0 fun t130 =>
    exQ t129 1 fun t131 =>
    ldN 3 w t11 fun t133 =>
    callW Try.prog (.func (.func 38) #[] #[]) [t133, t130] w fun t135 w =>
    exQ t135 0 fun t136 =>
    exQ t135 1 fun t137 =>
    ldN 3 w t12 fun t139 =>
    callW Try.prog (.func (.func 38) #[] #[]) [t139, t136] w fun t141 w =>
    exQ t141 0 fun t142 =>
    exQ t141 1 fun t143 =>
    binQ Try.prog w .eql 31 true t131 (.int .i64 0) fun t145 =>
    gd t145 true (fun k => k t137 w) w fun t147 w =>
    gd t145 true (fun k => binQ Try.prog w .eql 31 true t147 (.int .i64 0) fun v => k v w) w fun t148 w =>
    pickQ t145 t148 (.bool false) fun t149 =>
    gd t149 true (fun k => k t143 w) w fun t151 w =>
    gd t149 true (fun k => binQ Try.prog w .eql 31 true t151 (.int .i64 0) fun v => k v w) w fun t152 w =>
    pickQ t149 t152 (.bool false) fun t153 =>
    gd t153 true (fun k => k t142 w) w fun t155 w =>
    gd t153 true (fun k => k t32 w) w fun t156 w =>
    gd t153 true (fun k => callW Try.prog (.func (.func 20) #[] #[]) [t155, t156] w k) w fun t157 w =>
    pickQ t153 t157 (.bool false) fun t158 =>
    gd t158 true (fun k => k t130 w) w fun t160 w =>
    gd t158 true (fun k => callW Try.prog (.func (.func 13) #[] #[]) [t160] w k) w fun t161 w =>
    gd t158 true (fun k => k t48 w) w fun t162 w =>
    gd t158 true (fun k => binQ Try.prog w .eql 3 false t161 t162 fun v => k v w) w fun t163 w =>
    pickQ t158 t163 (.bool false) fun t164 =>
    gd t164 true (fun k => k t136 w) w fun t166 w =>
    gd t164 true (fun k => callW Try.prog (.func (.func 13) #[] #[]) [t166] w k) w fun t167 w =>
    gd t164 true (fun k => k t48 w) w fun t168 w =>
    gd t164 true (fun k => binQ Try.prog w .eql 3 false t167 t168 fun v => k v w) w fun t169 w =>
    pickQ t164 t169 (.bool false) fun t170 =>
    gd t170 true (fun k => callW Try.prog (.func (.func 17) #[] #[]) [] w k) w fun t172 w =>
    pickQ t170 t172 (.bool false) fun t173 =>
    R (.returned t173) w
  )

def A8 : Ann where
  live := fun _ => []
  wr := fun _ _ => false
  sched := fun
    | 2 => (.cls (.take 0 (.take 1 (.take 2 (.take 3 (.take 4 (.take 5 (.take 6 (.take 7 (.take 8 (.take 9 (.take 10 (.take 11 (.take 12 (.take 13 (.alt 14 (.eff 15 (.eff 16 (.bar 17 .done))) (.alt 15 (.eff 14 (.eff 16 (.bar 17 .done))) .nomore)))))))))))))))))
    | 8 => (.take 0 (.take 1 (.take 2 (.take 3 (.take 4 (.take 5 (.take 6 (.take 7 (.take 8 (.take 9 (.take 10 (.take 11 (.take 12 (.take 13 (.take 14 (.take 15 (.take 16 (.bar 17 (.take 18 (.take 19 (.take 20 (.take 21 (.take 22 (.eff 23 (.take 24 (.take 25 (.take 26 (.take 27 (.take 29 (.take 30 (.take 31 (.take 32 (.take 33 (.take 34 (.take 35 (.take 36 (.take 37 (.take 38 (.eff 28 (.take 39 (.take 40 (.take 41 (.take 42 (.take 44 (.eff 43 (.take 45 (.take 46 .done)))))))))))))))))))))))))))))))))))))))))))))))
    | _ => .done

set_option maxRecDepth 100000 in
theorem ok8 : (codeOk Try.f8.ntmps A8 (Try.f8.body.getD .skip) 0 && Nat.ble 4 Try.f8.ntmps) = true := by kernel_rfl
set_option maxRecDepth 100000 in
theorem lift8 {t0 t1 t2 t3 : Value} {w : World} {R : Ending → World → Prop} (h : S8 t0 t1 t2 t3 w R) : Calls Try.prog 8 #[t0, t1, t2, t3] w R :=
  calls_of_cw (fn := Try.f8) (c := Try.f8.body.getD .skip) A8 mixes Try.func8 (by kernel_rfl) ok8
    ((by kernel_rfl : (S8 t0 t1 t2 t3 w R) = cw Try.prog A8 (Try.f8.body.getD .skip) 0 (bodyQ Try.prog Try.f8 R) (frOf #[t0, t1, t2, t3]) w).mp h)

def S36 (t0 t1 : Value) (w : World) (R : Ending → World → Prop) : Prop :=
  boxW 25 t0 w fun t2 w =>
  ldN 3 w t2 fun t6 =>
  callW Try.prog (.func (.func 69) #[] #[]) [t6, t1, (.func (.func 70) #[] #[])] w fun t8 w =>
  exQ t8 0 fun t9 =>
  exQ t8 1 fun t10 =>
  R (.returned (.tuple #[t9, t10])) w

def A36 : Ann where
  live := fun _ => []
  wr := fun _ _ => false
  sched := fun _ => .done

set_option maxRecDepth 100000 in
theorem ok36 : (codeOk Try.f36.ntmps A36 (Try.f36.body.getD .skip) 0 && Nat.ble 2 Try.f36.ntmps) = true := by kernel_rfl
set_option maxRecDepth 100000 in
theorem lift36 {t0 t1 : Value} {w : World} {R : Ending → World → Prop} (h : S36 t0 t1 w R) : Calls Try.prog 36 #[t0, t1] w R :=
  calls_of_cw (fn := Try.f36) (c := Try.f36.body.getD .skip) A36 mixes Try.func36 (by kernel_rfl) ok36
    ((by kernel_rfl : (S36 t0 t1 w R) = cw Try.prog A36 (Try.f36.body.getD .skip) 0 (bodyQ Try.prog Try.f36 R) (frOf #[t0, t1]) w).mp h)

def S37 (t0 t1 : Value) (w : World) (R : Ending → World → Prop) : Prop :=
  boxW 25 t0 w fun t2 w =>
  ldN 3 w t2 fun t6 =>
  callW Try.prog (.func (.func 69) #[] #[]) [t6, t1, (.func (.func 71) #[] #[])] w fun t8 w =>
  exQ t8 0 fun t9 =>
  exQ t8 1 fun t10 =>
  R (.returned (.tuple #[t9, t10])) w

def A37 : Ann where
  live := fun _ => []
  wr := fun _ _ => false
  sched := fun _ => .done

set_option maxRecDepth 100000 in
theorem ok37 : (codeOk Try.f37.ntmps A37 (Try.f37.body.getD .skip) 0 && Nat.ble 2 Try.f37.ntmps) = true := by kernel_rfl
set_option maxRecDepth 100000 in
theorem lift37 {t0 t1 : Value} {w : World} {R : Ending → World → Prop} (h : S37 t0 t1 w R) : Calls Try.prog 37 #[t0, t1] w R :=
  calls_of_cw (fn := Try.f37) (c := Try.f37.body.getD .skip) A37 mixes Try.func37 (by kernel_rfl) ok37
    ((by kernel_rfl : (S37 t0 t1 w R) = cw Try.prog A37 (Try.f37.body.getD .skip) 0 (bodyQ Try.prog Try.f37 R) (frOf #[t0, t1]) w).mp h)

def S38 (t0 t1 : Value) (w : World) (R : Ending → World → Prop) : Prop :=
  boxW 25 t0 w fun t2 w =>
  ldN 3 w t2 fun t6 =>
  callW Try.prog (.func (.func 69) #[] #[]) [t6, t1, (.func (.func 72) #[] #[])] w fun t8 w =>
  exQ t8 0 fun t9 =>
  exQ t8 1 fun t10 =>
  R (.returned (.tuple #[t9, t10])) w

def A38 : Ann where
  live := fun _ => []
  wr := fun _ _ => false
  sched := fun _ => .done

set_option maxRecDepth 100000 in
theorem ok38 : (codeOk Try.f38.ntmps A38 (Try.f38.body.getD .skip) 0 && Nat.ble 2 Try.f38.ntmps) = true := by kernel_rfl
set_option maxRecDepth 100000 in
theorem lift38 {t0 t1 : Value} {w : World} {R : Ending → World → Prop} (h : S38 t0 t1 w R) : Calls Try.prog 38 #[t0, t1] w R :=
  calls_of_cw (fn := Try.f38) (c := Try.f38.body.getD .skip) A38 mixes Try.func38 (by kernel_rfl) ok38
    ((by kernel_rfl : (S38 t0 t1 w R) = cw Try.prog A38 (Try.f38.body.getD .skip) 0 (bodyQ Try.prog Try.f38 R) (frOf #[t0, t1]) w).mp h)

def S69 (t0 t1 t2 : Value) (w : World) (R : Ending → World → Prop) : Prop :=
  boxW 25 t0 w fun t3 w =>
  ldN 3 w t3 fun t9 =>
  callW Try.prog (.func (.func 47) #[] #[]) [t9, t1] w fun t11 w =>
  binQ Try.prog w .neq 31 true t11 (.int .i64 0) fun t13 =>
  condW t13 (
    R (.returned (.tuple #[(.slice none 0 0), t11])) w
  ) (
    ldN 3 w t3 fun t16 =>
    callW Try.prog t2 [t16, t1] w fun t18 w =>
    R (.returned (.tuple #[t18, (.int .i64 0)])) w
  )

def A69 : Ann where
  live := fun _ => []
  wr := fun _ _ => false
  sched := fun _ => .done

set_option maxRecDepth 100000 in
theorem ok69 : (codeOk Try.f69.ntmps A69 (Try.f69.body.getD .skip) 0 && Nat.ble 3 Try.f69.ntmps) = true := by kernel_rfl
set_option maxRecDepth 100000 in
theorem lift69 {t0 t1 t2 : Value} {w : World} {R : Ending → World → Prop} (h : S69 t0 t1 t2 w R) : Calls Try.prog 69 #[t0, t1, t2] w R :=
  calls_of_cw (fn := Try.f69) (c := Try.f69.body.getD .skip) A69 mixes Try.func69 (by kernel_rfl) ok69
    ((by kernel_rfl : (S69 t0 t1 t2 w R) = cw Try.prog A69 (Try.f69.body.getD .skip) 0 (bodyQ Try.prog Try.f69 R) (frOf #[t0, t1, t2]) w).mp h)

def S70 (t0 t1 : Value) (w : World) (R : Ending → World → Prop) : Prop :=
  boxW 25 t0 w fun t2 w =>
  boxW 26 t1 w fun t3 w =>
  fa1 t2 0 fun t5 =>
  ld1 w t5 fun t6 =>
  fa1 t2 1 fun t7 =>
  ld1 w t7 fun t8 =>
  callW Try.prog (.func (.func 86) #[] #[]) [t6, t8, (.func (.func 87) #[] #[t2, t3])] w fun t10 w =>
  R (.returned t10) w

def A70 : Ann where
  live := fun _ => []
  wr := fun _ _ => false
  sched := fun _ => .done

set_option maxRecDepth 100000 in
theorem ok70 : (codeOk Try.f70.ntmps A70 (Try.f70.body.getD .skip) 0 && Nat.ble 2 Try.f70.ntmps) = true := by kernel_rfl
set_option maxRecDepth 100000 in
theorem lift70 {t0 t1 : Value} {w : World} {R : Ending → World → Prop} (h : S70 t0 t1 w R) : Calls Try.prog 70 #[t0, t1] w R :=
  calls_of_cw (fn := Try.f70) (c := Try.f70.body.getD .skip) A70 mixes Try.func70 (by kernel_rfl) ok70
    ((by kernel_rfl : (S70 t0 t1 w R) = cw Try.prog A70 (Try.f70.body.getD .skip) 0 (bodyQ Try.prog Try.f70 R) (frOf #[t0, t1]) w).mp h)

def S71 (t0 t1 : Value) (w : World) (R : Ending → World → Prop) : Prop :=
  boxW 25 t0 w fun t2 w =>
  boxW 26 t1 w fun t3 w =>
  fa1 t2 1 fun t5 =>
  ld1 w t5 fun t6 =>
  fa1 t2 0 fun t7 =>
  ld1 w t7 fun t8 =>
  callW Try.prog (.func (.func 86) #[] #[]) [t6, t8, (.func (.func 88) #[] #[t3])] w fun t10 w =>
  R (.returned t10) w

def A71 : Ann where
  live := fun _ => []
  wr := fun _ _ => false
  sched := fun _ => .done

set_option maxRecDepth 100000 in
theorem ok71 : (codeOk Try.f71.ntmps A71 (Try.f71.body.getD .skip) 0 && Nat.ble 2 Try.f71.ntmps) = true := by kernel_rfl
set_option maxRecDepth 100000 in
theorem lift71 {t0 t1 : Value} {w : World} {R : Ending → World → Prop} (h : S71 t0 t1 w R) : Calls Try.prog 71 #[t0, t1] w R :=
  calls_of_cw (fn := Try.f71) (c := Try.f71.body.getD .skip) A71 mixes Try.func71 (by kernel_rfl) ok71
    ((by kernel_rfl : (S71 t0 t1 w R) = cw Try.prog A71 (Try.f71.body.getD .skip) 0 (bodyQ Try.prog Try.f71 R) (frOf #[t0, t1]) w).mp h)

def S72 (t0 t1 : Value) (w : World) (R : Ending → World → Prop) : Prop :=
  boxW 25 t0 w fun t2 w =>
  boxW 26 t1 w fun t3 w =>
  fa1 t2 2 fun t5 =>
  ld1 w t5 fun t6 =>
  fa1 t2 0 fun t7 =>
  ld1 w t7 fun t8 =>
  callW Try.prog (.func (.func 86) #[] #[]) [t6, t8, (.func (.func 89) #[] #[t3])] w fun t10 w =>
  R (.returned t10) w

def A72 : Ann where
  live := fun _ => []
  wr := fun _ _ => false
  sched := fun _ => .done

set_option maxRecDepth 100000 in
theorem ok72 : (codeOk Try.f72.ntmps A72 (Try.f72.body.getD .skip) 0 && Nat.ble 2 Try.f72.ntmps) = true := by kernel_rfl
set_option maxRecDepth 100000 in
theorem lift72 {t0 t1 : Value} {w : World} {R : Ending → World → Prop} (h : S72 t0 t1 w R) : Calls Try.prog 72 #[t0, t1] w R :=
  calls_of_cw (fn := Try.f72) (c := Try.f72.body.getD .skip) A72 mixes Try.func72 (by kernel_rfl) ok72
    ((by kernel_rfl : (S72 t0 t1 w R) = cw Try.prog A72 (Try.f72.body.getD .skip) 0 (bodyQ Try.prog Try.f72 R) (frOf #[t0, t1]) w).mp h)

def S86 (t0 t1 t2 : Value) (w : World) (R : Ending → World → Prop) : Prop :=
  Loop2 (.slice none 0 0) (.int .i64 0) w fun _ t7 t12 w next =>
    binQ Try.prog w .lss 3 false t12 t0 fun t13 =>
    condW t13 (
      Loop2 (.slice none 0 0) (.int .i64 0) w fun _ t9 t16 w next_2 =>
        binQ Try.prog w .lss 3 false t16 t1 fun t17 =>
        condW t17 (
          callW Try.prog t2 [t12, t16] w fun t23 w =>
          bsW Try.prog 36 1 [(0, t23)] w fun t24 w =>
          semW Try.prog (apS [36, 36] 36 [t9, t24]) w fun t25 w =>
          binQ Try.prog w .add 3 true t16 (.int .i64 1) fun t26 =>
          next_2 t25 t26 w
        ) (
          bsW Try.prog 26 1 [(0, t9)] w fun t29 w =>
          semW Try.prog (apS [26, 26] 26 [t7, t29]) w fun t30 w =>
          binQ Try.prog w .add 3 true t12 (.int .i64 1) fun t31 =>
          next t30 t31 w
        )
    ) (
      R (.returned t7) w
    )

def A86 : Ann where
  live := fun
    | 0 => [7, 12]
    | 2 => [9, 16]
    | _ => []
  wr := fun
    | 0 => fun i => (Nat.ble 7 i && Nat.ble i 10) || (Nat.ble 12 i && Nat.ble i 31)
    | 2 => fun i => (Nat.ble 9 i && Nat.ble i 10) || (Nat.ble 16 i && Nat.ble i 26)
    | _ => fun _ => false
  sched := fun _ => .done

set_option maxRecDepth 100000 in
theorem ok86 : (codeOk Try.f86.ntmps A86 (Try.f86.body.getD .skip) 0 && Nat.ble 3 Try.f86.ntmps) = true := by kernel_rfl
set_option maxRecDepth 100000 in
theorem lift86 {t0 t1 t2 : Value} {w : World} {R : Ending → World → Prop} (h : S86 t0 t1 t2 w R) : Calls Try.prog 86 #[t0, t1, t2] w R :=
  calls_of_cw (fn := Try.f86) (c := Try.f86.body.getD .skip) A86 mixes Try.func86 (by kernel_rfl) ok86
    ((by kernel_rfl : (S86 t0 t1 t2 w R) = cw Try.prog A86 (Try.f86.body.getD .skip) 0 (bodyQ Try.prog Try.f86 R) (frOf #[t0, t1, t2]) w).mp h)

def S87 (t0 t1 t2 t3 : Value) (w : World) (R : Ending → World → Prop) : Prop :=
  Drew w fun w =>
  fa1 t2 2 fun t7 =>
  ld1 w t7 fun t8 =>
  ld1 w t3 fun t9 =>
  fa1 t2 0 fun t10 =>
  ld1 w t10 fun t11 =>
  binQ Try.prog w .sub 3 true t11 (.int .i64 1) fun t12 =>
  binQ Try.prog w .sub 3 false t12 t0 fun t14 =>
  iaS 1 t9 t14 fun t15 =>
  ld1 w t15 fun t16 =>
  fa1 t2 1 fun t17 =>
  ld1 w t17 fun t18 =>
  binQ Try.prog w .sub 3 true t18 (.int .i64 1) fun t19 =>
  binQ Try.prog w .sub 3 false t19 t1 fun t21 =>
  iaS 1 t16 t21 fun t22 =>
  ld1 w t22 fun t23 =>
  binQ Try.prog w .sub 3 false t8 t23 fun t24 =>
  R (.returned t24) w

def A87 : Ann where
  live := fun _ => []
  wr := fun _ _ => false
  sched := fun
    | 1 => (.take 0 (.take 1 (.take 2 (.take 3 (.take 4 (.take 5 (.take 6 (.take 7 (.take 8 (.take 9 (.take 10 (.take 11 (.take 12 (.take 13 (.take 14 (.take 15 (.take 16 (.take 17 (.take 18 .done)))))))))))))))))))
    | _ => .done

set_option maxRecDepth 100000 in
theorem ok87 : (codeOk Try.f87.ntmps A87 (Try.f87.body.getD .skip) 0 && Nat.ble 4 Try.f87.ntmps) = true := by kernel_rfl
set_option maxRecDepth 100000 in
theorem lift87 {t0 t1 t2 t3 : Value} {w : World} {R : Ending → World → Prop} (h : S87 t0 t1 t2 t3 w R) : Calls Try.prog 87 #[t0, t1, t2, t3] w R :=
  calls_of_cw (fn := Try.f87) (c := Try.f87.body.getD .skip) A87 mixes Try.func87 (by kernel_rfl) ok87
    ((by kernel_rfl : (S87 t0 t1 t2 t3 w R) = cw Try.prog A87 (Try.f87.body.getD .skip) 0 (bodyQ Try.prog Try.f87 R) (frOf #[t0, t1, t2, t3]) w).mp h)

def S88 (t0 t1 t2 : Value) (w : World) (R : Ending → World → Prop) : Prop :=
  ld1 w t2 fun t6 =>
  iaS 1 t6 t1 fun t8 =>
  ld1 w t8 fun t9 =>
  iaS 1 t9 t0 fun t11 =>
  ld1 w t11 fun t12 =>
  R (.returned t12) w

def A88 : Ann where
  live := fun _ => []
  wr := fun _ _ => false
  sched := fun _ => .done

set_option maxRecDepth 100000 in
theorem ok88 : (codeOk Try.f88.ntmps A88 (Try.f88.body.getD .skip) 0 && Nat.ble 3 Try.f88.ntmps) = true := by kernel_rfl
set_option maxRecDepth 100000 in
theorem lift88 {t0 t1 t2 : Value} {w : World} {R : Ending → World → Prop} (h : S88 t0 t1 t2 w R) : Calls Try.prog 88 #[t0, t1, t2] w R :=
  calls_of_cw (fn := Try.f88) (c := Try.f88.body.getD .skip) A88 mixes Try.func88 (by kernel_rfl) ok88
    ((by kernel_rfl : (S88 t0 t1 t2 w R) = cw Try.prog A88 (Try.f88.body.getD .skip) 0 (bodyQ Try.prog Try.f88 R) (frOf #[t0, t1, t2]) w).mp h)

def S89 (t0 t1 t2 : Value) (w : World) (R : Ending → World → Prop) : Prop :=
  ld1 w t2 fun t6 =>
  iaS 1 t6 t1 fun t8 =>
  ld1 w t8 fun t9 =>
  callW Try.prog (.func (.func 77) #[] #[]) [t9, t0] w fun t11 w =>
  R (.returned t11) w

def A89 : Ann where
  live := fun _ => []
  wr := fun _ _ => false
  sched := fun _ => .done

set_option maxRecDepth 100000 in
theorem ok89 : (codeOk Try.f89.ntmps A89 (Try.f89.body.getD .skip) 0 && Nat.ble 3 Try.f89.ntmps) = true := by kernel_rfl
set_option maxRecDepth 100000 in
theorem lift89 {t0 t1 t2 : Value} {w : World} {R : Ending → World → Prop} (h : S89 t0 t1 t2 w R) : Calls Try.prog 89 #[t0, t1, t2] w R :=
  calls_of_cw (fn := Try.f89) (c := Try.f89.body.getD .skip) A89 mixes Try.func89 (by kernel_rfl) ok89
    ((by kernel_rfl : (S89 t0 t1 t2 w R) = cw Try.prog A89 (Try.f89.body.getD .skip) 0 (bodyQ Try.prog Try.f89 R) (frOf #[t0, t1, t2]) w).mp h)

theorem fok7 : fnOk Try.prog 7 = true := by kernel_rfl
theorem fok35 : fnOk Try.prog 35 = true := by kernel_rfl
theorem fok8 : fnOk Try.prog 8 = true := by kernel_rfl
theorem fok36 : fnOk Try.prog 36 = true := by kernel_rfl
theorem fok37 : fnOk Try.prog 37 = true := by kernel_rfl
theorem fok38 : fnOk Try.prog 38 = true := by kernel_rfl
theorem fok69 : fnOk Try.prog 69 = true := by kernel_rfl
theorem fok70 : fnOk Try.prog 70 = true := by kernel_rfl
theorem fok71 : fnOk Try.prog 71 = true := by kernel_rfl
theorem fok72 : fnOk Try.prog 72 = true := by kernel_rfl
theorem fok86 : fnOk Try.prog 86 = true := by kernel_rfl
theorem fok87 : fnOk Try.prog 87 = true := by kernel_rfl
theorem fok88 : fnOk Try.prog 88 = true := by kernel_rfl
theorem fok89 : fnOk Try.prog 89 = true := by kernel_rfl
end Go.Proofs.Ytaephdjmpmbfpaa
