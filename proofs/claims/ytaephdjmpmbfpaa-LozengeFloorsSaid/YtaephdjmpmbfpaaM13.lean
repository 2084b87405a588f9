/- Texts of my own, merged by program: Sg Y1 V1. -/
import Derived.Test.YtaephdjmpmbfpaaM02
import Derived.Test.YtaephdjmpmbfpaaM12
set_option linter.all false
/- Lifted texts, printed by program (gen.py): what each function's code asks. The ties are by the kernel. -/
namespace Go.Proofs.Ytaephdjmpmbfpaa
open Go.Lf Go.RowKit

def S7 (t0 t1 t2 : Value) (w : World) (R : Ending → World → Prop) : Prop :=
  binQ Try.prog w .rem 5 true t0 (.int .u8 4) fun t27 =>
  cv1 .i64 t27 fun t28 =>
  binQ Try.prog w .add 3 true (.int .i64 1) t28 fun t29 =>
  binQ Try.prog w .rem 5 true t1 (.int .u8 4) fun t31 =>
  cv1 .i64 t31 fun t32 =>
  binQ Try.prog w .add 3 true (.int .i64 1) t32 fun t33 =>
  binQ Try.prog w .rem 5 true t2 (.int .u8 4) fun t35 =>
  cv1 .i64 t35 fun t36 =>
  binQ Try.prog w .add 3 true (.int .i64 1) t36 fun t37 =>
  bdQ Try.prog 25 [(0, t29), (1, t33), (2, t37)] fun t38 =>
  boxW 25 (.agg #[(.int .i64 0), (.int .i64 0), (.int .i64 0)]) w fun t7 w =>
  stW Try.prog 25 t7 t38 w fun w =>
  Loop3 (.int .i64 1) (.int .i64 1) (.int .i64 1) w fun _ t8 t9 t10 w next =>
    fa1 t7 0 fun t40 =>
    ld1 w t40 fun t41 =>
    binQ Try.prog w .leq 3 false t10 t41 fun t42 =>
    condW t42 (
      Loop3 t8 t9 (.int .i64 1) w fun _ t8_2 t9_2 t11 w next_2 =>
        fa1 t7 1 fun t46 =>
        ld1 w t46 fun t47 =>
        binQ Try.prog w .leq 3 false t11 t47 fun t48 =>
        condW t48 (
          Loop3 t8_2 t9_2 (.int .i64 1) w fun _ t8_3 t9_3 t12 w next_3 =>
            fa1 t7 2 fun t52 =>
            ld1 w t52 fun t53 =>
            binQ Try.prog w .leq 3 false t12 t53 fun t54 =>
            condW t54 (
              binQ Try.prog w .add 3 false t10 t11 fun t60 =>
              binQ Try.prog w .add 3 false t60 t12 fun t62 =>
              binQ Try.prog w .sub 3 true t62 (.int .i64 1) fun t63 =>
              binQ Try.prog w .mul 3 false t8_3 t63 fun t64 =>
              binQ Try.prog w .add 3 false t10 t11 fun t68 =>
              binQ Try.prog w .add 3 false t68 t12 fun t70 =>
              binQ Try.prog w .sub 3 true t70 (.int .i64 2) fun t71 =>
              binQ Try.prog w .mul 3 false t9_3 t71 fun t72 =>
              callW Try.prog (.func (.func 35) #[] #[]) [t64, t72] w fun t75 w =>
              binQ Try.prog w .quo 3 false t64 t75 fun t78 =>
              binQ Try.prog w .quo 3 false t72 t75 fun t81 =>
              binQ Try.prog w .add 3 true t12 (.int .i64 1) fun t56 =>
              next_3 t78 t81 t56 w
            ) (
              binQ Try.prog w .add 3 true t11 (.int .i64 1) fun t50 =>
              next_2 t8_3 t9_3 t50 w
            )
        ) (
          binQ Try.prog w .add 3 true t10 (.int .i64 1) fun t44 =>
          next t8_2 t9_2 t44 w
        )
    ) (
      ldN 3 w t7 fun t83 =>
      callW Try.prog (.func (.func 21) #[] #[]) [t83] w fun t84 w =>
      exQ t84 0 fun t85 =>
      exQ t84 1 fun t86 =>
      ldN 3 w t7 fun t88 =>
      callW Try.prog (.func (.func 25) #[] #[]) [t88] w fun t89 w =>
      exQ t89 0 fun t90 =>
      exQ t89 1 fun t91 =>
      ldN 3 w t7 fun t93 =>
      callW Try.prog (.func (.func 27) #[] #[]) [t93] w fun t94 w =>
      exQ t94 0 fun t95 =>
      exQ t94 1 fun t96 =>
      fa1 t7 2 fun t98 =>
      ld1 w t98 fun t99 =>
      fa1 t7 0 fun t100 =>
      ld1 w t100 fun t101 =>
      fa1 t7 1 fun t102 =>
      ld1 w t102 fun t103 =>
      bdQ Try.prog 25 [(0, t99), (1, t101), (2, t103)] fun t104 =>
      callW Try.prog (.func (.func 21) #[] #[]) [t104] w fun t105 w =>
      exQ t105 0 fun t106 =>
      exQ t105 1 fun t107 =>
      fa1 t7 1 fun t109 =>
      ld1 w t109 fun t110 =>
      fa1 t7 0 fun t111 =>
      ld1 w t111 fun t112 =>
      fa1 t7 2 fun t113 =>
      ld1 w t113 fun t114 =>
      bdQ Try.prog 25 [(0, t110), (1, t112), (2, t114)] fun t115 =>
      callW Try.prog (.func (.func 25) #[] #[]) [t115] w fun t116 w =>
      exQ t116 0 fun t117 =>
      exQ t116 1 fun t118 =>
      binQ Try.prog w .neq 31 true t86 (.int .i64 0) fun t120 =>
      gd t120 false (fun k => k t91 w) w fun t122 w =>
      gd t120 false (fun k => binQ Try.prog w .neq 31 true t122 (.int .i64 0) fun v => k v w) w fun t123 w =>
      pickQ t120 (.bool true) t123 fun t124 =>
      gd t124 false (fun k => k t96 w) w fun t126 w =>
      gd t124 false (fun k => binQ Try.prog w .neq 31 true t126 (.int .i64 0) fun v => k v w) w fun t127 w =>
      pickQ t124 (.bool true) t127 fun t128 =>
      gd t128 false (fun k => k t107 w) w fun t130 w =>
      gd t128 false (fun k => binQ Try.prog w .neq 31 true t130 (.int .i64 0) fun v => k v w) w fun t131 w =>
      pickQ t128 (.bool true) t131 fun t132 =>
      gd t132 false (fun k => k t118 w) w fun t134 w =>
      gd t132 false (fun k => binQ Try.prog w .neq 31 true t134 (.int .i64 0) fun v => k v w) w fun t135 w =>
      pickQ t132 (.bool true) t135 fun t136 =>
      gd t136 false (fun k => k t9 w) w fun t138 w =>
      gd t136 false (fun k => binQ Try.prog w .neq 3 true t138 (.int .i64 1) fun v => k v w) w fun t139 w =>
      pickQ t136 (.bool true) t139 fun t140 =>
      gd t140 false (fun k => k t85 w) w fun t142 w =>
      gd t140 false (fun k => k t8 w) w fun t143 w =>
      gd t140 false (fun k => binQ Try.prog w .neq 3 false t142 t143 fun v => k v w) w fun t144 w =>
      pickQ t140 (.bool true) t144 fun t145 =>
      gd t145 false (fun k => k t90 w) w fun t147 w =>
      gd t145 false (fun k => k t8 w) w fun t148 w =>
      gd t145 false (fun k => binQ Try.prog w .neq 3 false t147 t148 fun v => k v w) w fun t149 w =>
      pickQ t145 (.bool true) t149 fun t150 =>
      gd t150 false (fun k => k t106 w) w fun t152 w =>
      gd t150 false (fun k => k t8 w) w fun t153 w =>
      gd t150 false (fun k => binQ Try.prog w .neq 3 false t152 t153 fun v => k v w) w fun t154 w =>
      pickQ t150 (.bool true) t154 fun t155 =>
      gd t155 false (fun k => k t117 w) w fun t157 w =>
      gd t155 false (fun k => k t8 w) w fun t158 w =>
      gd t155 false (fun k => binQ Try.prog w .neq 3 false t157 t158 fun v => k v w) w fun t159 w =>
      pickQ t155 (.bool true) t159 fun t160 =>
      condW t160 (
        R (.returned (.bool false)) w
      ) (
        Loop2 (.int .i64 0) (.int .i64 0) w fun _ t24 t25 w next_4 =>
          ln1 t95 fun t163 =>
          binQ Try.prog w .lss 3 false t25 t163 fun t164 =>
          condW t164 (
            iaS 1 t95 t25 fun t170 =>
            ld1 w t170 fun t171 =>
            binQ Try.prog w .add 3 false t24 t171 fun t172 =>
            Drew w fun w =>
            iaS 1 t95 t25 fun t175 =>
            ld1 w t175 fun t176 =>
            ln1 t95 fun t179 =>
            binQ Try.prog w .sub 3 true t179 (.int .i64 1) fun t180 =>
            binQ Try.prog w .sub 3 false t180 t25 fun t182 =>
            iaS 1 t95 t182 fun t183 =>
            ld1 w t183 fun t184 =>
            binQ Try.prog w .neq 3 false t176 t184 fun t185 =>
            gdQ t185 false (fun k => k t95) fun t187 =>
            gdQ t185 false (fun k => k t25) fun t188 =>
            gdQ t185 false (fun k => iaS 1 t187 t188 k) fun t189 =>
            gdQ t185 false (fun k => ld1 w t189 k) fun t190 =>
            gdQ t185 false (fun k => binQ Try.prog w .lss 3 true t190 (.int .i64 1) k) fun t191 =>
            pickQ t185 (.bool true) t191 fun t192 =>
            condW t192 (
              R (.returned (.bool false)) w
            ) (
              binQ Try.prog w .add 3 true t25 (.int .i64 1) fun t166 =>
              next_4 t172 t166 w
            )
          ) (
            binQ Try.prog w .eql 3 false t24 t8 fun t195 =>
            gd t195 true (fun k => k t95 w) w fun t197 w =>
            gd t195 true (fun k => ln1 t197 fun v => k v w) w fun t198 w =>
            gd t195 true (fun k => fa1 t7 0 fun v => k v w) w fun t199 w =>
            gd t195 true (fun k => ld1 w t199 fun v => k v w) w fun t200 w =>
            gd t195 true (fun k => fa1 t7 1 fun v => k v w) w fun t201 w =>
            gd t195 true (fun k => ld1 w t201 fun v => k v w) w fun t202 w =>
            gd t195 true (fun k => binQ Try.prog w .mul 3 false t200 t202 fun v => k v w) w fun t203 w =>
            gd t195 true (fun k => fa1 t7 2 fun v => k v w) w fun t204 w =>
            gd t195 true (fun k => ld1 w t204 fun v => k v w) w fun t205 w =>
            gd t195 true (fun k => binQ Try.prog w .mul 3 false t203 t205 fun v => k v w) w fun t206 w =>
            gd t195 true (fun k => binQ Try.prog w .add 3 true t206 (.int .i64 1) fun v => k v w) w fun t207 w =>
            gd t195 true (fun k => binQ Try.prog w .eql 3 false t198 t207 fun v => k v w) w fun t208 w =>
            pickQ t195 t208 (.bool false) fun t209 =>
            gd t209 true (fun k => callW Try.prog (.func (.func 17) #[] #[]) [] w k) w fun t211 w =>
            pickQ t209 t211 (.bool false) fun t212 =>
            R (.returned t212) w
          )
      )
    )

def A7 : Ann where
  live := fun
    | 0 => [8, 9, 10]
    | 2 => [8, 9, 11]
    | 4 => [8, 9, 12]
    | 6 => [24, 25]
    | _ => []
  wr := fun
    | 0 => fun i => (Nat.ble 8 i && Nat.ble i 13) || (Nat.ble 39 i && Nat.ble i 81)
    | 2 => fun i => (Nat.ble 8 i && Nat.ble i 9) || (Nat.ble 11 i && Nat.ble i 13) || (Nat.ble 45 i && Nat.ble i 81)
    | 4 => fun i => (Nat.ble 8 i && Nat.ble i 9) || (Nat.ble 12 i && Nat.ble i 13) || (Nat.ble 51 i && Nat.ble i 81)
    | 6 => fun i => Nat.beq i 6 || (Nat.ble 24 i && Nat.ble i 25) || (Nat.ble 161 i && Nat.ble i 192)
    | _ => fun _ => false
  sched := fun
    | 29 => (.take 0 (.take 1 (.take 2 (.take 3 (.take 4 (.take 5 (.take 6 (.take 7 (.take 8 (.take 9 (.take 10 (.take 11 (.take 12 (.take 13 (.take 14 (.take 15 (.take 16 (.take 17 (.take 18 (.take 19 .done))))))))))))))))))))
    | _ => .done

set_option maxRecDepth 100000 in
theorem ok7 : (codeOk Try.f7.ntmps A7 (Try.f7.body.getD .skip) 0 && Nat.ble 3 Try.f7.ntmps) = true := by kernel_rfl
set_option maxRecDepth 100000 in
theorem lift7 {t0 t1 t2 : Value} {w : World} {R : Ending → World → Prop} (h : S7 t0 t1 t2 w R) : Calls Try.prog 7 #[t0, t1, t2] w R :=
  calls_of_cw (fn := Try.f7) (c := Try.f7.body.getD .skip) A7 mixes Try.func7 (by kernel_rfl) ok7
    ((by kernel_rfl : (S7 t0 t1 t2 w R) = cw Try.prog A7 (Try.f7.body.getD .skip) 0 (bodyQ Try.prog Try.f7 R) (frOf #[t0, t1, t2]) w).mp h)

def S35 (t0 t1 : Value) (w : World) (R : Ending → World → Prop) : Prop :=
  Loop2 t0 t1 w fun _ t0_2 t1_2 w next =>
    binQ Try.prog w .neq 3 true t1_2 (.int .i64 0) fun t6 =>
    condW t6 (
      Drew w fun w =>
      binQ Try.prog w .rem 3 false t0_2 t1_2 fun t10 =>
      next t1_2 t10 w
    ) (
      R (.returned t0_2) w
    )

def A35 : Ann where
  live := fun
    | 0 => [0, 1]
    | _ => []
  wr := fun
    | 0 => fun i => (Nat.ble 0 i && Nat.ble i 1) || (Nat.ble 5 i && Nat.ble i 10)
    | _ => fun _ => false
  sched := fun
    | 2 => (.take 0 (.take 1 (.take 2 (.take 3 (.take 4 (.take 5 .done))))))
    | _ => .done

set_option maxRecDepth 100000 in
theorem ok35 : (codeOk Try.f35.ntmps A35 (Try.f35.body.getD .skip) 0 && Nat.ble 2 Try.f35.ntmps) = true := by kernel_rfl
set_option maxRecDepth 100000 in
theorem lift35 {t0 t1 : Value} {w : World} {R : Ending → World → Prop} (h : S35 t0 t1 w R) : Calls Try.prog 35 #[t0, t1] w R :=
  calls_of_cw (fn := Try.f35) (c := Try.f35.body.getD .skip) A35 mixes Try.func35 (by kernel_rfl) ok35
    ((by kernel_rfl : (S35 t0 t1 w R) = cw Try.prog A35 (Try.f35.body.getD .skip) 0 (bodyQ Try.prog Try.f35 R) (frOf #[t0, t1]) w).mp h)

def S8 (t0 t1 t2 t3 : Value) (w : World) (R : Ending → World → Prop) : Prop :=
  callW Try.prog (.func (.func 12) #[] #[]) [t0, t1, t2, t3] w fun t30 w =>
  exQ t30 0 fun t31 =>
  exQ t30 1 fun t32 =>
  boxW 25 (.agg #[(.int .i64 0), (.int .i64 0), (.int .i64 0)]) w fun t9 w =>
  stW Try.prog 25 t9 t31 w fun w =>
  Drew w fun w =>
  Join (fun (k_2 : Value → Value → World → Prop) =>
    ∃ X : Nat → Prop,
    takeX X w (fun w k => fa1 t9 2 k) fun t33 =>
    takeX X w (fun w k => ld1 w t33 k) fun t34 =>
    takeX X w (fun w k => fa1 t9 0 k) fun t35 =>
    takeX X w (fun w k => ld1 w t35 k) fun t36 =>
    takeX X w (fun w k => fa1 t9 1 k) fun t37 =>
    takeX X w (fun w k => ld1 w t37 k) fun t38 =>
    takeX X w (fun w k => bdQ Try.prog 25 [(0, t34), (1, t36), (2, t38)] k) fun t39 =>
    takeX X w (fun w k => fa1 t9 1 k) fun t40 =>
    takeX X w (fun w k => ld1 w t40 k) fun t41 =>
    takeX X w (fun w k => fa1 t9 2 k) fun t42 =>
    takeX X w (fun w k => ld1 w t42 k) fun t43 =>
    takeX X w (fun w k => fa1 t9 0 k) fun t44 =>
    takeX X w (fun w k => ld1 w t44 k) fun t45 =>
    takeX X w (fun w k => bdQ Try.prog 25 [(0, t41), (1, t43), (2, t45)] k) fun t46 =>
    And (
      boxW 25 (.agg #[(.int .i64 0), (.int .i64 0), (.int .i64 0)]) w <| keepX X w fun t11_2 w =>
      boxW 25 (.agg #[(.int .i64 0), (.int .i64 0), (.int .i64 0)]) w <| keepX X w fun t12_2 w =>
      stW Try.prog 25 t11_2 t39 w <| keepW X w fun w =>
      stW Try.prog 25 t12_2 t46 w fun w =>
      k_2 t11_2 t12_2 w
    ) <|
    And (
      boxW 25 (.agg #[(.int .i64 0), (.int .i64 0), (.int .i64 0)]) w <| keepX X w fun t12_3 w =>
      boxW 25 (.agg #[(.int .i64 0), (.int .i64 0), (.int .i64 0)]) w <| keepX X w fun t11_3 w =>
      stW Try.prog 25 t11_3 t39 w <| keepW X w fun w =>
      stW Try.prog 25 t12_3 t46 w fun w =>
      k_2 t11_3 t12_3 w
    ) <|
    True
  ) fun t11 t12 w =>
  callW Try.prog (.func (.func 13) #[] #[]) [t32] w fun t48 w =>
  ldN 3 w t9 fun t50 =>
  callW Try.prog (.func (.func 36) #[] #[]) [t50, t32] w fun t52 w =>
  exQ t52 0 fun t53 =>
  exQ t52 1 fun t54 =>
  ldN 3 w t9 fun t56 =>
  callW Try.prog (.func (.func 36) #[] #[]) [t56, t53] w fun t58 w =>
  exQ t58 0 fun t59 =>
  exQ t58 1 fun t60 =>
  ldN 3 w t9 fun t62 =>
  callW Try.prog (.func (.func 37) #[] #[]) [t62, t32] w fun t64 w =>
  exQ t64 0 fun t65 =>
  exQ t64 1 fun t66 =>
  fa1 t9 1 fun t68 =>
  ld1 w t68 fun t69 =>
  fa1 t9 0 fun t70 =>
  ld1 w t70 fun t71 =>
  fa1 t9 2 fun t72 =>
  ld1 w t72 fun t73 =>
  bdQ Try.prog 25 [(0, t69), (1, t71), (2, t73)] fun t74 =>
  callW Try.prog (.func (.func 37) #[] #[]) [t74, t65] w fun t76 w =>
  exQ t76 0 fun t77 =>
  exQ t76 1 fun t78 =>
  Drew w fun w =>
  binQ Try.prog w .neq 31 true t54 (.int .i64 0) fun t80 =>
  gdQ t80 false (fun k => k t60) fun t82 =>
  gdQ t80 false (fun k => binQ Try.prog w .neq 31 true t82 (.int .i64 0) k) fun t83 =>
  pickQ t80 (.bool true) t83 fun t84 =>
  gdQ t84 false (fun k => k t66) fun t86 =>
  gdQ t84 false (fun k => binQ Try.prog w .neq 31 true t86 (.int .i64 0) k) fun t87 =>
  pickQ t84 (.bool true) t87 fun t88 =>
  gdQ t88 false (fun k => k t78) fun t90 =>
  gdQ t88 false (fun k => binQ Try.prog w .neq 31 true t90 (.int .i64 0) k) fun t91 =>
  pickQ t88 (.bool true) t91 fun t92 =>
  gdQ t92 false (fun k => k t59) fun t94 =>
  gdQ t92 false (fun k => k t32) fun t95 =>
  gd t92 false (fun k => callW Try.prog (.func (.func 20) #[] #[]) [t94, t95] w k) w fun t96 w =>
  gdQ t92 false (fun k => unQ .not t96 k) fun t97 =>
  pickQ t92 (.bool true) t97 fun t98 =>
  gdQ t98 false (fun k => k t77) fun t100 =>
  gdQ t98 false (fun k => k t32) fun t101 =>
  gd t98 false (fun k => callW Try.prog (.func (.func 20) #[] #[]) [t100, t101] w k) w <| keepB w fun t102 w =>
  gdQ t98 false (fun k => unQ .not t102 k) fun t103 =>
  pickQ t98 (.bool true) t103 fun t104 =>
  gdQ t104 false (fun k => k t53) fun t106 =>
  gdQ t104 false (fun k => fa1 t9 0 k) fun t108 =>
  gdQ t104 false (fun k => ld1 w t108 k) fun t109 =>
  gdQ t104 false (fun k => fa1 t9 1 k) fun t110 =>
  gdQ t104 false (fun k => ld1 w t110 k) fun t111 =>
  gdQ t104 false (fun k => binQ Try.prog w .mul 3 false t109 t111 k) fun t112 =>
  gdQ t104 false (fun k => fa1 t9 2 k) fun t113 =>
  gdQ t104 false (fun k => ld1 w t113 k) fun t114 =>
  gdQ t104 false (fun k => binQ Try.prog w .mul 3 false t112 t114 k) fun t115 =>
  gdQ t104 false (fun k => k t48) fun t116 =>
  gdQ t104 false (fun k => binQ Try.prog w .sub 3 false t115 t116 k) fun t117 =>
  gd t104 false (fun k => callW Try.prog (.func (.func 13) #[] #[]) [t106] w k) w <| keepB w fun t107 w =>
  gdQ t104 false (fun k => binQ Try.prog w .neq 3 false t107 t117 k) fun t118 =>
  pickQ t104 (.bool true) t118 fun t119 =>
  gdQ t119 false (fun k => k t65) fun t121 =>
  gdQ t119 false (fun k => k t48) fun t123 =>
  gd t119 false (fun k => callW Try.prog (.func (.func 13) #[] #[]) [t121] w k) w <| keepB w fun t122 w =>
  gdQ t119 false (fun k => binQ Try.prog w .neq 3 false t122 t123 k) fun t124 =>
  pickQ t119 (.bool true) t124 fun t125 =>
  condW t125 (
    R (.returned (.bool false)) w
  ) (
    ldN 3 w t9 fun t127 =>
    callW Try.prog (.func (.func 38) #[] #[]) [t127, t32] w fun t129 w =>
    exQ t129 0 fun t130 =>
    exQ t129 1 fun t131 =>
    ldN 3 w t11 fun t133 =>
    callW Try.prog (.func (.func 38) #[] #[]) [t133, t130] w fun t135 w =>
    exQ t135 0 fun t136 =>
    exQ t135 1 fun t137 =>
    ldN 3 w t12 fun t139 =>
    callW Try.prog (.func (.func 38) #[] #[]) [t139, t136] w fun t141 w =>
    exQ t141 0 fun t142 =>
    exQ t141 1 fun t143 =>
    binQ Try.prog w .eql 31 true t131 (.int .i64 0) fun t145 =>
    gd t145 true (fun k => k t137 w) w fun t147 w =>
    gd t145 true (fun k => binQ Try.prog w .eql 31 true t147 (.int .i64 0) fun v => k v w) w fun t148 w =>
    pickQ t145 t148 (.bool false) fun t149 =>
    gd t149 true (fun k => k t143 w) w fun t151 w =>
    gd t149 true (fun k => binQ Try.prog w .eql 31 true t151 (.int .i64 0) fun v => k v w) w fun t152 w =>
    pickQ t149 t152 (.bool false) fun t153 =>
    gd t153 true (fun k => k t142 w) w fun t155 w =>
    gd t153 true (fun k => k t32 w) w fun t156 w =>
    gd t153 true (fun k => callW Try.prog (.func (.func 20) #[] #[]) [t155, t156] w k) w fun t157 w =>
    pickQ t153 t157 (.bool false) fun t158 =>
    gd t158 true (fun k => k t130 w) w fun t160 w =>
    gd t158 true (fun k => callW Try.prog (.func (.func 13) #[] #[]) [t160] w k) w fun t161 w =>
    gd t158 true (fun k => k t48 w) w fun t162 w =>
    gd t158 true (fun k => binQ Try.prog w .eql 3 false t161 t162 fun v => k v w) w fun t163 w =>
    pickQ t158 t163 (.bool false) fun t164 =>
    gd t164 true (fun k => k t136 w) w fun t166 w =>
    gd t164 true (fun k => callW Try.prog (.func (.func 13) #[] #[]) [t166] w k) w fun t167 w =>
    gd t164 true (fun k => k t48 w) w fun t168 w =>
    gd t164 true (fun k => binQ Try.prog w .eql 3 false t167 t168 fun v => k v w) w fun t169 w =>
    pickQ t164 t169 (.bool false) fun t170 =>
    gd t170 true (fun k => callW Try.prog (.func (.func 17) #[] #[]) [] w k) w fun t172 w =>
    pickQ t170 t172 (.bool false) fun t173 =>
    R (.returned t173) w
  )

def A8 : Ann where
  live := fun _ => []
  wr := fun _ _ => false
  sched := fun
    | 2 => (.cls (.take 0 (.take 1 (.take 2 (.take 3 (.take 4 (.take 5 (.take 6 (.take 7 (.take 8 (.take 9 (.take 10 (.take 11 (.take 12 (.take 13 (.alt 14 (.eff 15 (.eff 16 (.bar 17 .done))) (.alt 15 (.eff 14 (.eff 16 (.bar 17 .done))) .nomore)))))))))))))))))
    | 8 => (.take 0 (.take 1 (.take 2 (.take 3 (.take 4 (.take 5 (.take 6 (.take 7 (.take 8 (.take 9 (.take 10 (.take 11 (.take 12 (.take 13 (.take 14 (.take 15 (.take 16 (.bar 17 (.take 18 (.take 19 (.take 20 (.take 21 (.take 22 (.eff 23 (.take 24 (.take 25 (.take 26 (.take 27 (.take 29 (.take 30 (.take 31 (.take 32 (.take 33 (.take 34 (.take 35 (.take 36 (.take 37 (.take 38 (.eff 28 (.take 39 (.take 40 (.take 41 (.take 42 (.take 44 (.eff 43 (.take 45 (.take 46 .done)))))))))))))))))))))))))))))))))))))))))))))))
    | _ => .done

set_option maxRecDepth 100000 in
theorem ok8 : (codeOk Try.f8.ntmps A8 (Try.f8.body.getD .skip) 0 && Nat.ble 4 Try.f8.ntmps) = true := by kernel_rfl
set_option maxRecDepth 100000 in
theorem lift8 {t0 t1 t2 t3 : Value} {w : World} {R : Ending → World → Prop} (h : S8 t0 t1 t2 t3 w R) : Calls Try.prog 8 #[t0, t1, t2, t3] w R :=
  calls_of_cw (fn := Try.f8) (c := Try.f8.body.getD .skip) A8 mixes Try.func8 (by kernel_rfl) ok8
    ((by kernel_rfl : (S8 t0 t1 t2 t3 w R) = cw Try.prog A8 (Try.f8.body.getD .skip) 0 (bodyQ Try.prog Try.f8 R) (frOf #[t0, t1, t2, t3]) w).mp h)

def S36 (t0 t1 : Value) (w : World) (R : Ending → World → Prop) : Prop :=
  boxW 25 t0 w fun t2 w =>
  ldN 3 w t2 fun t6 =>
  callW Try.prog (.func (.func 69) #[] #[]) [t6, t1, (.func (.func 70) #[] #[])] w fun t8 w =>
  exQ t8 0 fun t9 =>
  exQ t8 1 fun t10 =>
  R (.returned (.tuple #[t9, t10])) w

def A36 : Ann where
  live := fun _ => []
  wr := fun _ _ => false
  sched := fun _ => .done

set_option maxRecDepth 100000 in
theorem ok36 : (codeOk Try.f36.ntmps A36 (Try.f36.body.getD .skip) 0 && Nat.ble 2 Try.f36.ntmps) = true := by kernel_rfl
set_option maxRecDepth 100000 in
theorem lift36 {t0 t1 : Value} {w : World} {R : Ending → World → Prop} (h : S36 t0 t1 w R) : Calls Try.prog 36 #[t0, t1] w R :=
  calls_of_cw (fn := Try.f36) (c := Try.f36.body.getD .skip) A36 mixes Try.func36 (by kernel_rfl) ok36
    ((by kernel_rfl : (S36 t0 t1 w R) = cw Try.prog A36 (Try.f36.body.getD .skip) 0 (bodyQ Try.prog Try.f36 R) (frOf #[t0, t1]) w).mp h)

def S37 (t0 t1 : Value) (w : World) (R : Ending → World → Prop) : Prop :=
  boxW 25 t0 w fun t2 w =>
  ldN 3 w t2 fun t6 =>
  callW Try.prog (.func (.func 69) #[] #[]) [t6, t1, (.func (.func 71) #[] #[])] w fun t8 w =>
  exQ t8 0 fun t9 =>
  exQ t8 1 fun t10 =>
  R (.returned (.tuple #[t9, t10])) w

def A37 : Ann where
  live := fun _ => []
  wr := fun _ _ => false
  sched := fun _ => .done

set_option maxRecDepth 100000 in
theorem ok37 : (codeOk Try.f37.ntmps A37 (Try.f37.body.getD .skip) 0 && Nat.ble 2 Try.f37.ntmps) = true := by kernel_rfl
set_option maxRecDepth 100000 in
theorem lift37 {t0 t1 : Value} {w : World} {R : Ending → World → Prop} (h : S37 t0 t1 w R) : Calls Try.prog 37 #[t0, t1] w R :=
  calls_of_cw (fn := Try.f37) (c := Try.f37.body.getD .skip) A37 mixes Try.func37 (by kernel_rfl) ok37
    ((by kernel_rfl : (S37 t0 t1 w R) = cw Try.prog A37 (Try.f37.body.getD .skip) 0 (bodyQ Try.prog Try.f37 R) (frOf #[t0, t1]) w).mp h)

def S38 (t0 t1 : Value) (w : World) (R : Ending → World → Prop) : Prop :=
  boxW 25 t0 w fun t2 w =>
  ldN 3 w t2 fun t6 =>
  callW Try.prog (.func (.func 69) #[] #[]) [t6, t1, (.func (.func 72) #[] #[])] w fun t8 w =>
  exQ t8 0 fun t9 =>
  exQ t8 1 fun t10 =>
  R (.returned (.tuple #[t9, t10])) w

def A38 : Ann where
  live := fun _ => []
  wr := fun _ _ => false
  sched := fun _ => .done

set_option maxRecDepth 100000 in
theorem ok38 : (codeOk Try.f38.ntmps A38 (Try.f38.body.getD .skip) 0 && Nat.ble 2 Try.f38.ntmps) = true := by kernel_rfl
set_option maxRecDepth 100000 in
theorem lift38 {t0 t1 : Value} {w : World} {R : Ending → World → Prop} (h : S38 t0 t1 w R) : Calls Try.prog 38 #[t0, t1] w R :=
  calls_of_cw (fn := Try.f38) (c := Try.f38.body.getD .skip) A38 mixes Try.func38 (by kernel_rfl) ok38
    ((by kernel_rfl : (S38 t0 t1 w R) = cw Try.prog A38 (Try.f38.body.getD .skip) 0 (bodyQ Try.prog Try.f38 R) (frOf #[t0, t1]) w).mp h)

def S69 (t0 t1 t2 : Value) (w : World) (R : Ending → World → Prop) : Prop :=
  boxW 25 t0 w fun t3 w =>
  ldN 3 w t3 fun t9 =>
  callW Try.prog (.func (.func 47) #[] #[]) [t9, t1] w fun t11 w =>
  binQ Try.prog w .neq 31 true t11 (.int .i64 0) fun t13 =>
  condW t13 (
    R (.returned (.tuple #[(.slice none 0 0), t11])) w
  ) (
    ldN 3 w t3 fun t16 =>
    callW Try.prog t2 [t16, t1] w fun t18 w =>
    R (.returned (.tuple #[t18, (.int .i64 0)])) w
  )

def A69 : Ann where
  live := fun _ => []
  wr := fun _ _ => false
  sched := fun _ => .done

set_option maxRecDepth 100000 in
theorem ok69 : (codeOk Try.f69.ntmps A69 (Try.f69.body.getD .skip) 0 && Nat.ble 3 Try.f69.ntmps) = true := by kernel_rfl
set_option maxRecDepth 100000 in
theorem lift69 {t0 t1 t2 : Value} {w : World} {R : Ending → World → Prop} (h : S69 t0 t1 t2 w R) : Calls Try.prog 69 #[t0, t1, t2] w R :=
  calls_of_cw (fn := Try.f69) (c := Try.f69.body.getD .skip) A69 mixes Try.func69 (by kernel_rfl) ok69
    ((by kernel_rfl : (S69 t0 t1 t2 w R) = cw Try.prog A69 (Try.f69.body.getD .skip) 0 (bodyQ Try.prog Try.f69 R) (frOf #[t0, t1, t2]) w).mp h)

def S70 (t0 t1 : Value) (w : World) (R : Ending → World → Prop) : Prop :=
  boxW 25 t0 w fun t2 w =>
  boxW 26 t1 w fun t3 w =>
  fa1 t2 0 fun t5 =>
  ld1 w t5 fun t6 =>
  fa1 t2 1 fun t7 =>
  ld1 w t7 fun t8 =>
  callW Try.prog (.func (.func 86) #[] #[]) [t6, t8, (.func (.func 87) #[] #[t2, t3])] w fun t10 w =>
  R (.returned t10) w

def A70 : Ann where
  live := fun _ => []
  wr := fun _ _ => false
  sched := fun _ => .done

set_option maxRecDepth 100000 in
theorem ok70 : (codeOk Try.f70.ntmps A70 (Try.f70.body.getD .skip) 0 && Nat.ble 2 Try.f70.ntmps) = true := by kernel_rfl
set_option maxRecDepth 100000 in
theorem lift70 {t0 t1 : Value} {w : World} {R : Ending → World → Prop} (h : S70 t0 t1 w R) : Calls Try.prog 70 #[t0, t1] w R :=
  calls_of_cw (fn := Try.f70) (c := Try.f70.body.getD .skip) A70 mixes Try.func70 (by kernel_rfl) ok70
    ((by kernel_rfl : (S70 t0 t1 w R) = cw Try.prog A70 (Try.f70.body.getD .skip) 0 (bodyQ Try.prog Try.f70 R) (frOf #[t0, t1]) w).mp h)

def S71 (t0 t1 : Value) (w : World) (R : Ending → World → Prop) : Prop :=
  boxW 25 t0 w fun t2 w =>
  boxW 26 t1 w fun t3 w =>
  fa1 t2 1 fun t5 =>
  ld1 w t5 fun t6 =>
  fa1 t2 0 fun t7 =>
  ld1 w t7 fun t8 =>
  callW Try.prog (.func (.func 86) #[] #[]) [t6, t8, (.func (.func 88) #[] #[t3])] w fun t10 w =>
  R (.returned t10) w

def A71 : Ann where
  live := fun _ => []
  wr := fun _ _ => false
  sched := fun _ => .done

set_option maxRecDepth 100000 in
theorem ok71 : (codeOk Try.f71.ntmps A71 (Try.f71.body.getD .skip) 0 && Nat.ble 2 Try.f71.ntmps) = true := by kernel_rfl
set_option maxRecDepth 100000 in
theorem lift71 {t0 t1 : Value} {w : World} {R : Ending → World → Prop} (h : S71 t0 t1 w R) : Calls Try.prog 71 #[t0, t1] w R :=
  calls_of_cw (fn := Try.f71) (c := Try.f71.body.getD .skip) A71 mixes Try.func71 (by kernel_rfl) ok71
    ((by kernel_rfl : (S71 t0 t1 w R) = cw Try.prog A71 (Try.f71.body.getD .skip) 0 (bodyQ Try.prog Try.f71 R) (frOf #[t0, t1]) w).mp h)

def S72 (t0 t1 : Value) (w : World) (R : Ending → World → Prop) : Prop :=
  boxW 25 t0 w fun t2 w =>
  boxW 26 t1 w fun t3 w =>
  fa1 t2 2 fun t5 =>
  ld1 w t5 fun t6 =>
  fa1 t2 0 fun t7 =>
  ld1 w t7 fun t8 =>
  callW Try.prog (.func (.func 86) #[] #[]) [t6, t8, (.func (.func 89) #[] #[t3])] w fun t10 w =>
  R (.returned t10) w

def A72 : Ann where
  live := fun _ => []
  wr := fun _ _ => false
  sched := fun _ => .done

set_option maxRecDepth 100000 in
theorem ok72 : (codeOk Try.f72.ntmps A72 (Try.f72.body.getD .skip) 0 && Nat.ble 2 Try.f72.ntmps) = true := by kernel_rfl
set_option maxRecDepth 100000 in
theorem lift72 {t0 t1 : Value} {w : World} {R : Ending → World → Prop} (h : S72 t0 t1 w R) : Calls Try.prog 72 #[t0, t1] w R :=
  calls_of_cw (fn := Try.f72) (c := Try.f72.body.getD .skip) A72 mixes Try.func72 (by kernel_rfl) ok72
    ((by kernel_rfl : (S72 t0 t1 w R) = cw Try.prog A72 (Try.f72.body.getD .skip) 0 (bodyQ Try.prog Try.f72 R) (frOf #[t0, t1]) w).mp h)

def S86 (t0 t1 t2 : Value) (w : World) (R : Ending → World → Prop) : Prop :=
  Loop2 (.slice none 0 0) (.int .i64 0) w fun _ t7 t12 w next =>
    binQ Try.prog w .lss 3 false t12 t0 fun t13 =>
    condW t13 (
      Loop2 (.slice none 0 0) (.int .i64 0) w fun _ t9 t16 w next_2 =>
        binQ Try.prog w .lss 3 false t16 t1 fun t17 =>
        condW t17 (
          callW Try.prog t2 [t12, t16] w fun t23 w =>
          bsW Try.prog 36 1 [(0, t23)] w fun t24 w =>
          semW Try.prog (apS [36, 36] 36 [t9, t24]) w fun t25 w =>
          binQ Try.prog w .add 3 true t16 (.int .i64 1) fun t26 =>
          next_2 t25 t26 w
        ) (
          bsW Try.prog 26 1 [(0, t9)] w fun t29 w =>
          semW Try.prog (apS [26, 26] 26 [t7, t29]) w fun t30 w =>
          binQ Try.prog w .add 3 true t12 (.int .i64 1) fun t31 =>
          next t30 t31 w
        )
    ) (
      R (.returned t7) w
    )

def A86 : Ann where
  live := fun
    | 0 => [7, 12]
    | 2 => [9, 16]
    | _ => []
  wr := fun
    | 0 => fun i => (Nat.ble 7 i && Nat.ble i 10) || (Nat.ble 12 i && Nat.ble i 31)
    | 2 => fun i => (Nat.ble 9 i && Nat.ble i 10) || (Nat.ble 16 i && Nat.ble i 26)
    | _ => fun _ => false
  sched := fun _ => .done

set_option maxRecDepth 100000 in
theorem ok86 : (codeOk Try.f86.ntmps A86 (Try.f86.body.getD .skip) 0 && Nat.ble 3 Try.f86.ntmps) = true := by kernel_rfl
set_option maxRecDepth 100000 in
theorem lift86 {t0 t1 t2 : Value} {w : World} {R : Ending → World → Prop} (h : S86 t0 t1 t2 w R) : Calls Try.prog 86 #[t0, t1, t2] w R :=
  calls_of_cw (fn := Try.f86) (c := Try.f86.body.getD .skip) A86 mixes Try.func86 (by kernel_rfl) ok86
    ((by kernel_rfl : (S86 t0 t1 t2 w R) = cw Try.prog A86 (Try.f86.body.getD .skip) 0 (bodyQ Try.prog Try.f86 R) (frOf #[t0, t1, t2]) w).mp h)

def S87 (t0 t1 t2 t3 : Value) (w : World) (R : Ending → World → Prop) : Prop :=
  Drew w fun w =>
  fa1 t2 2 fun t7 =>
  ld1 w t7 fun t8 =>
  ld1 w t3 fun t9 =>
  fa1 t2 0 fun t10 =>
  ld1 w t10 fun t11 =>
  binQ Try.prog w .sub 3 true t11 (.int .i64 1) fun t12 =>
  binQ Try.prog w .sub 3 false t12 t0 fun t14 =>
  iaS 1 t9 t14 fun t15 =>
  ld1 w t15 fun t16 =>
  fa1 t2 1 fun t17 =>
  ld1 w t17 fun t18 =>
  binQ Try.prog w .sub 3 true t18 (.int .i64 1) fun t19 =>
  binQ Try.prog w .sub 3 false t19 t1 fun t21 =>
  iaS 1 t16 t21 fun t22 =>
  ld1 w t22 fun t23 =>
  binQ Try.prog w .sub 3 false t8 t23 fun t24 =>
  R (.returned t24) w

def A87 : Ann where
  live := fun _ => []
  wr := fun _ _ => false
  sched := fun
    | 1 => (.take 0 (.take 1 (.take 2 (.take 3 (.take 4 (.take 5 (.take 6 (.take 7 (.take 8 (.take 9 (.take 10 (.take 11 (.take 12 (.take 13 (.take 14 (.take 15 (.take 16 (.take 17 (.take 18 .done)))))))))))))))))))
    | _ => .done

set_option maxRecDepth 100000 in
theorem ok87 : (codeOk Try.f87.ntmps A87 (Try.f87.body.getD .skip) 0 && Nat.ble 4 Try.f87.ntmps) = true := by kernel_rfl
set_option maxRecDepth 100000 in
theorem lift87 {t0 t1 t2 t3 : Value} {w : World} {R : Ending → World → Prop} (h : S87 t0 t1 t2 t3 w R) : Calls Try.prog 87 #[t0, t1, t2, t3] w R :=
  calls_of_cw (fn := Try.f87) (c := Try.f87.body.getD .skip) A87 mixes Try.func87 (by kernel_rfl) ok87
    ((by kernel_rfl : (S87 t0 t1 t2 t3 w R) = cw Try.prog A87 (Try.f87.body.getD .skip) 0 (bodyQ Try.prog Try.f87 R) (frOf #[t0, t1, t2, t3]) w).mp h)

def S88 (t0 t1 t2 : Value) (w : World) (R : Ending → World → Prop) : Prop :=
  ld1 w t2 fun t6 =>
  iaS 1 t6 t1 fun t8 =>
  ld1 w t8 fun t9 =>
  iaS 1 t9 t0 fun t11 =>
  ld1 w t11 fun t12 =>
  R (.returned t12) w

def A88 : Ann where
  live := fun _ => []
  wr := fun _ _ => false
  sched := fun _ => .done

set_option maxRecDepth 100000 in
theorem ok88 : (codeOk Try.f88.ntmps A88 (Try.f88.body.getD .skip) 0 && Nat.ble 3 Try.f88.ntmps) = true := by kernel_rfl
set_option maxRecDepth 100000 in
theorem lift88 {t0 t1 t2 : Value} {w : World} {R : Ending → World → Prop} (h : S88 t0 t1 t2 w R) : Calls Try.prog 88 #[t0, t1, t2] w R :=
  calls_of_cw (fn := Try.f88) (c := Try.f88.body.getD .skip) A88 mixes Try.func88 (by kernel_rfl) ok88
    ((by kernel_rfl : (S88 t0 t1 t2 w R) = cw Try.prog A88 (Try.f88.body.getD .skip) 0 (bodyQ Try.prog Try.f88 R) (frOf #[t0, t1, t2]) w).mp h)

def S89 (t0 t1 t2 : Value) (w : World) (R : Ending → World → Prop) : Prop :=
  ld1 w t2 fun t6 =>
  iaS 1 t6 t1 fun t8 =>
  ld1 w t8 fun t9 =>
  callW Try.prog (.func (.func 77) #[] #[]) [t9, t0] w fun t11 w =>
  R (.returned t11) w

def A89 : Ann where
  live := fun _ => []
  wr := fun _ _ => false
  sched := fun _ => .done

set_option maxRecDepth 100000 in
theorem ok89 : (codeOk Try.f89.ntmps A89 (Try.f89.body.getD .skip) 0 && Nat.ble 3 Try.f89.ntmps) = true := by kernel_rfl
set_option maxRecDepth 100000 in
theorem lift89 {t0 t1 t2 : Value} {w : World} {R : Ending → World → Prop} (h : S89 t0 t1 t2 w R) : Calls Try.prog 89 #[t0, t1, t2] w R :=
  calls_of_cw (fn := Try.f89) (c := Try.f89.body.getD .skip) A89 mixes Try.func89 (by kernel_rfl) ok89
    ((by kernel_rfl : (S89 t0 t1 t2 w R) = cw Try.prog A89 (Try.f89.body.getD .skip) 0 (bodyQ Try.prog Try.f89 R) (frOf #[t0, t1, t2]) w).mp h)

theorem fok7 : fnOk Try.prog 7 = true := by kernel_rfl
theorem fok35 : fnOk Try.prog 35 = true := by kernel_rfl
theorem fok8 : fnOk Try.prog 8 = true := by kernel_rfl
theorem fok36 : fnOk Try.prog 36 = true := by kernel_rfl
theorem fok37 : fnOk Try.prog 37 = true := by kernel_rfl
theorem fok38 : fnOk Try.prog 38 = true := by kernel_rfl
theorem fok69 : fnOk Try.prog 69 = true := by kernel_rfl
theorem fok70 : fnOk Try.prog 70 = true := by kernel_rfl
theorem fok71 : fnOk Try.prog 71 = true := by kernel_rfl
theorem fok72 : fnOk Try.prog 72 = true := by kernel_rfl
theorem fok86 : fnOk Try.prog 86 = true := by kernel_rfl
theorem fok87 : fnOk Try.prog 87 = true := by kernel_rfl
theorem fok88 : fnOk Try.prog 88 = true := by kernel_rfl
theorem fok89 : fnOk Try.prog 89 = true := by kernel_rfl
end Go.Proofs.Ytaephdjmpmbfpaa

/- Contracts: made, higher, complement, transpose, turn, changed, Complement, Transpose, Turn. -/
namespace Go.Proofs.Ytaephdjmpmbfpaa
open Go.Lf Go.RowKit Go.Hp

/-- What is asked of a function value that gives a table's numbers. -/
def Gives (w : World) (f : Value) (r c : Nat) (F : Nat → Nat → Int) : Prop :=
  ∀ (i j : Nat) (wq : World) (K : Value → World → Prop), i < r → j < c → Kp w wq → (∀ w', Kp wq w' → K (.int .i64 (F i j)) w') → callW Try.prog f [.int .i64 i, .int .i64 j] wq K

theorem range_map_succ {α : Type} (f : Nat → α) (j : Nat) : (List.range (j + 1)).map f = (List.range j).map f ++ [f j] := by rw [List.range_succ, List.map_append]; rfl

set_option maxRecDepth 100000 in
theorem made_calls (r c : Nat) (f : Value) (F : Nat → Nat → Int) (w : World) (hr : 0 < r ∧ r ≤ 1000) (hc : 0 < c ∧ c ≤ 1000) (hf : Gives w f r c F) :
    Calls Try.prog 86 #[.int .i64 r, .int .i64 c, f] w fun e w' => ∃ v, e = .returned v ∧ Kp w w' ∧ NewRows w w' v (tabM r c F) := by
  refine lift86 ?_
  unfold S86
  refine ⟨fun t7 t12 wr => ∃ (i : Nat) (bs cs : Nat → Nat), i ≤ r ∧ t12 = .int .i64 i ∧ Kp w wr ∧ FRows w.heap.size wr t7 bs cs ((List.range i).map fun i => (List.range c).map fun j => F i j), fun _ t12 _ => r - (intOf t12).toNat,
    ⟨0, fun _ => 0, fun _ => 0, by omega, rfl, Kp.refl _, FRows.nil _ _ _ _⟩, ?_⟩
  rintro _ t7 _ wr ⟨i, bs, cs, hi, rfl, hk, hF⟩
  by_cases hlt : i < r
  case neg =>
    have hlt' : ¬ (i : Int) < (r : Int) := by omega
    have e : i = r := by omega
    subst e
    simp (disch := omega) only [r_ln, r_pick, r_pickT, r_pickF, r_condT, r_condF, r_gdTT, r_gdFF, r_gdTF, r_gdFT, r_gqTT, r_gqFF, r_gqTF, r_gqFT, r_not, r_lss, r_leq, r_gtr, r_geq, r_eql, r_neq, r_add, r_sub, r_min2, r_max2, r_min3, r_max3, r_fa, r_iaS, r_iaA, r_ex2a, r_ex2b, r_ex3a, r_ex3b, r_ex3c, r_nc, r_keepE, Nat.zero_add, Nat.add_zero, Nat.mul_one, Int.toNat_natCast, toNat_sub1, toNat_add1, decide_true, decide_false, Bool.not_true, Bool.not_false, if_true, if_false, Bool.false_eq_true, reduceCtorEq, hlt']
    exact ⟨t7, rfl, hk, hF.new (by simp; omega) (Nat.le_refl _) ⟨by simp; omega, fun q hq => by
      simp only [List.length_map, List.length_range] at hq
      have := (tabM_sized i c F).2 q hq
      unfold tabM at this
      rw [this]; omega⟩⟩
  have hlt' : (i : Int) < (r : Int) := by omega
  simp (disch := omega) only [r_ln, r_pick, r_pickT, r_pickF, r_condT, r_condF, r_gdTT, r_gdFF, r_gdTF, r_gdFT, r_gqTT, r_gqFF, r_gqTF, r_gqFT, r_not, r_lss, r_leq, r_gtr, r_geq, r_eql, r_neq, r_add, r_sub, r_min2, r_max2, r_min3, r_max3, r_fa, r_iaS, r_iaA, r_ex2a, r_ex2b, r_ex3a, r_ex3b, r_ex3c, r_nc, r_keepE, Nat.zero_add, Nat.add_zero, Nat.mul_one, Int.toNat_natCast, toNat_sub1, toNat_add1, decide_true, decide_false, Bool.not_true, Bool.not_false, if_true, if_false, Bool.false_eq_true, reduceCtorEq, hlt']
  refine ⟨fun t9 t16 wq => ∃ j : Nat, j ≤ c ∧ t16 = .int .i64 j ∧ Kp wr wq ∧ wq.ownsRow wr.heap.size 3 1 t9 ((List.range j).map (F i)).length (intCells ((List.range j).map (F i))), fun _ t16 _ => c - (intOf t16).toNat,
    ⟨0, by omega, rfl, Kp.refl _, World.ownsRow_nil _ _ _ _⟩, ?_⟩
  rintro _ t9 _ wq ⟨j, hj, rfl, hkq, hown⟩
  have s1 := hk.size
  have s2 := hkq.size
  by_cases hjl : j < c
  case pos =>
    have hjl' : (j : Int) < (c : Int) := by omega
    simp (disch := omega) only [r_ln, r_pick, r_pickT, r_pickF, r_condT, r_condF, r_gdTT, r_gdFF, r_gdTF, r_gdFT, r_gqTT, r_gqFF, r_gqTF, r_gqFT, r_not, r_lss, r_leq, r_gtr, r_geq, r_eql, r_neq, r_add, r_sub, r_min2, r_max2, r_min3, r_max3, r_fa, r_iaS, r_iaA, r_ex2a, r_ex2b, r_ex3a, r_ex3b, r_ex3c, r_nc, r_keepE, Nat.zero_add, Nat.add_zero, Nat.mul_one, Int.toNat_natCast, toNat_sub1, toNat_add1, decide_true, decide_false, Bool.not_true, Bool.not_false, if_true, if_false, Bool.false_eq_true, reduceCtorEq, hjl']
    refine hf i j wq _ hlt hjl (Kp.trans hk hkq) fun w2 k2 => ?_
    have s3 := k2.size
    refine r_pushInt (w0 := wr) (owns_kp hown k2) (by simp; omega) (by omega) (Kp.trans hkq k2) (Nat.le_refl _) fun v3 w3 ho3 k3 => ?_
    try simp (disch := omega) only [r_ln, r_pick, r_pickT, r_pickF, r_condT, r_condF, r_gdTT, r_gdFF, r_gdTF, r_gdFT, r_gqTT, r_gqFF, r_gqTF, r_gqFT, r_not, r_lss, r_leq, r_gtr, r_geq, r_eql, r_neq, r_add, r_sub, r_min2, r_max2, r_min3, r_max3, r_fa, r_iaS, r_iaA, r_ex2a, r_ex2b, r_ex3a, r_ex3b, r_ex3c, r_nc, r_keepE, Nat.zero_add, Nat.add_zero, Nat.mul_one, Int.toNat_natCast, toNat_sub1, toNat_add1, decide_true, decide_false, Bool.not_true, Bool.not_false, if_true, if_false, Bool.false_eq_true, reduceCtorEq]
    refine ⟨⟨j + 1, by omega, by go_num, k3, ?_⟩, by simp only [intOf]; omega⟩
    rw [range_map_succ]; exact ho3
  have hjl' : ¬ (j : Int) < (c : Int) := by omega
  have e : j = c := by omega
  subst e
  simp (disch := omega) only [r_ln, r_pick, r_pickT, r_pickF, r_condT, r_condF, r_gdTT, r_gdFF, r_gdTF, r_gdFT, r_gqTT, r_gqFF, r_gqTF, r_gqFT, r_not, r_lss, r_leq, r_gtr, r_geq, r_eql, r_neq, r_add, r_sub, r_min2, r_max2, r_min3, r_max3, r_fa, r_iaS, r_iaA, r_ex2a, r_ex2b, r_ex3a, r_ex3b, r_ex3c, r_nc, r_keepE, Nat.zero_add, Nat.add_zero, Nat.mul_one, Int.toNat_natCast, toNat_sub1, toNat_add1, decide_true, decide_false, Bool.not_true, Bool.not_false, if_true, if_false, Bool.false_eq_true, reduceCtorEq, hjl']
  have hll : ((List.range j).map (F i)).length = j := by simp
  generalize hrow : (List.range j).map (F i) = row at *
  rcases hown.2 with ⟨rfl, h'⟩ | ⟨g, cap', cur, rfl, hb, hg', hle', hm, hs, ht⟩
  · omega
  have hread : ∀ q, q < row.length → cur[q]? = some (.int .i64 (row.getD q 0)) := fun q hq => by
    have : cur.toList[q]? = (intCells row)[q]? := by rw [← ht, List.getElem?_take, if_pos (by omega)]
    rw [← Array.getElem?_toList, this, intCells_get hq]
  rw [bs26]
  have n3 := heap_alloc_new wq (.cells #[.slice (some ⟨g, 0, none⟩) row.length cap'] 36)
  have hk3 : Kp wq (wq.alloc (.cells #[.slice (some ⟨g, 0, none⟩) row.length cap'] 36)) := below_alloc _
  generalize wq.alloc (.cells #[.slice (some ⟨g, 0, none⟩) row.length cap'] 36) = w3 at *
  have hF3 := (hF.kp hkq).kp hk3
  have s3 := hk3.size
  refine r_apF hF3 n3 (by omega) (block_below hg' hk3) hread (fun q hq e => by
      obtain ⟨_, rc, x1, _⟩ := hF.row q hq
      have := block_lt x1
      omega) (by simp; omega) (by omega) fun v' w4 hF4 hg4 => ?_
  try simp (disch := omega) only [r_ln, r_pick, r_pickT, r_pickF, r_condT, r_condF, r_gdTT, r_gdFF, r_gdTF, r_gdFT, r_gqTT, r_gqFF, r_gqTF, r_gqFT, r_not, r_lss, r_leq, r_gtr, r_geq, r_eql, r_neq, r_add, r_sub, r_min2, r_max2, r_min3, r_max3, r_fa, r_iaS, r_iaA, r_ex2a, r_ex2b, r_ex3a, r_ex3b, r_ex3c, r_nc, r_keepE, Nat.zero_add, Nat.add_zero, Nat.mul_one, Int.toNat_natCast, toNat_sub1, toNat_add1, decide_true, decide_false, Bool.not_true, Bool.not_false, if_true, if_false, Bool.false_eq_true, reduceCtorEq]
  rw [← hrow] at hF4
  rw [← range_map_succ (fun i => (List.range j).map fun j => F i j)] at hF4
  exact ⟨⟨i + 1, _, _, by omega, by go_num, Below.grown (Kp.trans (Kp.trans hk hkq) hk3) hg4 (by omega) fun k hk' => owned_block hF.outer hk', hF4⟩, by simp only [intOf]; omega⟩

theorem cnt_step (k : Int) (l : List Int) (j : Nat) (h : j < l.length) : cnt (l.take (j + 1)) k = cnt (l.take j) k + if k < l.getD j 0 then 1 else 0 := by
  unfold cnt
  rw [take_succ' l j h, List.filter_append, getD_lt _ _ _ h]
  by_cases hk : k < l[j] <;> simp [hk]

set_option maxRecDepth 100000 in
theorem higher_calls (v : Value) (l : List Int) (k : Int) (w : World) (h : RdInts w v l) : Calls Try.prog 77 #[v, .int .i64 k] w fun e w' => e = .returned (.int .i64 (cnt l k : Nat)) ∧ w = w' := by
  obtain ⟨a, cap, rfl, hlen⟩ := h.len
  refine lift77 ?_
  unfold S77
  simp only [r_ln, r_pick, r_pickT, r_pickF, r_condT, r_condF, r_gdTT, r_gdFF, r_gdTF, r_gdFT, r_gqTT, r_gqFF, r_gqTF, r_gqFT, r_not, r_lss, r_leq, r_gtr, r_geq, r_eql, r_neq, r_add, r_sub, r_min2, r_max2, r_min3, r_max3, r_fa, r_iaS, r_iaA, r_ex2a, r_ex2b, r_ex3a, r_ex3b, r_ex3c, r_nc, r_keepE, Nat.zero_add, Nat.add_zero, Nat.mul_one, Int.toNat_natCast, toNat_sub1, toNat_add1, decide_true, decide_false, Bool.not_true, Bool.not_false, if_true, if_false, Bool.false_eq_true, reduceCtorEq]
  refine ⟨fun t5 t10 wr => ∃ j : Nat, j ≤ l.length ∧ t10 = .int .i64 j ∧ t5 = .int .i64 (cnt (l.take j) k : Nat) ∧ w = wr, fun _ t10 _ => l.length - (intOf t10).toNat, ⟨0, by omega, rfl, rfl, rfl⟩, ?_⟩
  rintro _ _ _ _ ⟨j, hj, rfl, rfl, rfl⟩
  by_cases hlt : j < l.length
  case neg =>
    have hlt' : ¬ (j : Int) < (l.length : Int) := by omega
    have e : j = l.length := by omega
    subst e
    simp (disch := omega) only [r_ln, r_pick, r_pickT, r_pickF, r_condT, r_condF, r_gdTT, r_gdFF, r_gdTF, r_gdFT, r_gqTT, r_gqFF, r_gqTF, r_gqFT, r_not, r_lss, r_leq, r_gtr, r_geq, r_eql, r_neq, r_add, r_sub, r_min2, r_max2, r_min3, r_max3, r_fa, r_iaS, r_iaA, r_ex2a, r_ex2b, r_ex3a, r_ex3b, r_ex3c, r_nc, r_keepE, Nat.zero_add, Nat.add_zero, Nat.mul_one, Int.toNat_natCast, toNat_sub1, toNat_add1, decide_true, decide_false, Bool.not_true, Bool.not_false, if_true, if_false, Bool.false_eq_true, reduceCtorEq, hlt', List.take_length]
    exact ⟨trivial, trivial⟩
  have hlt' : (j : Int) < (l.length : Int) := by omega
  obtain ⟨b, off, _, e1, hc⟩ := h.at hlt
  cases e1
  have hle := cnt_le (l.take j) k
  rw [List.length_take] at hle
  have hst := cnt_step k l j hlt
  simp (disch := omega) only [r_ln, r_pick, r_pickT, r_pickF, r_condT, r_condF, r_gdTT, r_gdFF, r_gdTF, r_gdFT, r_gqTT, r_gqFF, r_gqTF, r_gqFT, r_not, r_lss, r_leq, r_gtr, r_geq, r_eql, r_neq, r_add, r_sub, r_min2, r_max2, r_min3, r_max3, r_fa, r_iaS, r_iaA, r_ex2a, r_ex2b, r_ex3a, r_ex3b, r_ex3c, r_nc, r_keepE, Nat.zero_add, Nat.add_zero, Nat.mul_one, Int.toNat_natCast, toNat_sub1, toNat_add1, decide_true, decide_false, Bool.not_true, Bool.not_false, if_true, if_false, Bool.false_eq_true, reduceCtorEq, hlt', r_ld hc]
  refine r_join1 (fun t5 w' => t5 = .int .i64 (cnt (l.take (j + 1)) k : Nat) ∧ w = w') ?_ ?_
  · rintro _ _ ⟨rfl, rfl⟩
    simp (disch := omega) only [r_ln, r_pick, r_pickT, r_pickF, r_condT, r_condF, r_gdTT, r_gdFF, r_gdTF, r_gdFT, r_gqTT, r_gqFF, r_gqTF, r_gqFT, r_not, r_lss, r_leq, r_gtr, r_geq, r_eql, r_neq, r_add, r_sub, r_min2, r_max2, r_min3, r_max3, r_fa, r_iaS, r_iaA, r_ex2a, r_ex2b, r_ex3a, r_ex3b, r_ex3c, r_nc, r_keepE, Nat.zero_add, Nat.add_zero, Nat.mul_one, Int.toNat_natCast, toNat_sub1, toNat_add1, decide_true, decide_false, Bool.not_true, Bool.not_false, if_true, if_false, Bool.false_eq_true, reduceCtorEq]
    exact ⟨⟨j + 1, by omega, by go_num, rfl, trivial⟩, by simp only [intOf]; omega⟩
  · intro kk hkk
    by_cases hx : k < l.getD j 0
    · simp (disch := omega) only [r_ln, r_pick, r_pickT, r_pickF, r_condT, r_condF, r_gdTT, r_gdFF, r_gdTF, r_gdFT, r_gqTT, r_gqFF, r_gqTF, r_gqFT, r_not, r_lss, r_leq, r_gtr, r_geq, r_eql, r_neq, r_add, r_sub, r_min2, r_max2, r_min3, r_max3, r_fa, r_iaS, r_iaA, r_ex2a, r_ex2b, r_ex3a, r_ex3b, r_ex3c, r_nc, r_keepE, Nat.zero_add, Nat.add_zero, Nat.mul_one, Int.toNat_natCast, toNat_sub1, toNat_add1, decide_true, decide_false, Bool.not_true, Bool.not_false, if_true, if_false, Bool.false_eq_true, reduceCtorEq, hx]
      rw [if_pos hx] at hst
      exact hkk _ _ ⟨by rw [hst]; go_num, rfl⟩
    · simp (disch := omega) only [r_ln, r_pick, r_pickT, r_pickF, r_condT, r_condF, r_gdTT, r_gdFF, r_gdTF, r_gdFT, r_gqTT, r_gqFF, r_gqTF, r_gqFT, r_not, r_lss, r_leq, r_gtr, r_geq, r_eql, r_neq, r_add, r_sub, r_min2, r_max2, r_min3, r_max3, r_fa, r_iaS, r_iaA, r_ex2a, r_ex2b, r_ex3a, r_ex3b, r_ex3c, r_nc, r_keepE, Nat.zero_add, Nat.add_zero, Nat.mul_one, Int.toNat_natCast, toNat_sub1, toNat_add1, decide_true, decide_false, Bool.not_true, Bool.not_false, if_true, if_false, Bool.false_eq_true, reduceCtorEq, hx]
      rw [if_neg hx] at hst
      exact hkk _ _ ⟨by rw [hst]; rfl, rfl⟩

theorem box_slice {w : World} {t : TypeId} {a : Option Addr} {n c : Nat} {K : Value → World → Prop} (h : ∀ (b : Nat) (w' : World), b = w.heap.size → w'.heap.size = b + 1 → w'.heap[b]? = some (.cells #[.slice a n c] t (0, 0)) → Below w.heap.size w w' → K (.pointer (some ⟨b, 0, none⟩)) w') : boxW t (.slice a n c) w K := r_box h

set_option maxRecDepth 100000 in
theorem comp1_calls {A B C : Nat} {h : List (List Int)} (hh : IsHeap A B C h) (hA : A ≤ 4) (hB : B ≤ 4) (hC : C ≤ 4) (i j b2 b3 : Nat) (v : Value) (w : World) (hi : i < A) (hj : j < B)
    (h2 : w.heap[b2]? = some (.cells (boxV A B C).cells 25 (0, 0))) (h3 : w.heap[b3]? = some (.cells #[v] 26 (0, 0))) (hr : RdRows w v h) :
    Calls Try.prog 87 #[.int .i64 i, .int .i64 j, ptrV b2, ptrV b3] w fun e w' => e = .returned (.int .i64 ((C : Int) - hat h (A - 1 - i) (B - 1 - j))) ∧ Kp w w' := by
  have hs := sized_of hh
  refine lift87 ?_
  unfold S87
  refine r_drew fun w1 k1 _ => ?_
  obtain ⟨c0, c1, c2⟩ := box3 (block_below h2 k1)
  have cv : w1.cell? ⟨b3, 0, none⟩ = some v := by rw [cell_row (block_below h3 k1)]; rfl
  obtain ⟨b, o, cap, rv, rfl, hc, hrow⟩ := (hr.below k1).row (i := A - 1 - i) (by rw [hs.1]; omega)
  obtain ⟨rb, ro, rcap, rfl, hx⟩ := hrow.at (j := B - 1 - j) (by rw [hs.2 _ (by omega)]; omega)
  have hl := hs.1
  have hl2 := hs.2 (A - 1 - i) (by omega)
  have e1 : ((A : Int) - 1 - i).toNat = A - 1 - i := by omega
  have e2 : ((B : Int) - 1 - j).toNat = B - 1 - j := by omega
  have p1 := hh.pos (A - 1 - i) (B - 1 - j) (by omega) (by omega)
  have p2 := hh.top (A - 1 - i) (B - 1 - j) (by omega) (by omega)
  unfold hat at p1 p2 ⊢
  simp (disch := omega) only [r_ln, r_pick, r_pickT, r_pickF, r_condT, r_condF, r_gdTT, r_gdFF, r_gdTF, r_gdFT, r_gqTT, r_gqFF, r_gqTF, r_gqFT, r_not, r_lss, r_leq, r_gtr, r_geq, r_eql, r_neq, r_add, r_sub, r_min2, r_max2, r_min3, r_max3, r_fa, r_iaS, r_iaA, r_ex2a, r_ex2b, r_ex3a, r_ex3b, r_ex3c, r_nc, r_keepE, Nat.zero_add, Nat.add_zero, Nat.mul_one, Int.toNat_natCast, toNat_sub1, toNat_add1, decide_true, decide_false, Bool.not_true, Bool.not_false, if_true, if_false, Bool.false_eq_true, reduceCtorEq, r_ld c0, r_ld c1, r_ld c2, r_ld cv, e1, e2, r_ld hc, r_ld hx]
  exact ⟨trivial, k1⟩

theorem isHeap_of {A B C : Int} {h : List (List Int)} (he : heapErr A B C h = 0) : ∃ a b c : Nat, A = a ∧ B = b ∧ C = c ∧ (1 ≤ a ∧ a ≤ 4) ∧ (1 ≤ b ∧ b ≤ 4) ∧ (1 ≤ c ∧ c ≤ 4) ∧ IsHeap a b c h := by
  unfold heapErr at he
  split at he
  · rename_i hv
    obtain ⟨a, b, c, rfl, rfl, rfl, h1, h2, h3, h4, h5, h6⟩ := validB_nat hv.1
    exact ⟨a, b, c, rfl, rfl, rfl, ⟨h1, h2⟩, ⟨h3, h4⟩, ⟨h5, h6⟩, heapOk_iff.1 hv.2⟩
  · cases he

/-- What is asked of a function value that makes another heap of one. -/
def Makes (f : Value) (A B C : Int) (v : Value) (h R : List (List Int)) : Prop :=
  heapErr A B C h = 0 → ∀ (w : World) (K : Value → World → Prop), RdRows w v h → (∀ v' w', Kp w w' → NewRows w w' v' R → K v' w') → callW Try.prog f [boxV A B C, v] w K

set_option maxRecDepth 100000 in
theorem makes_comp (A B C : Int) (v : Value) (h : List (List Int)) : Makes (.func (.func 70) #[] #[]) A B C v h (compM A.toNat B.toNat C.toNat h) := by
  intro he w K hr hk
  obtain ⟨a, b, c, rfl, rfl, rfl, ha, hb, hc, hh⟩ := isHeap_of he
  refine r_call fok70 ?_
  refine lift70 ?_
  unfold S70
  obtain ⟨va, vc, hv, _⟩ := hr.len
  refine r_box fun b2 w1 e1 s1 g1 k1 => ?_
  subst hv
  refine box_slice fun b3 w2 e2 s2 g2 k2 => ?_
  obtain ⟨c0, c1, c2⟩ := box3 (block_below g1 k2)
  simp (disch := omega) only [r_ln, r_pick, r_pickT, r_pickF, r_condT, r_condF, r_gdTT, r_gdFF, r_gdTF, r_gdFT, r_gqTT, r_gqFF, r_gqTF, r_gqFT, r_not, r_lss, r_leq, r_gtr, r_geq, r_eql, r_neq, r_add, r_sub, r_min2, r_max2, r_min3, r_max3, r_fa, r_iaS, r_iaA, r_ex2a, r_ex2b, r_ex3a, r_ex3b, r_ex3c, r_nc, r_keepE, Nat.zero_add, Nat.add_zero, Nat.mul_one, Int.toNat_natCast, toNat_sub1, toNat_add1, decide_true, decide_false, Bool.not_true, Bool.not_false, if_true, if_false, Bool.false_eq_true, reduceCtorEq, r_ld c0, r_ld c1]
  have k12 := Kp.trans k1 k2
  refine r_use fok86 (made_calls a b _ (fun i j => (c : Int) - hat h (a - 1 - i) (b - 1 - j)) w2 (by omega) (by omega) ?_) rfl ?_
  · intro i j wq K hi hj hkq hK
    refine r_use fok87 (comp1_calls hh ha.2 hb.2 hc.2 i j b2 b3 _ wq hi hj (block_below (block_below g1 k2) hkq) (block_below g2 hkq) (hr.below (Kp.trans k12 hkq))) rfl ?_
    rintro _ w3 ⟨rfl, k3⟩
    exact ⟨_, rfl, hK _ k3⟩
  · rintro _ w3 ⟨v3, rfl, k3, g, bs, ho, hg, hbs⟩
    refine ⟨_, rfl, v3, rfl, hk _ _ (Kp.trans k12 k3) ⟨g, bs, ho, ?_, fun i hi => ?_⟩⟩
    · omega
    · have := hbs i hi; omega

set_option maxRecDepth 100000 in
theorem trans1_calls {A B C : Nat} {h : List (List Int)} (hh : IsHeap A B C h) (i j b3 : Nat) (v : Value) (w : World) (hi : i < A) (hj : j < B) (h3 : w.heap[b3]? = some (.cells #[v] 26 (0, 0))) (hr : RdRows w v h) :
    Calls Try.prog 88 #[.int .i64 j, .int .i64 i, ptrV b3] w fun e w' => e = .returned (.int .i64 (hat h i j)) ∧ Kp w w' := by
  have hs := sized_of hh
  refine lift88 ?_
  unfold S88
  have cv : w.cell? ⟨b3, 0, none⟩ = some v := by rw [cell_row h3]; rfl
  obtain ⟨b, o, cap, rv, rfl, hc, hrow⟩ := hr.row (i := i) (by rw [hs.1]; omega)
  obtain ⟨rb, ro, rcap, rfl, hx⟩ := hrow.at (j := j) (by rw [hs.2 _ (by omega)]; omega)
  have hl := hs.1
  have hl2 := hs.2 i hi
  simp (disch := omega) only [r_ln, r_pick, r_pickT, r_pickF, r_condT, r_condF, r_gdTT, r_gdFF, r_gdTF, r_gdFT, r_gqTT, r_gqFF, r_gqTF, r_gqFT, r_not, r_lss, r_leq, r_gtr, r_geq, r_eql, r_neq, r_add, r_sub, r_min2, r_max2, r_min3, r_max3, r_fa, r_iaS, r_iaA, r_ex2a, r_ex2b, r_ex3a, r_ex3b, r_ex3c, r_nc, r_keepE, Nat.zero_add, Nat.add_zero, Nat.mul_one, Int.toNat_natCast, toNat_sub1, toNat_add1, decide_true, decide_false, Bool.not_true, Bool.not_false, if_true, if_false, Bool.false_eq_true, reduceCtorEq, r_ld cv, r_ld hc, r_ld hx]
  exact ⟨rfl, Kp.refl _⟩

set_option maxRecDepth 100000 in
theorem makes_trans (A B C : Int) (v : Value) (h : List (List Int)) : Makes (.func (.func 71) #[] #[]) A B C v h (transM A.toNat B.toNat h) := by
  intro he w K hr hk
  obtain ⟨a, b, c, rfl, rfl, rfl, ha, hb, hc, hh⟩ := isHeap_of he
  refine r_call fok71 ?_
  refine lift71 ?_
  unfold S71
  obtain ⟨va, vc, hv, _⟩ := hr.len
  refine r_box fun b2 w1 e1 s1 g1 k1 => ?_
  subst hv
  refine box_slice fun b3 w2 e2 s2 g2 k2 => ?_
  obtain ⟨c0, c1, c2⟩ := box3 (block_below g1 k2)
  simp (disch := omega) only [r_ln, r_pick, r_pickT, r_pickF, r_condT, r_condF, r_gdTT, r_gdFF, r_gdTF, r_gdFT, r_gqTT, r_gqFF, r_gqTF, r_gqFT, r_not, r_lss, r_leq, r_gtr, r_geq, r_eql, r_neq, r_add, r_sub, r_min2, r_max2, r_min3, r_max3, r_fa, r_iaS, r_iaA, r_ex2a, r_ex2b, r_ex3a, r_ex3b, r_ex3c, r_nc, r_keepE, Nat.zero_add, Nat.add_zero, Nat.mul_one, Int.toNat_natCast, toNat_sub1, toNat_add1, decide_true, decide_false, Bool.not_true, Bool.not_false, if_true, if_false, Bool.false_eq_true, reduceCtorEq, r_ld c0, r_ld c1]
  have k12 := Kp.trans k1 k2
  refine r_use fok86 (made_calls b a _ (fun j i => hat h i j) w2 (by omega) (by omega) ?_) rfl ?_
  · intro j i wq K hj hi hkq hK
    refine r_use fok88 (trans1_calls hh i j b3 _ wq hi hj (block_below g2 hkq) (hr.below (Kp.trans k12 hkq))) rfl ?_
    rintro _ w3 ⟨rfl, k3⟩
    exact ⟨_, rfl, hK _ k3⟩
  · rintro _ w3 ⟨v3, rfl, k3, g, bs, ho, hg, hbs⟩
    refine ⟨_, rfl, v3, rfl, hk _ _ (Kp.trans k12 k3) ⟨g, bs, ho, ?_, fun i hi => ?_⟩⟩
    · omega
    · have := hbs i hi; omega

set_option maxRecDepth 100000 in
theorem turn1_calls {A B C : Nat} {h : List (List Int)} (hh : IsHeap A B C h) (k i b3 : Nat) (v : Value) (w : World) (hi : i < A) (h3 : w.heap[b3]? = some (.cells #[v] 26 (0, 0))) (hr : RdRows w v h) :
    Calls Try.prog 89 #[.int .i64 k, .int .i64 i, ptrV b3] w fun e w' => e = .returned (.int .i64 (cnt (h.getD i []) k : Nat)) ∧ Kp w w' := by
  have hs := sized_of hh
  refine lift89 ?_
  unfold S89
  have cv : w.cell? ⟨b3, 0, none⟩ = some v := by rw [cell_row h3]; rfl
  obtain ⟨b, o, cap, rv, rfl, hc, hrow⟩ := hr.row (i := i) (by rw [hs.1]; omega)
  have hl := hs.1
  simp (disch := omega) only [r_ln, r_pick, r_pickT, r_pickF, r_condT, r_condF, r_gdTT, r_gdFF, r_gdTF, r_gdFT, r_gqTT, r_gqFF, r_gqTF, r_gqFT, r_not, r_lss, r_leq, r_gtr, r_geq, r_eql, r_neq, r_add, r_sub, r_min2, r_max2, r_min3, r_max3, r_fa, r_iaS, r_iaA, r_ex2a, r_ex2b, r_ex3a, r_ex3b, r_ex3c, r_nc, r_keepE, Nat.zero_add, Nat.add_zero, Nat.mul_one, Int.toNat_natCast, toNat_sub1, toNat_add1, decide_true, decide_false, Bool.not_true, Bool.not_false, if_true, if_false, Bool.false_eq_true, reduceCtorEq, r_ld cv, r_ld hc]
  refine r_use fok77 (higher_calls rv _ k w hrow) rfl ?_
  rintro _ _ ⟨rfl, rfl⟩
  exact ⟨_, rfl, rfl, Kp.refl _⟩

set_option maxRecDepth 100000 in
theorem makes_turn (A B C : Int) (v : Value) (h : List (List Int)) : Makes (.func (.func 72) #[] #[]) A B C v h (turnM A.toNat C.toNat h) := by
  intro he w K hr hk
  obtain ⟨a, b, c, rfl, rfl, rfl, ha, hb, hc, hh⟩ := isHeap_of he
  refine r_call fok72 ?_
  refine lift72 ?_
  unfold S72
  obtain ⟨va, vc, hv, _⟩ := hr.len
  refine r_box fun b2 w1 e1 s1 g1 k1 => ?_
  subst hv
  refine box_slice fun b3 w2 e2 s2 g2 k2 => ?_
  obtain ⟨c0, c1, c2⟩ := box3 (block_below g1 k2)
  simp (disch := omega) only [r_ln, r_pick, r_pickT, r_pickF, r_condT, r_condF, r_gdTT, r_gdFF, r_gdTF, r_gdFT, r_gqTT, r_gqFF, r_gqTF, r_gqFT, r_not, r_lss, r_leq, r_gtr, r_geq, r_eql, r_neq, r_add, r_sub, r_min2, r_max2, r_min3, r_max3, r_fa, r_iaS, r_iaA, r_ex2a, r_ex2b, r_ex3a, r_ex3b, r_ex3c, r_nc, r_keepE, Nat.zero_add, Nat.add_zero, Nat.mul_one, Int.toNat_natCast, toNat_sub1, toNat_add1, decide_true, decide_false, Bool.not_true, Bool.not_false, if_true, if_false, Bool.false_eq_true, reduceCtorEq, r_ld c0, r_ld c2]
  have k12 := Kp.trans k1 k2
  refine r_use fok86 (made_calls c a _ (fun k i => (cnt (h.getD i []) k : Nat)) w2 (by omega) (by omega) ?_) rfl ?_
  · intro k i wq K hk2 hi hkq hK
    refine r_use fok89 (turn1_calls hh k i b3 _ wq hi (block_below g2 hkq) (hr.below (Kp.trans k12 hkq))) rfl ?_
    rintro _ w3 ⟨rfl, k3⟩
    exact ⟨_, rfl, hK _ k3⟩
  · rintro _ w3 ⟨v3, rfl, k3, g, bs, ho, hg, hbs⟩
    refine ⟨_, rfl, v3, rfl, hk _ _ (Kp.trans k12 k3) ⟨g, bs, ho, ?_, fun i hi => ?_⟩⟩
    · omega
    · have := hbs i hi; omega

/-- What a function that makes another heap hands back. -/
def ChgRes (A B C : Int) (h R : List (List Int)) (w w' : World) (v : Value) (err : Int) : Prop := err = heapErr A B C h ∧ if err = 0 then NewRows w w' v R else v = nilS

theorem NewRows.since {w w0 w' : World} {v : Value} {h : List (List Int)} (n : NewRows w w' v h) (hk : w0.heap.size ≤ w.heap.size) : NewRows w0 w' v h :=
  let ⟨g, bs, ho, hg, hbs⟩ := n; ⟨g, bs, ho, by omega, fun i hi => by have := hbs i hi; omega⟩

theorem heapErr_cases (A B C : Int) (h : List (List Int)) : heapErr A B C h = 0 ∨ heapErr A B C h = 2 := by unfold heapErr; split <;> simp

set_option maxRecDepth 100000 in
theorem changed_calls (A B C : Int) (v f : Value) (h R : List (List Int)) (w : World) (hr : RdRows w v h) (hf : Makes f A B C v h R) :
    Calls Try.prog 69 #[boxV A B C, v, f] w fun e w' => ∃ v' err, e = .returned (.tuple #[v', .int .i64 err]) ∧ Kp w w' ∧ ChgRes A B C h R w w' v' err := by
  refine lift69 ?_
  unfold S69
  refine r_box fun b w1 hbw hsz hb hk => ?_
  rw [r_ldRow (n := 3) hb rfl]
  refine r_use fok47 (checked_calls A B C v h w1 (hr.below hk)) rfl ?_
  rintro _ w2 ⟨rfl, k2⟩
  refine ⟨_, rfl, ?_⟩
  have hk2 := Kp.trans hk k2
  rcases heapErr_cases A B C h with he | he
  · simp (disch := omega) only [r_ln, r_pick, r_pickT, r_pickF, r_condT, r_condF, r_gdTT, r_gdFF, r_gdTF, r_gdFT, r_gqTT, r_gqFF, r_gqTF, r_gqFT, r_not, r_lss, r_leq, r_gtr, r_geq, r_eql, r_neq, r_add, r_sub, r_min2, r_max2, r_min3, r_max3, r_fa, r_iaS, r_iaA, r_ex2a, r_ex2b, r_ex3a, r_ex3b, r_ex3c, r_nc, r_keepE, Nat.zero_add, Nat.add_zero, Nat.mul_one, Int.toNat_natCast, toNat_sub1, toNat_add1, decide_true, decide_false, Bool.not_true, Bool.not_false, if_true, if_false, Bool.false_eq_true, reduceCtorEq, he, r_ldRow (n := 3) (block_below hb k2) rfl]
    refine hf he w2 _ (hr.below hk2) fun v' w3 k3 hn => ?_
    exact ⟨v', 0, rfl, Kp.trans hk2 k3, by rw [he], by rw [if_pos rfl]; exact hn.since hk2.size⟩
  · have h20 : ¬ ((2 : Int) = 0) := by decide
    simp (disch := omega) only [r_ln, r_pick, r_pickT, r_pickF, r_condT, r_condF, r_gdTT, r_gdFF, r_gdTF, r_gdFT, r_gqTT, r_gqFF, r_gqTF, r_gqFT, r_not, r_lss, r_leq, r_gtr, r_geq, r_eql, r_neq, r_add, r_sub, r_min2, r_max2, r_min3, r_max3, r_fa, r_iaS, r_iaA, r_ex2a, r_ex2b, r_ex3a, r_ex3b, r_ex3c, r_nc, r_keepE, Nat.zero_add, Nat.add_zero, Nat.mul_one, Int.toNat_natCast, toNat_sub1, toNat_add1, decide_true, decide_false, Bool.not_true, Bool.not_false, if_true, if_false, Bool.false_eq_true, reduceCtorEq, he, h20]
    exact ⟨nilS, 2, rfl, hk2, by rw [he], by rw [if_neg h20]⟩

set_option maxRecDepth 100000 in
theorem complement_calls (A B C : Int) (v : Value) (h : List (List Int)) (w : World) (hr : RdRows w v h) :
    Calls Try.prog 36 #[boxV A B C, v] w fun e w' => ∃ v' err, e = .returned (.tuple #[v', .int .i64 err]) ∧ Kp w w' ∧ ChgRes A B C h (compM A.toNat B.toNat C.toNat h) w w' v' err := by
  refine lift36 ?_
  unfold S36
  refine r_box fun b w1 hbw hsz hb hk => ?_
  rw [r_ldRow (n := 3) hb rfl]
  refine r_use fok69 (changed_calls A B C v _ h _ w1 (hr.below hk) (makes_comp A B C v h)) rfl ?_
  rintro _ w2 ⟨v2, err, rfl, k2, he, hres⟩
  refine ⟨_, rfl, ?_⟩
  simp only [r_ex2a, r_ex2b]
  refine ⟨v2, err, rfl, Kp.trans hk k2, he, ?_⟩
  split at hres
  · rename_i h0; rw [if_pos h0]; exact hres.since hk.size
  · rename_i h0; rw [if_neg h0]; exact hres

set_option maxRecDepth 100000 in
theorem transpose_calls (A B C : Int) (v : Value) (h : List (List Int)) (w : World) (hr : RdRows w v h) :
    Calls Try.prog 37 #[boxV A B C, v] w fun e w' => ∃ v' err, e = .returned (.tuple #[v', .int .i64 err]) ∧ Kp w w' ∧ ChgRes A B C h (transM A.toNat B.toNat h) w w' v' err := by
  refine lift37 ?_
  unfold S37
  refine r_box fun b w1 hbw hsz hb hk => ?_
  rw [r_ldRow (n := 3) hb rfl]
  refine r_use fok69 (changed_calls A B C v _ h _ w1 (hr.below hk) (makes_trans A B C v h)) rfl ?_
  rintro _ w2 ⟨v2, err, rfl, k2, he, hres⟩
  refine ⟨_, rfl, ?_⟩
  simp only [r_ex2a, r_ex2b]
  refine ⟨v2, err, rfl, Kp.trans hk k2, he, ?_⟩
  split at hres
  · rename_i h0; rw [if_pos h0]; exact hres.since hk.size
  · rename_i h0; rw [if_neg h0]; exact hres

set_option maxRecDepth 100000 in
theorem turnf_calls (A B C : Int) (v : Value) (h : List (List Int)) (w : World) (hr : RdRows w v h) :
    Calls Try.prog 38 #[boxV A B C, v] w fun e w' => ∃ v' err, e = .returned (.tuple #[v', .int .i64 err]) ∧ Kp w w' ∧ ChgRes A B C h (turnM A.toNat C.toNat h) w w' v' err := by
  refine lift38 ?_
  unfold S38
  refine r_box fun b w1 hbw hsz hb hk => ?_
  rw [r_ldRow (n := 3) hb rfl]
  refine r_use fok69 (changed_calls A B C v _ h _ w1 (hr.below hk) (makes_turn A B C v h)) rfl ?_
  rintro _ w2 ⟨v2, err, rfl, k2, he, hres⟩
  refine ⟨_, rfl, ?_⟩
  simp only [r_ex2a, r_ex2b]
  refine ⟨v2, err, rfl, Kp.trans hk k2, he, ?_⟩
  split at hres
  · rename_i h0; rw [if_pos h0]; exact hres.since hk.size
  · rename_i h0; rw [if_neg h0]; exact hres

end Go.Proofs.Ytaephdjmpmbfpaa

/- Counting heaps by volume. Plain; no program. -/
namespace Go.Proofs.Ytaephdjmpmbfpaa
open Go.Hp

/-- How many of the heaps have volume v. -/
def volC (L : List (List (List Int))) (v : Int) : Int := ((L.filter fun h => decide (volM h = v)).length : Nat)

theorem volC_append (L M : List (List (List Int))) (v : Int) : volC (L ++ M) v = volC L v + volC M v := by simp [volC, List.filter_append]
theorem volC_nil (v : Int) : volC [] v = 0 := rfl
theorem volC_flat {α : Type} {f : α → List (List (List Int))} (v : Int) : ∀ l : List α, volC (l.flatMap f) v = (l.map fun x => volC (f x) v).sum
  | [] => rfl
  | x :: l => by rw [List.flatMap_cons, volC_append, volC_flat v l]; simp
theorem volM_cons (r : List Int) (h : List (List Int)) : volM (r :: h) = r.sum + volM h := by simp [volM]
theorem volC_cons (r : List Int) (L : List (List (List Int))) (v : Int) : volC (L.map (r :: ·)) v = volC L (v - r.sum) := by
  unfold volC
  rw [List.filter_map, List.length_map]
  congr 2
  refine List.filter_congr fun t _ => ?_
  simp only [Function.comp_def, volM_cons]
  exact decide_eq_decide.2 (by omega)
theorem volC_nonneg (L : List (List (List Int))) (v : Int) : 0 ≤ volC L v := by unfold volC; omega
theorem volC_le (L : List (List (List Int))) (v : Int) : volC L v ≤ L.length := by
  unfold volC
  have := List.length_filter_le (fun h => decide (volM h = v)) L
  omega
theorem volC_zero {L : List (List (List Int))} {v : Int} (h : ∀ t ∈ L, volM t ≠ v) : volC L v = 0 := by
  unfold volC
  rw [List.filter_eq_nil_iff.2 fun t ht => by simpa using h t ht]
  rfl

/-- A row under which the others lie. -/
def GoodR (B : Nat) (C : Int) (ab : List Int) : Prop := ab.length = 4 ∧ (∀ k, 0 ≤ ab.getD k 0 ∧ ab.getD k 0 ≤ C) ∧ ∀ k, B ≤ k → ab.getD k 0 = 0

theorem bel_rest {ab : List Int} : ∀ (n j : Nat) (r : List Int), ∀ q ∈ bel ab n j r, ∀ k, j + n ≤ k → q.getD k 0 = r.getD k 0
  | 0, j, r, q, hq, k, _ => by simp [bel] at hq; rw [hq]
  | n + 1, j, r, q, hq, k, hk => by
    simp only [bel, List.mem_flatMap, List.mem_range] at hq
    obtain ⟨x, _, hq⟩ := hq
    rw [bel_rest n (j + 1) _ q hq k (by omega)]
    simp only [List.getD_eq_getElem?_getD]
    rw [List.getElem?_set_ne (by omega)]

theorem below_good {B : Nat} {C : Int} {ab : List Int} (h0 : 0 ≤ C) (hg : GoodR B C ab) : ∀ r ∈ belowM B ab, GoodR B C r := fun r hr => by
  obtain ⟨h1, h2⟩ := belowM_fine h0 (fun k => (hg.2.1 k).2) r hr
  refine ⟨h1, h2, fun k hk => ?_⟩
  rw [bel_rest B 0 _ r hr k (by omega)]
  match k with
  | 0 => rfl
  | 1 => rfl
  | 2 => rfl
  | 3 => rfl
  | k + 4 => rfl

theorem row_sum {B : Nat} {C : Int} {r : List Int} (hB : B ≤ 4) (h : GoodR B C r) : (r.take B).sum = r.sum ∧ 0 ≤ r.sum ∧ r.sum ≤ B * C := by
  obtain ⟨hl, hr, hz⟩ := h
  match r, hl with
  | [a, b, c, d], _ =>
    have r0 := hr 0
    have r1 := hr 1
    have r2 := hr 2
    have r3 := hr 3
    have z0 := hz 0
    have z1 := hz 1
    have z2 := hz 2
    have z3 := hz 3
    simp at r0 r1 r2 r3 z0 z1 z2 z3
    match B, hB with
    | 0, _ => simp at *; omega
    | 1, _ => simp at *; omega
    | 2, _ => simp at *; omega
    | 3, _ => simp at *; omega
    | 4, _ => simp at *; omega

theorem top_good {B : Nat} {C : Int} (hB : B ≤ 4) (hC : 0 ≤ C) : GoodR B C (topRow B C) := by
  obtain ⟨_, h1, h2, h3, _, _⟩ := above_top (C := C) hB
  refine ⟨h1, fun k => ?_, h2⟩
  unfold topRow
  rw [List.getD_eq_getElem?_getD, List.getElem?_append]
  simp only [List.length_replicate, List.getElem?_replicate]
  split
  · simp [*]
  · split <;> simp [hC]

theorem vol_range {B C : Nat} (hB : B ≤ 4) : ∀ (n : Nat) (ab : List Int), GoodR B C ab → ∀ t ∈ allE B n ab, 0 ≤ volM t ∧ volM t ≤ ((n * B * C : Nat) : Int)
  | 0, ab, _, t, ht => by simp [allE] at ht; subst ht; simp [volM]
  | n + 1, ab, hg, t, ht => by
    simp only [allE, List.mem_flatMap, List.mem_map] at ht
    obtain ⟨r, hr, t, ht, rfl⟩ := ht
    have hgr := below_good (by omega) hg r hr
    have h1 := row_sum hB hgr
    have h2 := vol_range hB n r hgr t ht
    rw [volM_cons, h1.1]
    have e : (n + 1) * B * C = n * B * C + B * C := by rw [Nat.add_mul, Nat.add_mul, Nat.one_mul]
    have e2 : ((B * C : Nat) : Int) = (B : Int) * C := by simp
    omega

/-- out with the first m numbers of l added from place s on. -/
def addTo (out : List Int) (s : Nat) (l : List Int) : Nat → List Int
  | 0 => out
  | m + 1 => (addTo out s l m).set (m + s) ((addTo out s l m).getD (m + s) 0 + l.getD m 0)

theorem addTo_length (out : List Int) (s : Nat) (l : List Int) : ∀ m, (addTo out s l m).length = out.length
  | 0 => rfl
  | m + 1 => by simp [addTo, addTo_length out s l m]

theorem addTo_getD {out : List Int} {s : Nat} {l : List Int} : ∀ m, s + m ≤ out.length → ∀ k, (addTo out s l m).getD k 0 = out.getD k 0 + if s ≤ k ∧ k < s + m then l.getD (k - s) 0 else 0
  | 0, _, k => by rw [if_neg (by omega)]; simp [addTo]
  | m + 1, hm, k => by
    have ih := addTo_getD (out := out) (s := s) (l := l) m (by omega)
    have hl := addTo_length out s l m
    rw [addTo, List.getD_eq_getElem?_getD, List.getElem?_set]
    by_cases hk : m + s = k
    · subst hk
      rw [if_pos rfl, if_pos (by omega), ih (m + s), if_neg (by omega), if_pos (by omega), Nat.add_sub_cancel]
      simp
    · rw [if_neg hk, ← List.getD_eq_getElem?_getD, ih k]
      by_cases h : s ≤ k ∧ k < s + m
      · rw [if_pos h, if_pos (by omega)]
      · rw [if_neg h, if_neg (by omega)]

/-- How many ways there are to go on, by volume. -/
def sizedM (B C : Nat) : Nat → List Int → List Int
  | 0, _ => [1]
  | n + 1, ab => (belowM B ab).foldl (fun o r => addTo o r.sum.toNat (sizedM B C n r) (n * B * C + 1)) (List.replicate ((n + 1) * B * C + 1) 0)

theorem foldl_add {f : List Int → List Int} {m len : Nat} : ∀ (rs : List (List Int)) (out : List Int), out.length = len → (∀ r ∈ rs, 0 ≤ r.sum ∧ r.sum.toNat + m ≤ len) →
    (rs.foldl (fun o r => addTo o r.sum.toNat (f r) m) out).length = len ∧
    ∀ k : Nat, (rs.foldl (fun o r => addTo o r.sum.toNat (f r) m) out).getD k 0 = out.getD k 0 + (rs.map fun (r : List Int) => if r.sum ≤ (k : Int) ∧ (k : Int) < r.sum + (m : Int) then (f r).getD (k - r.sum.toNat) 0 else 0).sum
  | [], out, hl, _ => ⟨hl, fun k => by simp⟩
  | r :: rs, out, hl, h => by
    have h1 := h r (by simp)
    obtain ⟨g1, g2⟩ := foldl_add (f := f) rs (addTo out r.sum.toNat (f r) m) ((addTo_length _ _ _ _).trans hl) fun q hq => h q (by simp [hq])
    refine ⟨g1, fun k => ?_⟩
    rw [List.foldl_cons, g2 k, addTo_getD m (by omega), List.map_cons, List.sum_cons]
    have : (r.sum.toNat ≤ k ∧ k < r.sum.toNat + m) ↔ (r.sum ≤ (k : Int) ∧ (k : Int) < r.sum + (m : Int)) := by omega
    simp only [this]
    omega

/-- The numbers of heaps of each volume, as a list. -/
def volL (len : Nat) (L : List (List (List Int))) : List Int := (List.range len).map fun v => volC L (v : Nat)
theorem volL_length (len : Nat) (L : List (List (List Int))) : (volL len L).length = len := by simp [volL]
theorem volL_getD {len k : Nat} {L : List (List (List Int))} (h : k < len) : (volL len L).getD k 0 = volC L (k : Nat) := by simp [volL, List.getD_eq_getElem?_getD, h]

theorem sized_volL {B C : Nat} (hB : B ≤ 4) : ∀ (n : Nat) (ab : List Int), GoodR B C ab → sizedM B C n ab = volL (n * B * C + 1) (allE B n ab)
  | 0, ab, _ => by simp [sizedM, volL, allE, volC, volM]
  | n + 1, ab, hg => by
    have e : (n + 1) * B * C = n * B * C + B * C := by rw [Nat.add_mul, Nat.add_mul, Nat.one_mul]
    have e2 : ((B * C : Nat) : Int) = (B : Int) * C := by simp
    have hgood := below_good (by omega) hg
    have hrow : ∀ r ∈ belowM B ab, (r.take B).sum = r.sum ∧ 0 ≤ r.sum ∧ r.sum ≤ B * C := fun r hr => row_sum hB (hgood r hr)
    obtain ⟨g1, g2⟩ := foldl_add (f := sizedM B C n) (m := n * B * C + 1) (len := (n + 1) * B * C + 1) (belowM B ab) (List.replicate ((n + 1) * B * C + 1) 0) (by simp) fun r hr => by
      have := hrow r hr
      omega
    refine List.ext_getElem (by rw [volL_length]; exact g1) fun k h1 h2 => ?_
    have hk : k < (n + 1) * B * C + 1 := by rw [← volL_length ((n + 1) * B * C + 1) (allE B (n + 1) ab)]; exact h2
    rw [← getD_lt _ _ 0 h1, ← getD_lt _ _ 0 h2, volL_getD hk]
    have g := g2 k
    rw [show sizedM B C (n + 1) ab = (belowM B ab).foldl (fun o r => addTo o r.sum.toNat (sizedM B C n r) (n * B * C + 1)) (List.replicate ((n + 1) * B * C + 1) 0) from rfl, g, allE, volC_flat]
    have e0 : (List.replicate ((n + 1) * B * C + 1) (0 : Int)).getD k 0 = 0 := by simp [List.getD_eq_getElem?_getD, hk]
    rw [e0, Int.zero_add]
    congr 1
    refine List.map_congr_left fun r hr => ?_
    have hs := hrow r hr
    have hv := vol_range hB n r (hgood r hr)
    rw [volC_cons, hs.1]
    by_cases hc : r.sum ≤ (k : Int) ∧ (k : Int) < r.sum + ((n * B * C + 1 : Nat) : Int)
    · rw [if_pos hc, sized_volL hB n r (hgood r hr), volL_getD (by omega)]
      congr 1
      omega
    · rw [if_neg hc, volC_zero]
      intro t ht
      have := hv t ht
      omega

theorem volC_sum {len : Nat} {L : List (List (List Int))} (h : ∀ t ∈ L, 0 ≤ volM t ∧ volM t < len) : (volL len L).sum = L.length := by
  induction L with
  | nil =>
    have : ∀ n, (volL n []).sum = 0 := fun n => by
      induction n with
      | zero => rfl
      | succ n ih => rw [volL, List.range_succ, List.map_append, List.sum_append]; rw [volL] at ih; rw [ih]; simp [volC_nil]
    simpa using this len
  | cons t L ih =>
    have h1 := h t (by simp)
    have h2 := ih fun q hq => h q (by simp [hq])
    have key : ∀ n : Nat, (volL n (t :: L)).sum = (volL n L).sum + if volM t < n then 1 else 0 := by
      intro n
      induction n with
      | zero => simp [volL]; omega
      | succ n ihn =>
        have s1 : ∀ M, (volL (n + 1) M).sum = (volL n M).sum + volC M (n : Nat) := fun M => by rw [volL, List.range_succ, List.map_append, List.sum_append]; simp [volL]
        rw [s1, s1, ihn]
        have : volC (t :: L) (n : Nat) = volC L (n : Nat) + if volM t = n then 1 else 0 := by
          unfold volC
          rw [List.filter_cons]
          by_cases hv : volM t = n <;> simp [hv]
        rw [this]
        by_cases c1 : volM t < n
        · rw [if_pos c1, if_neg (by omega), if_pos (by omega)]; omega
        · rw [if_neg c1]
          by_cases c2 : volM t = n
          · rw [if_pos c2, if_pos (by omega)]; omega
          · rw [if_neg c2, if_neg (by omega)]; omega
    rw [key, h2, if_pos h1.2]
    simp

theorem volL_push {len : Nat} {L : List (List (List Int))} {t : List (List Int)} (h : 0 ≤ volM t ∧ volM t < len) : (volL len L).set (volM t).toNat ((volL len L).getD (volM t).toNat 0 + 1) = volL len (L ++ [t]) := by
  refine List.ext_getElem (by simp [volL]) fun k h1 h2 => ?_
  have hk : k < len := by simpa [volL] using h2
  rw [← getD_lt _ _ 0 h2, volL_getD hk, List.getElem_set, volC_append]
  have e : volC [t] (k : Nat) = if volM t = k then 1 else 0 := by
    unfold volC
    by_cases hv : volM t = k <;> simp [hv]
  rw [e]
  by_cases hv : (volM t).toNat = k
  · rw [if_pos hv, hv, volL_getD hk, if_pos (by omega)]
  · rw [if_neg hv, if_neg (by omega), ← getD_lt _ _ 0 (by simpa [volL] using hk), volL_getD hk]; omega

end Go.Proofs.Ytaephdjmpmbfpaa
