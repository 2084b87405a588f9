/- Texts of my own, merged by program: Sj N7 O1. -/
import Derived.Test.YtaephdjmpmbfpaaM02
import Derived.Test.YtaephdjmpmbfpaaM18
import Derived.Test.YtaephdjmpmbfpaaM19
import Derived.Test.YtaephdjmpmbfpaaM20
set_option linter.all false
/- Lifted texts, printed by program (gen.py): what each function's code asks. The ties are by the kernel. -/
namespace Go.Proofs.Ytaephdjmpmbfpaa
open Go.Lf Go.RowKit

def S10 (t0 t1 t2 t3 t4 : Value) (w : World) (R : Ending → World → Prop) : Prop :=
  callW Try.prog (.func (.func 12) #[] #[]) [t0, t1, t2, t3] w fun t31 w =>
  exQ t31 0 fun t32 =>
  exQ t31 1 fun t33 =>
  boxW 25 (.agg #[(.int .i64 0), (.int .i64 0), (.int .i64 0)]) w fun t11 w =>
  stW Try.prog 25 t11 t32 w fun w =>
  callW Try.prog (.func (.func 12) #[] #[]) [t0, t1, t2, t4] w fun t39 w =>
  exQ t39 0 fun t40 =>
  exQ t39 1 fun t41 =>
  boxW 25 (.agg #[(.int .i64 0), (.int .i64 0), (.int .i64 0)]) w fun t13 w =>
  stW Try.prog 25 t13 t40 w fun w =>
  ldN 3 w t11 fun t43 =>
  callW Try.prog (.func (.func 41) #[] #[]) [t43, t33] w fun t45 w =>
  exQ t45 0 fun t46 =>
  exQ t45 1 fun t47 =>
  ldN 3 w t11 fun t49 =>
  callW Try.prog (.func (.func 41) #[] #[]) [t49, t41] w fun t51 w =>
  exQ t51 0 fun t52 =>
  exQ t51 1 fun t53 =>
  binQ Try.prog w .neq 31 true t47 (.int .i64 0) fun t55 =>
  gd t55 false (fun k => k t53 w) w fun t57 w =>
  gd t55 false (fun k => binQ Try.prog w .neq 31 true t57 (.int .i64 0) fun v => k v w) w fun t58 w =>
  pickQ t55 (.bool true) t58 fun t59 =>
  gd t59 false (fun k => k t46 w) w fun t61 w =>
  gd t59 false (fun k => k t52 w) w fun t62 w =>
  gd t59 false (fun k => callW Try.prog (.func (.func 42) #[] #[]) [t61, t62] w k) w fun t63 w =>
  gd t59 false (fun k => k t33 w) w fun t64 w =>
  gd t59 false (fun k => k t41 w) w fun t65 w =>
  gd t59 false (fun k => callW Try.prog (.func (.func 20) #[] #[]) [t64, t65] w k) w fun t66 w =>
  gd t59 false (fun k => binQ Try.prog w .neq 4 false t63 t66 fun v => k v w) w fun t67 w =>
  pickQ t59 (.bool true) t67 fun t68 =>
  condW t68 (
    R (.returned (.bool false)) w
  ) (
    boxW 66 (.agg #[(.int .i64 0), (.int .i64 0), (.int .i64 0)]) w fun t19 w =>
    Loop1 (.int .i64 0) w fun _ t20 w next =>
      ln1 t46 fun t71 =>
      binQ Try.prog w .lss 3 false t20 t71 fun t72 =>
      condW t72 (
        Drew w fun w =>
        iaS 3 t46 t20 fun t77 =>
        fa1 t77 0 fun t78 =>
        ld1 w t78 fun t79 =>
        binQ Try.prog w .lss 3 true t79 (.int .i64 0) fun t80 =>
        gdQ t80 false (fun k => k t46) fun t82 =>
        gdQ t80 false (fun k => k t20) fun t83 =>
        gdQ t80 false (fun k => iaS 3 t82 t83 k) fun t84 =>
        gdQ t80 false (fun k => fa1 t84 0 k) fun t85 =>
        gdQ t80 false (fun k => ld1 w t85 k) fun t86 =>
        gdQ t80 false (fun k => binQ Try.prog w .gtr 3 true t86 (.int .i64 2) k) fun t87 =>
        pickQ t80 (.bool true) t87 fun t88 =>
        gdQ t88 false (fun k => k t20) fun t90 =>
        gdQ t88 false (fun k => binQ Try.prog w .gtr 3 true t90 (.int .i64 0) k) fun t91 =>
        gdQ t88 false (fun k => k t91) fun t92 =>
        gdQ t92 true (fun k => k t46) fun t93 =>
        gdQ t92 true (fun k => k t20) fun t94 =>
        gdQ t92 true (fun k => iaS 3 t93 t94 k) fun t95 =>
        gdQ t92 true (fun k => ldN 3 w t95 k) fun t96 =>
        gdQ t92 true (fun k => k t46) fun t97 =>
        gdQ t92 true (fun k => k t20) fun t98 =>
        gdQ t92 true (fun k => binQ Try.prog w .sub 3 true t98 (.int .i64 1) k) fun t99 =>
        gdQ t92 true (fun k => iaS 3 t97 t99 k) fun t100 =>
        gdQ t92 true (fun k => ldN 3 w t100 k) fun t101 =>
        gdQ t92 true (fun k => binQ Try.prog w .eql 68 false t96 t101 k) fun t102 =>
        gdQ t88 false (fun k => pickQ t92 t102 (.bool false) k) fun t103 =>
        pickQ t88 (.bool true) t103 fun t104 =>
        condW t104 (
          R (.returned (.bool false)) w
        ) (
          iaS 3 t46 t20 fun t107 =>
          fa1 t107 0 fun t108 =>
          ld1 w t108 fun t109 =>
          iaA 3 1 t19 t109 fun t110 =>
          ld1 w t110 fun t111 =>
          binQ Try.prog w .add 3 true t111 (.int .i64 1) fun t112 =>
          iaA 3 1 t19 t109 fun t113 =>
          stW Try.prog 3 t113 t112 w fun w =>
          binQ Try.prog w .add 3 true t20 (.int .i64 1) fun t74 =>
          next t74 w
        )
      ) (
        ldN 3 w t19 fun t114 =>
        fa1 t11 0 fun t115 =>
        ld1 w t115 fun t116 =>
        fa1 t11 1 fun t117 =>
        ld1 w t117 fun t118 =>
        binQ Try.prog w .mul 3 false t116 t118 fun t119 =>
        fa1 t11 0 fun t120 =>
        ld1 w t120 fun t121 =>
        fa1 t11 2 fun t122 =>
        ld1 w t122 fun t123 =>
        binQ Try.prog w .mul 3 false t121 t123 fun t124 =>
        fa1 t11 1 fun t125 =>
        ld1 w t125 fun t126 =>
        fa1 t11 2 fun t127 =>
        ld1 w t127 fun t128 =>
        binQ Try.prog w .mul 3 false t126 t128 fun t129 =>
        bdQ Try.prog 66 [(0, t119), (1, t124), (2, t129)] fun t130 =>
        binQ Try.prog w .neq 66 false t114 t130 fun t131 =>
        condW t131 (
          R (.returned (.bool false)) w
        ) (
          ldN 3 w t11 fun t133 =>
          callW Try.prog (.func (.func 14) #[] #[]) [t133, t33] w fun t135 w =>
          exQ t135 0 fun t136 =>
          exQ t135 1 fun t137 =>
          exQ t135 2 fun t138 =>
          binQ Try.prog w .neq 31 true t138 (.int .i64 0) fun t140 =>
          condW t140 (
            R (.returned (.bool false)) w
          ) (
            Loop1 (.int .i64 0) w fun _ t23 w next_2 =>
              ln1 t136 fun t143 =>
              binQ Try.prog w .lss 3 false t23 t143 fun t144 =>
              condW t144 (
                Drew w fun w =>
                iaS 2 t136 t23 fun t150 =>
                fa1 t150 1 fun t151 =>
                ld1 w t151 fun t152 =>
                iaS 1 t33 t152 fun t153 =>
                ld1 w t153 fun t154 =>
                iaS 2 t136 t23 fun t157 =>
                fa1 t157 0 fun t158 =>
                ld1 w t158 fun t159 =>
                iaS 1 t154 t159 fun t160 =>
                ld1 w t160 fun t161 =>
                binQ Try.prog w .add 3 true t161 (.int .i64 1) fun t162 =>
                iaS 1 t154 t159 fun t163 =>
                stW Try.prog 3 t163 t162 w fun w =>
                ldN 3 w t11 fun t165 =>
                callW Try.prog (.func (.func 41) #[] #[]) [t165, t33] w fun t167 w =>
                exQ t167 0 fun t168 =>
                exQ t167 1 fun t169 =>
                Drew w fun w =>
                iaS 2 t136 t23 fun t173 =>
                fa1 t173 1 fun t174 =>
                ld1 w t174 fun t175 =>
                iaS 1 t33 t175 fun t176 =>
                ld1 w t176 fun t177 =>
                iaS 2 t136 t23 fun t180 =>
                fa1 t180 0 fun t181 =>
                ld1 w t181 fun t182 =>
                iaS 1 t177 t182 fun t183 =>
                ld1 w t183 fun t184 =>
                binQ Try.prog w .sub 3 true t184 (.int .i64 1) fun t185 =>
                iaS 1 t177 t182 fun t186 =>
                stW Try.prog 3 t186 t185 w fun w =>
                binQ Try.prog w .neq 31 true t169 (.int .i64 0) fun t188 =>
                gd t188 false (fun k => k t46 w) w fun t190 w =>
                gd t188 false (fun k => k t168 w) w fun t191 w =>
                gd t188 false (fun k => callW Try.prog (.func (.func 43) #[] #[]) [t190, t191] w k) w fun t192 w =>
                gd t188 false (fun k => binQ Try.prog w .neq 3 true t192 (.int .i64 3) fun v => k v w) w fun t193 w =>
                pickQ t188 (.bool true) t193 fun t194 =>
                condW t194 (
                  R (.returned (.bool false)) w
                ) (
                  binQ Try.prog w .add 3 true t23 (.int .i64 1) fun t146 =>
                  next_2 t146 w
                )
              ) (
                callW Try.prog (.func (.func 17) #[] #[]) [] w fun t195 w =>
                R (.returned t195) w
              )
          )
        )
      )
  )

def A10 : Ann where
  live := fun
    | 0 => [20]
    | 2 => [23]
    | _ => []
  wr := fun
    | 0 => fun i => Nat.beq i 10 || Nat.beq i 20 || (Nat.ble 69 i && Nat.ble i 113)
    | 2 => fun i => Nat.beq i 10 || (Nat.ble 23 i && Nat.ble i 25) || (Nat.ble 141 i && Nat.ble i 194)
    | _ => fun _ => false
  sched := fun
    | 11 => (.take 0 (.take 1 (.take 2 (.take 3 (.take 4 (.take 5 (.take 6 (.take 7 (.take 8 (.take 9 (.take 10 (.take 11 (.take 12 (.take 13 (.take 14 (.take 15 (.take 16 (.take 17 (.take 18 (.take 19 (.take 20 (.take 21 (.take 22 (.take 23 (.take 24 (.take 25 (.take 26 (.take 27 (.take 28 (.take 29 .done))))))))))))))))))))))))))))))
    | 22 => (.take 0 (.take 1 (.take 2 (.take 3 (.take 4 (.take 5 (.take 6 (.take 7 (.take 8 (.take 9 (.take 10 (.take 11 (.take 12 (.take 13 (.take 14 (.take 15 (.take 16 (.bar 17 .done))))))))))))))))))
    | 24 => (.take 0 (.take 1 (.take 2 (.take 3 (.take 4 (.take 5 (.take 6 (.take 7 (.take 8 (.take 9 (.take 10 (.take 11 (.take 12 (.take 13 (.take 14 (.take 15 (.take 16 (.bar 17 .done))))))))))))))))))
    | _ => .done

set_option maxRecDepth 100000 in
theorem ok10 : (codeOk Try.f10.ntmps A10 (Try.f10.body.getD .skip) 0 && Nat.ble 5 Try.f10.ntmps) = true := by kernel_rfl
set_option maxRecDepth 100000 in
theorem lift10 {t0 t1 t2 t3 t4 : Value} {w : World} {R : Ending → World → Prop} (h : S10 t0 t1 t2 t3 t4 w R) : Calls Try.prog 10 #[t0, t1, t2, t3, t4] w R :=
  calls_of_cw (fn := Try.f10) (c := Try.f10.body.getD .skip) A10 mixes Try.func10 (by kernel_rfl) ok10
    ((by kernel_rfl : (S10 t0 t1 t2 t3 t4 w R) = cw Try.prog A10 (Try.f10.body.getD .skip) 0 (bodyQ Try.prog Try.f10 R) (frOf #[t0, t1, t2, t3, t4]) w).mp h)

def S11 (t0 t1 : Value) (w : World) (R : Ending → World → Prop) : Prop :=
  boxW 25 t0 w fun t2 w =>
  callW Try.prog (.func (.func 30) #[] #[]) [t1] w fun t23 w =>
  unQ .not t23 fun t24 =>
  condW t24 (
    callW Try.prog (.func (.func 17) #[] #[]) [] w fun t25 w =>
    R (.returned t25) w
  ) (
    callW Try.prog (.func (.func 22) #[] #[]) [t1] w fun t27 w =>
    ldN 3 w t2 fun t29 =>
    callW Try.prog (.func (.func 36) #[] #[]) [t29, t27] w fun t31 w =>
    exQ t31 0 fun t32 =>
    exQ t31 1 fun t33 =>
    ldN 3 w t2 fun t35 =>
    callW Try.prog (.func (.func 37) #[] #[]) [t35, t27] w fun t37 w =>
    exQ t37 0 fun t38 =>
    exQ t37 1 fun t39 =>
    ldN 3 w t2 fun t41 =>
    callW Try.prog (.func (.func 38) #[] #[]) [t41, t27] w fun t43 w =>
    exQ t43 0 fun t44 =>
    exQ t43 1 fun t45 =>
    ldN 3 w t2 fun t47 =>
    callW Try.prog (.func (.func 14) #[] #[]) [t47, t27] w fun t49 w =>
    exQ t49 0 fun t50 =>
    exQ t49 1 fun t51 =>
    exQ t49 2 fun t52 =>
    ldN 3 w t2 fun t54 =>
    callW Try.prog (.func (.func 41) #[] #[]) [t54, t27] w fun t56 w =>
    exQ t56 0 fun t57 =>
    exQ t56 1 fun t58 =>
    ldN 3 w t2 fun t60 =>
    callW Try.prog (.func (.func 44) #[] #[]) [t60, t1] w fun t62 w =>
    exQ t62 0 fun t63 =>
    exQ t62 1 fun t64 =>
    exQ t62 2 fun t65 =>
    ldN 3 w t2 fun t67 =>
    callW Try.prog (.func (.func 45) #[] #[]) [t67, t1] w fun t69 w =>
    exQ t69 0 fun t70 =>
    exQ t69 1 fun t71 =>
    binQ Try.prog w .neq 31 false t52 t65 fun t74 =>
    gd t74 false (fun k => k t58 w) w fun t76 w =>
    gd t74 false (fun k => k t71 w) w fun t77 w =>
    gd t74 false (fun k => binQ Try.prog w .neq 31 false t76 t77 fun v => k v w) w fun t78 w =>
    pickQ t74 (.bool true) t78 fun t79 =>
    gd t79 false (fun k => k t33 w) w fun t81 w =>
    gd t79 false (fun k => k t65 w) w fun t82 w =>
    gd t79 false (fun k => binQ Try.prog w .neq 31 false t81 t82 fun v => k v w) w fun t83 w =>
    pickQ t79 (.bool true) t83 fun t84 =>
    gd t84 false (fun k => k t39 w) w fun t86 w =>
    gd t84 false (fun k => k t65 w) w fun t87 w =>
    gd t84 false (fun k => binQ Try.prog w .neq 31 false t86 t87 fun v => k v w) w fun t88 w =>
    pickQ t84 (.bool true) t88 fun t89 =>
    gd t89 false (fun k => k t45 w) w fun t91 w =>
    gd t89 false (fun k => k t65 w) w fun t92 w =>
    gd t89 false (fun k => binQ Try.prog w .neq 31 false t91 t92 fun v => k v w) w fun t93 w =>
    pickQ t89 (.bool true) t93 fun t94 =>
    gd t94 false (fun k => k t50 w) w fun t96 w =>
    gd t94 false (fun k => k t63 w) w fun t97 w =>
    gd t94 false (fun k => callW Try.prog (.func (.func 46) #[] #[]) [t96, t97] w k) w fun t98 w =>
    gd t94 false (fun k => unQ .not t98 fun v => k v w) w fun t99 w =>
    pickQ t94 (.bool true) t99 fun t100 =>
    gd t100 false (fun k => k t51 w) w fun t102 w =>
    gd t100 false (fun k => k t64 w) w fun t103 w =>
    gd t100 false (fun k => callW Try.prog (.func (.func 46) #[] #[]) [t102, t103] w k) w fun t104 w =>
    gd t100 false (fun k => unQ .not t104 fun v => k v w) w fun t105 w =>
    pickQ t100 (.bool true) t105 fun t106 =>
    gd t106 false (fun k => k t57 w) w fun t108 w =>
    gd t106 false (fun k => k t70 w) w fun t109 w =>
    gd t106 false (fun k => callW Try.prog (.func (.func 42) #[] #[]) [t108, t109] w k) w fun t110 w =>
    gd t106 false (fun k => unQ .not t110 fun v => k v w) w fun t111 w =>
    pickQ t106 (.bool true) t111 fun t112 =>
    condW t112 (
      R (.returned (.bool false)) w
    ) (
      binQ Try.prog w .neq 31 true t65 (.int .i64 0) fun t114 =>
      condW t114 (
        ln1 t32 fun t116 =>
        ln1 t38 fun t118 =>
        binQ Try.prog w .add 3 false t116 t118 fun t119 =>
        ln1 t44 fun t121 =>
        binQ Try.prog w .add 3 false t119 t121 fun t122 =>
        binQ Try.prog w .eql 3 true t122 (.int .i64 0) fun t123 =>
        gd t123 true (fun k => callW Try.prog (.func (.func 17) #[] #[]) [] w k) w fun t125 w =>
        pickQ t123 t125 (.bool false) fun t126 =>
        R (.returned t126) w
      ) (
        ldN 3 w t2 fun t128 =>
        callW Try.prog (.func (.func 16) #[] #[]) [t128, t1, (.int .i64 1)] w fun t130 w =>
        callW Try.prog (.func (.func 20) #[] #[]) [t32, t130] w fun t131 w =>
        gd t131 true (fun k => k t38 w) w fun t133 w =>
        gd t131 true (fun k => ldN 3 w t2 fun v => k v w) w fun t134 w =>
        gd t131 true (fun k => k t1 w) w fun t135 w =>
        gd t131 true (fun k => callW Try.prog (.func (.func 16) #[] #[]) [t134, t135, (.int .i64 2)] w k) w fun t136 w =>
        gd t131 true (fun k => callW Try.prog (.func (.func 20) #[] #[]) [t133, t136] w k) w fun t137 w =>
        pickQ t131 t137 (.bool false) fun t138 =>
        gd t138 true (fun k => k t44 w) w fun t140 w =>
        gd t138 true (fun k => ldN 3 w t2 fun v => k v w) w fun t141 w =>
        gd t138 true (fun k => k t1 w) w fun t142 w =>
        gd t138 true (fun k => callW Try.prog (.func (.func 16) #[] #[]) [t141, t142, (.int .i64 3)] w k) w fun t143 w =>
        gd t138 true (fun k => callW Try.prog (.func (.func 20) #[] #[]) [t140, t143] w k) w fun t144 w =>
        pickQ t138 t144 (.bool false) fun t145 =>
        gd t145 true (fun k => k t27 w) w fun t147 w =>
        gd t145 true (fun k => k t1 w) w fun t148 w =>
        gd t145 true (fun k => callW Try.prog (.func (.func 20) #[] #[]) [t147, t148] w k) w fun t149 w =>
        pickQ t145 t149 (.bool false) fun t150 =>
        gd t150 true (fun k => callW Try.prog (.func (.func 17) #[] #[]) [] w k) w fun t152 w =>
        pickQ t150 t152 (.bool false) fun t153 =>
        R (.returned t153) w
      )
    )
  )

def A11 : Ann where
  live := fun _ => []
  wr := fun _ _ => false
  sched := fun _ => .done

set_option maxRecDepth 100000 in
theorem ok11 : (codeOk Try.f11.ntmps A11 (Try.f11.body.getD .skip) 0 && Nat.ble 2 Try.f11.ntmps) = true := by kernel_rfl
set_option maxRecDepth 100000 in
theorem lift11 {t0 t1 : Value} {w : World} {R : Ending → World → Prop} (h : S11 t0 t1 w R) : Calls Try.prog 11 #[t0, t1] w R :=
  calls_of_cw (fn := Try.f11) (c := Try.f11.body.getD .skip) A11 mixes Try.func11 (by kernel_rfl) ok11
    ((by kernel_rfl : (S11 t0 t1 w R) = cw Try.prog A11 (Try.f11.body.getD .skip) 0 (bodyQ Try.prog Try.f11 R) (frOf #[t0, t1]) w).mp h)

theorem fok10 : fnOk Try.prog 10 = true := by kernel_rfl
theorem fok11 : fnOk Try.prog 11 = true := by kernel_rfl
end Go.Proofs.Ytaephdjmpmbfpaa

/- Contract: LozengeChanges. -/
namespace Go.Proofs.Ytaephdjmpmbfpaa
open Go.Lf Go.RowKit Go.Hp

theorem corn_cells {A B C : Int} {h : List (List Int)} {w w' : World} {v8 v9 : Value} {err : Int} (r : CornRes A B C h w w' v8 v9 err) :
    err = heapErr A B C h ∧ CellsAt w.heap.size w' v8 (if heapErr A B C h = 0 then addL A.toNat B.toNat C h else []) ∧ CellsAt w.heap.size w' v9 (if heapErr A B C h = 0 then takeL A.toNat B.toNat h else []) := by
  obtain ⟨rfl, r2⟩ := r
  refine ⟨rfl, ?_⟩
  by_cases he : heapErr A B C h = 0
  · rw [if_pos he] at r2 ⊢
    rw [if_pos he]
    exact r2
  · rw [if_neg he] at r2 ⊢
    rw [if_neg he]
    obtain ⟨rfl, rfl⟩ := r2
    exact ⟨CellsAt.nil _ _, CellsAt.nil _ _⟩
theorem floor_loz {A B C : Int} {h : List (List Int)} {w w' : World} {v : Value} {err : Int} (r : FloorRes A B C h w w' v err) :
    err = heapErr A B C h ∧ LozAt w.heap.size w' v (if heapErr A B C h = 0 then lzSort (floorP A.toNat B.toNat C.toNat h) else []) := by
  obtain ⟨rfl, r2⟩ := r
  refine ⟨rfl, ?_⟩
  by_cases he : heapErr A B C h = 0
  · rw [if_pos he] at r2 ⊢
    exact r2
  · rw [if_neg he] at r2 ⊢
    subst r2
    exact LozAt.nil _ _
theorem chg_rows {A B C : Int} {h R : List (List Int)} {w w' : World} {v : Value} {err : Int} (r : ChgRes A B C h R w w' v err) :
    err = heapErr A B C h ∧ (heapErr A B C h = 0 → RdRows w' v R) ∧ (heapErr A B C h ≠ 0 → v = nilS) := by
  obtain ⟨rfl, r2⟩ := r
  refine ⟨rfl, fun he => ?_, fun he => ?_⟩
  · rw [if_pos he] at r2; exact r2.rd
  · rw [if_neg he] at r2; exact r2

theorem corner_small {A B C : Int} {h : List (List Int)} : (if heapErr A B C h = 0 then addL A.toNat B.toNat C h else []).length ≤ 16 ∧ (if heapErr A B C h = 0 then takeL A.toNat B.toNat h else []).length ≤ 16 := by
  by_cases he : heapErr A B C h = 0
  · rw [if_pos he, if_pos he]
    obtain ⟨a, b, c, rfl, rfl, rfl, hA, hB, hC, hh⟩ := isHeap_of he
    have h1 := List.length_filter_le (addB c h) (pl b (a * b))
    have h2 := List.length_filter_le (takeB a b h) (pl b (a * b))
    rw [pl_length] at h1 h2
    have : a * b ≤ 16 := Nat.mul_le_mul hA.2 hB.2
    simp only [Int.toNat_natCast]
    unfold addL takeL
    omega
  · rw [if_neg he, if_neg he]
    exact ⟨by simp, by simp⟩
theorem floor_small {A B C : Int} {h : List (List Int)} : (if heapErr A B C h = 0 then lzSort (floorP A.toNat B.toNat C.toNat h) else []).length ≤ 48 := by
  by_cases he : heapErr A B C h = 0
  · rw [if_pos he]
    obtain ⟨a, b, c, rfl, rfl, rfl, hA, hB, hC, hh⟩ := isHeap_of he
    simp only [Int.toNat_natCast]
    rw [(lzSort_perm _).length_eq, floorP_len]
    exact floor_len48 hA.2 hB.2 hC.2
  · rw [if_neg he]; simp

set_option maxRecDepth 100000 in
set_option maxHeartbeats 1000000 in
theorem changes_calls (A B C : Int) (v : Value) (h : List (List Int)) (w : World) (hr : RdR w v h) :
    Calls Try.prog 11 #[boxV A B C, v] w fun e w' => e = .returned (.bool true) ∧ Kp w w' := by
  refine lift11 ?_
  unfold S11
  refine r_box fun b w1 hbw hsz hb hk => ?_
  refine r_use fok30 (few_calls v h w1 (hr.kp hk)) rfl ?_
  rintro _ _ ⟨fb, rfl, hfew, rfl⟩
  refine ⟨_, rfl, ?_⟩
  cases fb with
  | false =>
    simp (disch := omega) only [r_ln, r_pick, r_pickT, r_pickF, r_condT, r_condF, r_gdTT, r_gdFF, r_gdTF, r_gdFT, r_gqTT, r_gqFF, r_gqTF, r_gqFT, r_not, r_lss, r_leq, r_gtr, r_geq, r_eql, r_neq, r_add, r_sub, r_min2, r_max2, r_min3, r_max3, r_fa, r_iaS, r_iaA, r_ex2a, r_ex2b, r_ex3a, r_ex3b, r_ex3c, r_nc, r_keepE, Nat.zero_add, Nat.add_zero, Nat.mul_one, Int.toNat_natCast, toNat_sub1, toNat_add1, decide_true, decide_false, Bool.not_true, Bool.not_false, if_true, if_false, Bool.false_eq_true, reduceCtorEq]
    refine r_use fok17 (alive_calls w1) rfl ?_
    rintro _ w2 ⟨rfl, k2⟩
    exact ⟨_, rfl, rfl, Kp.trans hk k2⟩
  | true =>
  have hf := hfew rfl
  have hrw := hf.rows (hr.kp hk)
  simp (disch := omega) only [r_ln, r_pick, r_pickT, r_pickF, r_condT, r_condF, r_gdTT, r_gdFF, r_gdTF, r_gdFT, r_gqTT, r_gqFF, r_gqTF, r_gqFT, r_not, r_lss, r_leq, r_gtr, r_geq, r_eql, r_neq, r_add, r_sub, r_min2, r_max2, r_min3, r_max3, r_fa, r_iaS, r_iaA, r_ex2a, r_ex2b, r_ex3a, r_ex3b, r_ex3c, r_nc, r_keepE, Nat.zero_add, Nat.add_zero, Nat.mul_one, Int.toNat_natCast, toNat_sub1, toNat_add1, decide_true, decide_false, Bool.not_true, Bool.not_false, if_true, if_false, Bool.false_eq_true, reduceCtorEq]
  refine r_use fok22 (copy_calls v h w1 hrw (by have := hf.1; omega) fun i hi => by have := hf.2 i hi; omega) rfl ?_
  rintro _ w2 ⟨vo, rfl, k2, hown⟩
  refine ⟨_, rfl, ?_⟩
  have h2 := block_below hb k2
  have hv2 := hrw.below k2
  rw [r_ldRow (n := 3) h2 rfl]
  refine r_use fok36 (complement_calls A B C vo h w2 hown) rfl ?_
  rintro _ w3 ⟨vx, ex, rfl, k3, rx⟩
  refine ⟨_, rfl, ?_⟩
  obtain ⟨rfl, rx0, rx1⟩ := chg_rows rx
  have h3 := block_below h2 k3
  simp only [r_ex2a, r_ex2b]
  rw [r_ldRow (n := 3) h3 rfl]
  have hown3 := hown.below k3
  refine r_use fok37 (transpose_calls A B C vo h w3 hown3) rfl ?_
  rintro _ w4 ⟨vy, ey, rfl, k4, ry⟩
  refine ⟨_, rfl, ?_⟩
  obtain ⟨rfl, ry0, ry1⟩ := chg_rows ry
  have h4 := block_below h3 k4
  simp only [r_ex2a, r_ex2b]
  rw [r_ldRow (n := 3) h4 rfl]
  have hown4 := hown3.below k4
  refine r_use fok38 (turnf_calls A B C vo h w4 hown4) rfl ?_
  rintro _ w5 ⟨vz, ez, rfl, k5, rz⟩
  refine ⟨_, rfl, ?_⟩
  obtain ⟨rfl, rz0, rz1⟩ := chg_rows rz
  have h5 := block_below h4 k5
  simp only [r_ex2a, r_ex2b]
  rw [r_ldRow (n := 3) h5 rfl]
  have hown5 := hown4.below k5
  refine r_use fok14 (corners_calls A B C vo h w5 hown5) rfl ?_
  rintro _ w6 ⟨v8, v9, ec, rfl, k6, rc⟩
  refine ⟨_, rfl, ?_⟩
  obtain ⟨rfl, rc1, rc2⟩ := corn_cells rc
  have h6 := block_below h5 k6
  simp only [r_ex3a, r_ex3b, r_ex3c]
  rw [r_ldRow (n := 3) h6 rfl]
  have hown6 := hown5.below k6
  refine r_use fok41 (floor_calls A B C vo h w6 hown6) rfl ?_
  rintro _ w7 ⟨vl, el, rfl, k7, rl⟩
  refine ⟨_, rfl, ?_⟩
  obtain ⟨rfl, rl1⟩ := floor_loz rl
  have h7 := block_below h6 k7
  simp only [r_ex2a, r_ex2b]
  rw [r_ldRow (n := 3) h7 rfl]
  have k27 := Kp.trans (Kp.trans k3 k4) (Kp.trans k5 (Kp.trans k6 k7))
  have hv7 := hv2.below k27
  refine r_use fok44 (refcorners_calls A B C v h w7 hv7) rfl ?_
  rintro _ w8 ⟨u8, u9, ec, rfl, k8, rd⟩
  refine ⟨_, rfl, ?_⟩
  obtain ⟨rfl, rd1, rd2⟩ := corn_cells rd
  have h8 := block_below h7 k8
  simp only [r_ex3a, r_ex3b, r_ex3c]
  rw [r_ldRow (n := 3) h8 rfl]
  have hv8 := hv7.below k8
  refine r_use fok45 (reffloor_calls A B C v h w8 hv8) rfl ?_
  rintro _ w9 ⟨vm, em, rfl, k9, rm⟩
  refine ⟨_, rfl, ?_⟩
  obtain ⟨rfl, rm1⟩ := floor_loz rm
  have h9 := block_below h8 k9
  have ee : decide (heapErr A B C h = heapErr A B C h) = true := by simp
  have hcs := corner_small (A := A) (B := B) (C := C) (h := h)
  have hfs := floor_small (A := A) (B := B) (C := C) (h := h)
  simp (disch := omega) only [r_ln, r_pick, r_pickT, r_pickF, r_condT, r_condF, r_gdTT, r_gdFF, r_gdTF, r_gdFT, r_gqTT, r_gqFF, r_gqTF, r_gqFT, r_not, r_lss, r_leq, r_gtr, r_geq, r_eql, r_neq, r_add, r_sub, r_min2, r_max2, r_min3, r_max3, r_fa, r_iaS, r_iaA, r_ex2a, r_ex2b, r_ex3a, r_ex3b, r_ex3c, r_nc, r_keepE, Nat.zero_add, Nat.add_zero, Nat.mul_one, Int.toNat_natCast, toNat_sub1, toNat_add1, decide_true, decide_false, Bool.not_true, Bool.not_false, if_true, if_false, Bool.false_eq_true, reduceCtorEq, ee]
  have k69 := Kp.trans k7 (Kp.trans k8 k9)
  refine r_use fok46 (cells_calls (rc1.kp k69) (rd1.kp k9) (by omega) (by omega)) rfl ?_
  rintro _ w10 ⟨rfl, k10⟩
  refine ⟨_, rfl, ?_⟩
  simp (disch := omega) only [r_ln, r_pick, r_pickT, r_pickF, r_condT, r_condF, r_gdTT, r_gdFF, r_gdTF, r_gdFT, r_gqTT, r_gqFF, r_gqTF, r_gqFT, r_not, r_lss, r_leq, r_gtr, r_geq, r_eql, r_neq, r_add, r_sub, r_min2, r_max2, r_min3, r_max3, r_fa, r_iaS, r_iaA, r_ex2a, r_ex2b, r_ex3a, r_ex3b, r_ex3c, r_nc, r_keepE, Nat.zero_add, Nat.add_zero, Nat.mul_one, Int.toNat_natCast, toNat_sub1, toNat_add1, decide_true, decide_false, Bool.not_true, Bool.not_false, if_true, if_false, Bool.false_eq_true, reduceCtorEq, decide_eq_true (rfl : (if heapErr A B C h = 0 then addL A.toNat B.toNat C h else []) = _)]
  refine r_use fok46 (cells_calls (rc2.kp (Kp.trans k69 k10)) (rd2.kp (Kp.trans k9 k10)) (by omega) (by omega)) rfl ?_
  rintro _ w11 ⟨rfl, k11⟩
  refine ⟨_, rfl, ?_⟩
  simp (disch := omega) only [r_ln, r_pick, r_pickT, r_pickF, r_condT, r_condF, r_gdTT, r_gdFF, r_gdTF, r_gdFT, r_gqTT, r_gqFF, r_gqTF, r_gqFT, r_not, r_lss, r_leq, r_gtr, r_geq, r_eql, r_neq, r_add, r_sub, r_min2, r_max2, r_min3, r_max3, r_fa, r_iaS, r_iaA, r_ex2a, r_ex2b, r_ex3a, r_ex3b, r_ex3c, r_nc, r_keepE, Nat.zero_add, Nat.add_zero, Nat.mul_one, Int.toNat_natCast, toNat_sub1, toNat_add1, decide_true, decide_false, Bool.not_true, Bool.not_false, if_true, if_false, Bool.false_eq_true, reduceCtorEq, decide_eq_true (rfl : (if heapErr A B C h = 0 then takeL A.toNat B.toNat h else []) = _)]
  have k911 := Kp.trans k10 k11
  refine r_use fok42 (floors_calls (rl1.kp (Kp.trans (Kp.trans k8 k9) k911)) (rm1.kp k911) (by omega) (by omega)) rfl ?_
  rintro _ w12 ⟨rfl, k12⟩
  refine ⟨_, rfl, ?_⟩
  simp (disch := omega) only [r_ln, r_pick, r_pickT, r_pickF, r_condT, r_condF, r_gdTT, r_gdFF, r_gdTF, r_gdFT, r_gqTT, r_gqFF, r_gqTF, r_gqFT, r_not, r_lss, r_leq, r_gtr, r_geq, r_eql, r_neq, r_add, r_sub, r_min2, r_max2, r_min3, r_max3, r_fa, r_iaS, r_iaA, r_ex2a, r_ex2b, r_ex3a, r_ex3b, r_ex3c, r_nc, r_keepE, Nat.zero_add, Nat.add_zero, Nat.mul_one, Int.toNat_natCast, toNat_sub1, toNat_add1, decide_true, decide_false, Bool.not_true, Bool.not_false, if_true, if_false, Bool.false_eq_true, reduceCtorEq, decide_eq_true (rfl : (if heapErr A B C h = 0 then lzSort (floorP A.toNat B.toNat C.toNat h) else []) = _)]
  have k912 := Kp.trans k911 k12
  have k02 := Kp.trans hk k2
  have k012 := Kp.trans k02 (Kp.trans k27 (Kp.trans (Kp.trans k8 k9) k912))
  rcases heapErr_cases A B C h with he | he
  rotate_left
  · have hne : heapErr A B C h ≠ 0 := by rw [he]; decide
    have h20 : ¬ ((2 : Int) = 0) := by decide
    rw [rx1 hne, ry1 hne, rz1 hne]
    simp (disch := omega) only [r_ln, r_pick, r_pickT, r_pickF, r_condT, r_condF, r_gdTT, r_gdFF, r_gdTF, r_gdFT, r_gqTT, r_gqFF, r_gqTF, r_gqFT, r_not, r_lss, r_leq, r_gtr, r_geq, r_eql, r_neq, r_add, r_sub, r_min2, r_max2, r_min3, r_max3, r_fa, r_iaS, r_iaA, r_ex2a, r_ex2b, r_ex3a, r_ex3b, r_ex3c, r_nc, r_keepE, Nat.zero_add, Nat.add_zero, Nat.mul_one, Int.toNat_natCast, toNat_sub1, toNat_add1, decide_true, decide_false, Bool.not_true, Bool.not_false, if_true, if_false, Bool.false_eq_true, reduceCtorEq, he, h20]
    simp (disch := omega) only [r_ln, r_pick, r_pickT, r_pickF, r_condT, r_condF, r_gdTT, r_gdFF, r_gdTF, r_gdFT, r_gqTT, r_gqFF, r_gqTF, r_gqFT, r_not, r_lss, r_leq, r_gtr, r_geq, r_eql, r_neq, r_add, r_sub, r_min2, r_max2, r_min3, r_max3, r_fa, r_iaS, r_iaA, r_ex2a, r_ex2b, r_ex3a, r_ex3b, r_ex3c, r_nc, r_keepE, Nat.zero_add, Nat.add_zero, Nat.mul_one, Int.toNat_natCast, toNat_sub1, toNat_add1, decide_true, decide_false, Bool.not_true, Bool.not_false, if_true, if_false, Bool.false_eq_true, reduceCtorEq, show ((0 : Nat) : Int) = 0 from rfl, Int.add_zero, decide_eq_true (rfl : (0 : Int) = 0)]
    refine r_use fok17 (alive_calls w12) rfl ?_
    rintro _ w13 ⟨rfl, k13⟩
    refine ⟨_, rfl, ?_⟩
    simp (disch := omega) only [r_ln, r_pick, r_pickT, r_pickF, r_condT, r_condF, r_gdTT, r_gdFF, r_gdTF, r_gdFT, r_gqTT, r_gqFF, r_gqTF, r_gqFT, r_not, r_lss, r_leq, r_gtr, r_geq, r_eql, r_neq, r_add, r_sub, r_min2, r_max2, r_min3, r_max3, r_fa, r_iaS, r_iaA, r_ex2a, r_ex2b, r_ex3a, r_ex3b, r_ex3c, r_nc, r_keepE, Nat.zero_add, Nat.add_zero, Nat.mul_one, Int.toNat_natCast, toNat_sub1, toNat_add1, decide_true, decide_false, Bool.not_true, Bool.not_false, if_true, if_false, Bool.false_eq_true, reduceCtorEq]
    exact ⟨trivial, Kp.trans k012 k13⟩
  have hx := rx0 he
  have hy := ry0 he
  have hz := rz0 he
  obtain ⟨a, b', c, rfl, rfl, rfl, hA, hB, hC, hh⟩ := isHeap_of he
  simp only [Int.toNat_natCast] at hx hy hz
  have h12 := block_below h9 k912
  have hv12 := (hv8.below k9).below k912
  have hx12 := hx.below (Kp.trans (Kp.trans k4 (Kp.trans k5 (Kp.trans k6 k7))) (Kp.trans (Kp.trans k8 k9) k912))
  have hy12 := hy.below (Kp.trans (Kp.trans k5 (Kp.trans k6 k7)) (Kp.trans (Kp.trans k8 k9) k912))
  have hz12 := hz.below (Kp.trans (Kp.trans k6 k7) (Kp.trans (Kp.trans k8 k9) k912))
  have hown12 := hown6.below (Kp.trans k7 (Kp.trans (Kp.trans k8 k9) k912))
  simp (disch := omega) only [r_ln, r_pick, r_pickT, r_pickF, r_condT, r_condF, r_gdTT, r_gdFF, r_gdTF, r_gdFT, r_gqTT, r_gqFF, r_gqTF, r_gqFT, r_not, r_lss, r_leq, r_gtr, r_geq, r_eql, r_neq, r_add, r_sub, r_min2, r_max2, r_min3, r_max3, r_fa, r_iaS, r_iaA, r_ex2a, r_ex2b, r_ex3a, r_ex3b, r_ex3c, r_nc, r_keepE, Nat.zero_add, Nat.add_zero, Nat.mul_one, Int.toNat_natCast, toNat_sub1, toNat_add1, decide_true, decide_false, Bool.not_true, Bool.not_false, if_true, if_false, Bool.false_eq_true, reduceCtorEq, he, decide_eq_true (rfl : (0 : Int) = 0), r_ldRow (n := 3) h12 rfl]
  refine r_use fok16 (changedR_calls hh hA hB hC v 1 w12 hv12) rfl ?_
  rintro _ x1 ⟨q1, rfl, y1, hq1⟩
  refine ⟨_, rfl, ?_⟩
  refine r_use fok20 (same_calls vx q1 _ _ x1 (hx12.below y1) hq1) rfl ?_
  rintro _ x2 ⟨rfl, y2⟩
  refine ⟨_, rfl, ?_⟩
  have e1 : compM a b' c h = chM a b' c h 1 := rfl
  have y02 := Kp.trans y1 y2
  simp (disch := omega) only [r_ln, r_pick, r_pickT, r_pickF, r_condT, r_condF, r_gdTT, r_gdFF, r_gdTF, r_gdFT, r_gqTT, r_gqFF, r_gqTF, r_gqFT, r_not, r_lss, r_leq, r_gtr, r_geq, r_eql, r_neq, r_add, r_sub, r_min2, r_max2, r_min3, r_max3, r_fa, r_iaS, r_iaA, r_ex2a, r_ex2b, r_ex3a, r_ex3b, r_ex3c, r_nc, r_keepE, Nat.zero_add, Nat.add_zero, Nat.mul_one, Int.toNat_natCast, toNat_sub1, toNat_add1, decide_true, decide_false, Bool.not_true, Bool.not_false, if_true, if_false, Bool.false_eq_true, reduceCtorEq, decide_eq_true e1, r_ldRow (n := 3) (block_below h12 y02) rfl]
  refine r_use fok16 (changedR_calls hh hA hB hC v 2 x2 (hv12.below y02)) rfl ?_
  rintro _ x3 ⟨q2, rfl, y3, hq2⟩
  refine ⟨_, rfl, ?_⟩
  have y03 := Kp.trans y02 y3
  refine r_use fok20 (same_calls vy q2 _ _ x3 (hy12.below y03) hq2) rfl ?_
  rintro _ x4 ⟨rfl, y4⟩
  refine ⟨_, rfl, ?_⟩
  have e2 : transM a b' h = chM a b' c h 2 := rfl
  have y04 := Kp.trans y03 y4
  simp (disch := omega) only [r_ln, r_pick, r_pickT, r_pickF, r_condT, r_condF, r_gdTT, r_gdFF, r_gdTF, r_gdFT, r_gqTT, r_gqFF, r_gqTF, r_gqFT, r_not, r_lss, r_leq, r_gtr, r_geq, r_eql, r_neq, r_add, r_sub, r_min2, r_max2, r_min3, r_max3, r_fa, r_iaS, r_iaA, r_ex2a, r_ex2b, r_ex3a, r_ex3b, r_ex3c, r_nc, r_keepE, Nat.zero_add, Nat.add_zero, Nat.mul_one, Int.toNat_natCast, toNat_sub1, toNat_add1, decide_true, decide_false, Bool.not_true, Bool.not_false, if_true, if_false, Bool.false_eq_true, reduceCtorEq, decide_eq_true e2, r_ldRow (n := 3) (block_below h12 y04) rfl]
  refine r_use fok16 (changedR_calls hh hA hB hC v 3 x4 (hv12.below y04)) rfl ?_
  rintro _ x5 ⟨q3, rfl, y5, hq3⟩
  refine ⟨_, rfl, ?_⟩
  have y05 := Kp.trans y04 y5
  refine r_use fok20 (same_calls vz q3 _ _ x5 (hz12.below y05) hq3) rfl ?_
  rintro _ x6 ⟨rfl, y6⟩
  refine ⟨_, rfl, ?_⟩
  have e3 : turnM a c h = chM a b' c h 3 := rfl
  have y06 := Kp.trans y05 y6
  simp (disch := omega) only [r_ln, r_pick, r_pickT, r_pickF, r_condT, r_condF, r_gdTT, r_gdFF, r_gdTF, r_gdFT, r_gqTT, r_gqFF, r_gqTF, r_gqFT, r_not, r_lss, r_leq, r_gtr, r_geq, r_eql, r_neq, r_add, r_sub, r_min2, r_max2, r_min3, r_max3, r_fa, r_iaS, r_iaA, r_ex2a, r_ex2b, r_ex3a, r_ex3b, r_ex3c, r_nc, r_keepE, Nat.zero_add, Nat.add_zero, Nat.mul_one, Int.toNat_natCast, toNat_sub1, toNat_add1, decide_true, decide_false, Bool.not_true, Bool.not_false, if_true, if_false, Bool.false_eq_true, reduceCtorEq, decide_eq_true e3]
  refine r_use fok20 (same_calls vo v _ _ x6 (hown12.below y06) (hv12.below y06)) rfl ?_
  rintro _ x7 ⟨rfl, y7⟩
  refine ⟨_, rfl, ?_⟩
  simp (disch := omega) only [r_ln, r_pick, r_pickT, r_pickF, r_condT, r_condF, r_gdTT, r_gdFF, r_gdTF, r_gdFT, r_gqTT, r_gqFF, r_gqTF, r_gqFT, r_not, r_lss, r_leq, r_gtr, r_geq, r_eql, r_neq, r_add, r_sub, r_min2, r_max2, r_min3, r_max3, r_fa, r_iaS, r_iaA, r_ex2a, r_ex2b, r_ex3a, r_ex3b, r_ex3c, r_nc, r_keepE, Nat.zero_add, Nat.add_zero, Nat.mul_one, Int.toNat_natCast, toNat_sub1, toNat_add1, decide_true, decide_false, Bool.not_true, Bool.not_false, if_true, if_false, Bool.false_eq_true, reduceCtorEq]
  refine r_use fok17 (alive_calls x7) rfl ?_
  rintro _ x8 ⟨rfl, y8⟩
  refine ⟨_, rfl, ?_⟩
  simp (disch := omega) only [r_ln, r_pick, r_pickT, r_pickF, r_condT, r_condF, r_gdTT, r_gdFF, r_gdTF, r_gdFT, r_gqTT, r_gqFF, r_gqTF, r_gqFT, r_not, r_lss, r_leq, r_gtr, r_geq, r_eql, r_neq, r_add, r_sub, r_min2, r_max2, r_min3, r_max3, r_fa, r_iaS, r_iaA, r_ex2a, r_ex2b, r_ex3a, r_ex3b, r_ex3c, r_nc, r_keepE, Nat.zero_add, Nat.add_zero, Nat.mul_one, Int.toNat_natCast, toNat_sub1, toNat_add1, decide_true, decide_false, Bool.not_true, Bool.not_false, if_true, if_false, Bool.false_eq_true, reduceCtorEq]
  exact ⟨trivial, Kp.trans k012 (Kp.trans y06 (Kp.trans y7 y8))⟩

end Go.Proofs.Ytaephdjmpmbfpaa

/- Plain laws of floors: equal floors come of equal heaps; all lozenges differ; their numbers; what one cube more changes. -/
namespace Go.Proofs.Ytaephdjmpmbfpaa
open Go.Lf Go.RowKit Go.Hp

/-- What the rows' counts say of a heap. -/
structure Hts (A B : Nat) (f : Nat → Nat → Int) (c1 c2 : Nat → Nat → Nat) : Prop where
  mono : ∀ i j i' j', i ≤ i' → j ≤ j' → i' < A → j' < B → f i' j' ≤ f i j
  le1 : ∀ k i, i < A → c1 k i ≤ B
  le2 : ∀ k j, j < B → c2 k j ≤ A
  lt1 : ∀ k i j, i < A → j < B → (j < c1 k i ↔ (k : Int) < f i j)
  lt2 : ∀ k i j, i < A → j < B → (i < c2 k j ↔ (k : Int) < f i j)

theorem hat_mono {A B C : Nat} {h : List (List Int)} (hh : IsHeap A B C h) : ∀ i j i' j', i ≤ i' → j ≤ j' → i' < A → j' < B → hat h i' j' ≤ hat h i j := by
  have hl := (sized_of hh).1
  have up : ∀ d i j, i + d < A → j < B → hat h (i + d) j ≤ hat h i j := by
    intro d
    induction d with
    | zero => intro i j _ _; exact Int.le_refl _
    | succ d ih =>
      intro i j h1 h2
      have := hh.up (i + d) j (by omega) (by omega)
      have := ih i j (by omega) h2
      rw [show i + (d + 1) = i + d + 1 by omega]
      omega
  have left : ∀ d i j, i < A → j + d < B → hat h i (j + d) ≤ hat h i j := by
    intro d
    induction d with
    | zero => intro i j _ _; exact Int.le_refl _
    | succ d ih =>
      intro i j h1 h2
      have := hh.left i (j + d) (by omega) (by omega)
      have := ih i j h1 (by omega)
      rw [show j + (d + 1) = j + d + 1 by omega]
      omega
  intro i j i' j' h1 h2 h3 h4
  obtain ⟨d, rfl⟩ := Nat.le.dest h1
  obtain ⟨e, rfl⟩ := Nat.le.dest h2
  have := up d i (j + e) h3 h4
  have := left e i j (by omega) h4
  omega

def c1 (h : List (List Int)) (k i : Nat) : Nat := cnt (h.getD i []) k
def c2 (A B : Nat) (h : List (List Int)) (k j : Nat) : Nat := cnt ((transM A B h).getD j []) k

theorem hts {A B C : Nat} {h : List (List Int)} (hh : IsHeap A B C h) : Hts A B (hat h) (c1 h) (c2 A B h) := by
  have hs := sized_of hh
  have ht := trans_heap hh
  have hts := sized_of ht
  have key : ∀ {A B C : Nat} {h : List (List Int)}, IsHeap A B C h → ∀ k i j, i < A → j < B → (j < cnt (h.getD i []) k ↔ (k : Int) < hat h i j) := fun {A B C h} hh k i j hi hj => by
    have hs := sized_of hh
    have := cnt_lt (h.getD i []) (row_falls hh hi) k j
    rw [this, hs.2 i hi]
    exact ⟨fun q => q.2, fun q => ⟨hj, q⟩⟩
  refine ⟨hat_mono hh, fun k i hi => ?_, fun k j hj => ?_, fun k i j hi hj => key hh k i j hi hj, fun k i j hi hj => ?_⟩
  · have := cnt_le (h.getD i []) k
    rw [hs.2 i hi] at this
    exact this
  · have := cnt_le ((transM A B h).getD j []) k
    rw [hts.2 j hj] at this
    exact this
  · have := key ht k j i hj hi
    unfold c2
    rw [this]
    unfold transM
    rw [tabM_hat hj hi]

section
variable {A B : Nat} {f f' : Nat → Nat → Int} {d1 d2 e1 e2 : Nat → Nat → Nat}

theorem Hts.mono1 (H : Hts A B f d1 d2) {k i k' i' : Nat} (hi : i ≤ i') (hk : k ≤ k') (h : i' < A) : d1 k' i' ≤ d1 k i := by
  refine Nat.le_of_not_lt fun hlt => ?_
  have hb := H.le1 k' i' h
  have h1 := (H.lt1 k' i' (d1 k i) h (by omega)).1 hlt
  have h2 := H.mono i (d1 k i) i' (d1 k i) hi (Nat.le_refl _) h (by omega)
  have h3 := (H.lt1 k i (d1 k i) (by omega) (by omega)).2 (by omega)
  omega
theorem Hts.mono2 (H : Hts A B f d1 d2) {k j k' j' : Nat} (hj : j ≤ j') (hk : k ≤ k') (h : j' < B) : d2 k' j' ≤ d2 k j := by
  refine Nat.le_of_not_lt fun hlt => ?_
  have hb := H.le2 k' j' h
  have h1 := (H.lt2 k' (d2 k j) j' (by omega) h).1 hlt
  have h2 := H.mono (d2 k j) j (d2 k j) j' (Nat.le_refl _) hj (by omega) h
  have h3 := (H.lt2 k (d2 k j) j (by omega) (by omega)).2 (by omega)
  omega

theorem Hts.inj0 (H : Hts A B f d1 d2) {i j i' j' : Nat} (hi : i < A) (hj : j < B) (hi' : i' < A) (hj' : j' < B) (q1 : (j : Int) - i = j' - i') (q2 : f i j - i = f i' j' - i') : i = i' ∧ j = j' := by
  rcases Nat.lt_trichotomy i i' with h | h | h
  · have := H.mono i j i' j' (by omega) (by omega) hi' hj'
    omega
  · omega
  · have := H.mono i' j' i j (by omega) (by omega) hi hj
    omega
theorem Hts.inj1 (H : Hts A B f d1 d2) {k i k' i' : Nat} (hi : i < A) (hi' : i' < A) (q1 : (d1 k i : Int) - i = d1 k' i' - i') (q2 : (k : Int) - i = k' - i') : k = k' ∧ i = i' := by
  rcases Nat.lt_trichotomy i i' with h | h | h
  · have := H.mono1 (k := k) (k' := k') (Nat.le_of_lt h) (by omega) hi'
    omega
  · omega
  · have := H.mono1 (k := k') (k' := k) (Nat.le_of_lt h) (by omega) hi
    omega
theorem Hts.inj2 (H : Hts A B f d1 d2) {k j k' j' : Nat} (hj : j < B) (hj' : j' < B) (q1 : (j : Int) - d2 k j = j' - d2 k' j') (q2 : (k : Int) - d2 k j = k' - d2 k' j') : k = k' ∧ j = j' := by
  rcases Nat.lt_trichotomy j j' with h | h | h
  · have := H.mono2 (k := k) (k' := k') (Nat.le_of_lt h) (by omega) hj'
    omega
  · subst h; omega
  · have := H.mono2 (k := k') (k' := k) (Nat.le_of_lt h) (by omega) hj
    omega

/-- One cube more: the counts differ at its height, by one row and one column. -/
theorem Hts.more1 (H : Hts A B f d1 d2) (H' : Hts A B f' e1 e2) {i j n : Nat} (hi : i < A) (hj : j < B) (hn : f i j = n) (hf : ∀ a b, a < A → b < B → f' a b = if a = i ∧ b = j then (n : Int) + 1 else f a b) {k a : Nat} (ha : a < A) :
    (d1 k a = e1 k a ↔ ¬ (k = n ∧ a = i)) := by
  constructor
  · rintro he ⟨rfl, rfl⟩
    have h1 := H.lt1 k a j ha hj
    have h2 := H'.lt1 k a j ha hj
    rw [hf a j ha hj, if_pos ⟨rfl, rfl⟩, ← he] at h2
    rw [hn] at h1
    omega
  · intro hne
    have hd := H.le1 k a ha
    have he := H'.le1 k a ha
    have key : ∀ b, b < B → (b < d1 k a ↔ b < e1 k a) := fun b hb => by
      rw [H.lt1 k a b ha hb, H'.lt1 k a b ha hb, hf a b ha hb]
      split
      · rename_i e
        obtain ⟨rfl, rfl⟩ := e
        rw [hn]
        omega
      · exact Iff.rfl
    rcases Nat.lt_trichotomy (d1 k a) (e1 k a) with h | h | h
    · have := key (d1 k a) (by omega); omega
    · exact h
    · have := key (e1 k a) (by omega); omega
theorem Hts.more2 (H : Hts A B f d1 d2) (H' : Hts A B f' e1 e2) {i j n : Nat} (hi : i < A) (hj : j < B) (hn : f i j = n) (hf : ∀ a b, a < A → b < B → f' a b = if a = i ∧ b = j then (n : Int) + 1 else f a b) {k b : Nat} (hb : b < B) :
    (d2 k b = e2 k b ↔ ¬ (k = n ∧ b = j)) := by
  constructor
  · rintro he ⟨rfl, rfl⟩
    have h1 := H.lt2 k i b hi hb
    have h2 := H'.lt2 k i b hi hb
    rw [hf i b hi hb, if_pos ⟨rfl, rfl⟩, ← he] at h2
    rw [hn] at h1
    omega
  · intro hne
    have hd := H.le2 k b hb
    have he := H'.le2 k b hb
    have key : ∀ a, a < A → (a < d2 k b ↔ a < e2 k b) := fun a ha => by
      rw [H.lt2 k a b ha hb, H'.lt2 k a b ha hb, hf a b ha hb]
      split
      · rename_i e
        obtain ⟨rfl, rfl⟩ := e
        rw [hn]
        omega
      · exact Iff.rfl
    rcases Nat.lt_trichotomy (d2 k b) (e2 k b) with h | h | h
    · have := key (d2 k b) (by omega); omega
    · exact h
    · have := key (e2 k b) (by omega); omega
end

/-! ### the list -/

theorem pl_nodup {B n : Nat} : (pl B n).Nodup := by
  unfold pl List.Nodup
  rw [List.pairwise_map]
  refine List.nodup_range.imp fun {a b} hab e => hab ?_
  have e1 : a / B = b / B := congrArg Prod.fst e
  have e2 : a % B = b % B := congrArg Prod.snd e
  rw [← Nat.div_add_mod a B, ← Nat.div_add_mod b B, e1, e2]

theorem pl_row {B A : Nat} : ∀ j, j ≤ B → pl B (A * B + j) = pl B (A * B) ++ (List.range j).map fun l => (A, l)
  | 0, _ => by simp
  | j + 1, hj => by
    rw [show A * B + (j + 1) = A * B + j + 1 by omega, pl_succ (by omega), pl_row j (by omega), List.range_succ, List.map_append, List.append_assoc]
    rfl

theorem fl_pl {α : Type} (F : Nat → Nat → α) (B : Nat) : ∀ A, ((List.range A).flatMap fun i => (List.range B).map (F i)) = (pl B (A * B)).map fun p => F p.1 p.2
  | 0 => by simp [pl]
  | A + 1 => by
    rw [fl_succ, fl_pl F B A, show (A + 1) * B = A * B + B by rw [Nat.add_mul, Nat.one_mul], pl_row B (Nat.le_refl _), List.map_append, List.map_map]
    rfl

def F0 (A B : Nat) (h : List (List Int)) : List Loz := (pl B (A * B)).map fun p => z0 h p.1 p.2
def F1 (A C : Nat) (h : List (List Int)) : List Loz := (pl A (C * A)).map fun p => z1 h p.1 p.2
def F2 (A B C : Nat) (h : List (List Int)) : List Loz := (pl B (C * B)).map fun p => z2 A B h p.1 p.2

theorem floorP_perm (A B C : Nat) (h : List (List Int)) : (floorP A B C h).Perm (F0 A B h ++ (F1 A C h ++ F2 A B C h)) := by
  unfold floorP F0 F1 F2
  rw [← fl_pl, ← fl_pl, ← fl_pl]
  exact List.Perm.append_left _ (flatMap_two (fun k => (List.range A).map (z1 h k)) (fun k => (List.range B).map (z2 A B h k)) (List.range C))

theorem mem_F0 {A B : Nat} {h : List (List Int)} {x : Loz} : x ∈ F0 A B h ↔ ∃ i j, i < A ∧ j < B ∧ x = z0 h i j := by
  unfold F0
  rw [List.mem_map]
  constructor
  · rintro ⟨⟨i, j⟩, hm, rfl⟩
    exact ⟨i, j, (mem_pl.1 hm).1, (mem_pl.1 hm).2, rfl⟩
  · rintro ⟨i, j, hi, hj, rfl⟩
    exact ⟨(i, j), mem_pl.2 ⟨hi, hj⟩, rfl⟩
theorem mem_F1 {A C : Nat} {h : List (List Int)} {x : Loz} : x ∈ F1 A C h ↔ ∃ k i, k < C ∧ i < A ∧ x = z1 h k i := by
  unfold F1
  rw [List.mem_map]
  constructor
  · rintro ⟨⟨i, j⟩, hm, rfl⟩
    exact ⟨i, j, (mem_pl.1 hm).1, (mem_pl.1 hm).2, rfl⟩
  · rintro ⟨i, j, hi, hj, rfl⟩
    exact ⟨(i, j), mem_pl.2 ⟨hi, hj⟩, rfl⟩
theorem mem_F2 {A B C : Nat} {h : List (List Int)} {x : Loz} : x ∈ F2 A B C h ↔ ∃ k j, k < C ∧ j < B ∧ x = z2 A B h k j := by
  unfold F2
  rw [List.mem_map]
  constructor
  · rintro ⟨⟨i, j⟩, hm, rfl⟩
    exact ⟨i, j, (mem_pl.1 hm).1, (mem_pl.1 hm).2, rfl⟩
  · rintro ⟨i, j, hi, hj, rfl⟩
    exact ⟨(i, j), mem_pl.2 ⟨hi, hj⟩, rfl⟩

theorem z_inj {a b c a' b' c' : Int} (e : ((a, b, c) : Loz) = (a', b', c')) : a = a' ∧ b = b' ∧ c = c' := by
  injection e with e1 e2
  injection e2 with e2 e3
  exact ⟨e1, e2, e3⟩

theorem map_nodup {α β : Type} {f : α → β} {L : List α} (hn : L.Nodup) (hf : ∀ x ∈ L, ∀ y ∈ L, f x = f y → x = y) : (L.map f).Nodup := by
  unfold List.Nodup
  rw [List.pairwise_map]
  exact List.Pairwise.imp_of_mem (fun {a b} ha hb hab e => hab (hf a ha b hb e)) hn

section
variable {A B C : Nat} {h : List (List Int)} (hh : IsHeap A B C h)
include hh

theorem z0_inj {p q : Nat × Nat} (hp : p.1 < A ∧ p.2 < B) (hq : q.1 < A ∧ q.2 < B) (e : z0 h p.1 p.2 = z0 h q.1 q.2) : p = q := by
  obtain ⟨_, e1, e2⟩ := z_inj e
  obtain ⟨r1, r2⟩ := (hts hh).inj0 hp.1 hp.2 hq.1 hq.2 e1 e2
  exact Prod.ext r1 r2
theorem z1_inj {p q : Nat × Nat} (hp : p.2 < A) (hq : q.2 < A) (e : z1 h p.1 p.2 = z1 h q.1 q.2) : p = q := by
  obtain ⟨_, e1, e2⟩ := z_inj e
  obtain ⟨r1, r2⟩ := (hts hh).inj1 hp hq e1 e2
  exact Prod.ext r1 r2
theorem z2_inj {p q : Nat × Nat} (hp : p.2 < B) (hq : q.2 < B) (e : z2 A B h p.1 p.2 = z2 A B h q.1 q.2) : p = q := by
  obtain ⟨_, e1, e2⟩ := z_inj e
  obtain ⟨r1, r2⟩ := (hts hh).inj2 hp hq e1 e2
  exact Prod.ext r1 r2

theorem floor_nodup : (lzSort (floorP A B C h)).Nodup := by
  rw [((lzSort_perm _).trans (floorP_perm A B C h)).nodup_iff]
  rw [List.nodup_append]
  refine ⟨map_nodup pl_nodup fun p hp q hq e => z0_inj hh (mem_pl.1 hp) (mem_pl.1 hq) e, ?_, fun a ha b hb => ?_⟩
  · rw [List.nodup_append]
    refine ⟨map_nodup pl_nodup fun p hp q hq e => z1_inj hh (mem_pl.1 hp).2 (mem_pl.1 hq).2 e, map_nodup pl_nodup fun p hp q hq e => z2_inj hh (mem_pl.1 hp).2 (mem_pl.1 hq).2 e, fun a ha b hb => ?_⟩
    obtain ⟨_, _, _, _, rfl⟩ := mem_F1.1 ha
    obtain ⟨_, _, _, _, rfl⟩ := mem_F2.1 hb
    intro e
    have := (z_inj e).1
    omega
  · obtain ⟨_, _, _, _, rfl⟩ := mem_F0.1 ha
    rcases List.mem_append.1 hb with hb | hb
    · obtain ⟨_, _, _, _, rfl⟩ := mem_F1.1 hb
      intro e
      have := (z_inj e).1
      omega
    · obtain ⟨_, _, _, _, rfl⟩ := mem_F2.1 hb
      intro e
      have := (z_inj e).1
      omega

/-- Two heaps with one floor are one. -/
theorem floor_inj {g : List (List Int)} (hg : IsHeap A B C g) (e : lzSort (floorP A B C h) = lzSort (floorP A B C g)) : h = g := by
  have hm : ∀ x, x ∈ floorP A B C h ↔ x ∈ floorP A B C g := fun x => by
    rw [← (lzSort_perm (floorP A B C h)).mem_iff, ← (lzSort_perm (floorP A B C g)).mem_iff, e]
  have key : ∀ {h g : List (List Int)}, IsHeap A B C h → IsHeap A B C g → (∀ x, x ∈ floorP A B C h ↔ x ∈ floorP A B C g) → ∀ i j, i < A → j < B → ∃ i' j', i' < A ∧ j' < B ∧ (j : Int) - i = j' - i' ∧ hat h i j - i = hat g i' j' - i' := fun {h g} hh hg hm i j hi hj => by
    have h1 : z0 h i j ∈ floorP A B C h := (floorP_perm A B C h).mem_iff.2 (List.mem_append_left _ (mem_F0.2 ⟨i, j, hi, hj, rfl⟩))
    have h2 := (floorP_perm A B C g).mem_iff.1 ((hm _).1 h1)
    rcases List.mem_append.1 h2 with h2 | h2
    · obtain ⟨i', j', hi', hj', e⟩ := mem_F0.1 h2
      obtain ⟨_, e1, e2⟩ := z_inj e
      exact ⟨i', j', hi', hj', e1, e2⟩
    · rcases List.mem_append.1 h2 with h2 | h2
      · obtain ⟨_, _, _, _, e⟩ := mem_F1.1 h2
        have := (z_inj e).1
        omega
      · obtain ⟨_, _, _, _, e⟩ := mem_F2.1 h2
        have := (z_inj e).1
        omega
  refine heap_ext (sized_of hh) (sized_of hg) fun i => ?_
  induction i using Nat.strongRecOn with
  | ind i ih =>
    intro j hi hj
    obtain ⟨a, b, ha, hb, q1, q2⟩ := key hh hg hm i j hi hj
    obtain ⟨c, d, hc, hd, q3, q4⟩ := key hg hh (fun x => (hm x).symm) i j hi hj
    have le1 : hat h i j ≤ hat g i j := by
      by_cases hlt : a < i
      · have h1 := ih a hlt b ha hb
        have h2 := hat_mono hh a b i j (by omega) (by omega) hi hj
        omega
      · have := hat_mono hg i j a b (by omega) (by omega) ha hb
        omega
    have le2 : hat g i j ≤ hat h i j := by
      by_cases hlt : c < i
      · have h1 := ih c hlt d hc hd
        have h2 := hat_mono hg c d i j (by omega) (by omega) hi hj
        omega
      · have := hat_mono hh i j c d (by omega) (by omega) hc hd
        omega
    omega
end

theorem floor_kinds (A B C : Nat) (h : List (List Int)) :
    (lzSort (floorP A B C h)).countP (fun x => decide (x.1 = 0)) = A * B ∧ (lzSort (floorP A B C h)).countP (fun x => decide (x.1 = 1)) = A * C ∧ (lzSort (floorP A B C h)).countP (fun x => decide (x.1 = 2)) = B * C ∧ ∀ x ∈ lzSort (floorP A B C h), x.1 = 0 ∨ x.1 = 1 ∨ x.1 = 2 := by
  have hp := (lzSort_perm _).trans (floorP_perm A B C h)
  have ev : ∀ (k k' : Int) (L : List Loz), (∀ x ∈ L, x.1 = k') → L.countP (fun x => decide (x.1 = k)) = if k = k' then L.length else 0 := fun k k' L hL => by
    split
    · rename_i e
      rw [List.countP_eq_length]
      intro x hx
      simp [hL x hx, e]
    · rename_i e
      rw [List.countP_eq_zero]
      intro x hx
      simp [hL x hx]
      omega
  have k0 : ∀ x ∈ F0 A B h, x.1 = 0 := fun x hx => by obtain ⟨_, _, _, _, rfl⟩ := mem_F0.1 hx; rfl
  have k1 : ∀ x ∈ F1 A C h, x.1 = 1 := fun x hx => by obtain ⟨_, _, _, _, rfl⟩ := mem_F1.1 hx; rfl
  have k2 : ∀ x ∈ F2 A B C h, x.1 = 2 := fun x hx => by obtain ⟨_, _, _, _, rfl⟩ := mem_F2.1 hx; rfl
  have l0 : (F0 A B h).length = A * B := by simp [F0, pl_length]
  have l1 : (F1 A C h).length = A * C := by simp [F1, pl_length, Nat.mul_comm]
  have l2 : (F2 A B C h).length = B * C := by simp [F2, pl_length, Nat.mul_comm]
  refine ⟨?_, ?_, ?_, fun x hx => ?_⟩
  · rw [hp.countP_eq, List.countP_append, List.countP_append, ev 0 0 _ k0, ev 0 1 _ k1, ev 0 2 _ k2, l0]; rfl
  · rw [hp.countP_eq, List.countP_append, List.countP_append, ev 1 0 _ k0, ev 1 1 _ k1, ev 1 2 _ k2, l1]; simp
  · rw [hp.countP_eq, List.countP_append, List.countP_append, ev 2 0 _ k0, ev 2 1 _ k1, ev 2 2 _ k2, l2]; simp
  · rcases List.mem_append.1 (hp.mem_iff.1 hx) with h | h
    · exact .inl (k0 x h)
    · rcases List.mem_append.1 h with h | h
      · exact .inr (.inl (k1 x h))
      · exact .inr (.inr (k2 x h))

theorem count_one {α : Type} {p : α → Bool} {x : α} : ∀ {L : List α}, L.Nodup → x ∈ L → p x = true → (∀ y ∈ L, y ≠ x → p y = false) → L.countP p = 1
  | a :: L, hn, hx, hp, hq => by
    rw [List.nodup_cons] at hn
    rcases List.mem_cons.1 hx with rfl | hx'
    · have h0 : L.countP p = 0 := by
        rw [List.countP_eq_zero]
        intro y hy
        have := hq y (List.mem_cons_of_mem _ hy) (fun e => hn.1 (e ▸ hy))
        simp [this]
      simp [List.countP_cons, hp, h0]
    · have h0 : p a = false := hq a List.mem_cons_self (fun e => hn.1 (e ▸ hx'))
      have := count_one hn.2 hx' hp (fun y hy => hq y (List.mem_cons_of_mem _ hy))
      simp [List.countP_cons, h0, this]

/-- One cube more changes three lozenges. -/
theorem floor_three {A B C : Nat} {h : List (List Int)} (hh : IsHeap A B C h) {i j : Nat} (hi : i < A) (hj : j < B) (hg : IsHeap A B C (put2 h i j (hat h i j + 1))) :
    (lzSort (floorP A B C h)).countP (fun x => !decide (x ∈ lzSort (floorP A B C (put2 h i j (hat h i j + 1))))) = 3 := by
  have hs := sized_of hh
  have hat' : ∀ k l, k < A → l < B → hat (put2 h i j (hat h i j + 1)) k l = if k = i ∧ l = j then hat h i j + 1 else hat h k l := fun k l _ _ => put2_hat h i j k l _ (by rw [hs.1]; exact hi) (by rw [hs.2 i hi]; exact hj)
  have hpos := hh.pos i j (by rw [hs.1]; exact hi) (by omega)
  have htop := hg.top i j (by rw [(sized_of hg).1]; exact hi) (by omega)
  rw [hat' i j hi hj, if_pos ⟨rfl, rfl⟩] at htop
  obtain ⟨n, hn⟩ := Int.eq_ofNat_of_zero_le hpos
  have hf : ∀ a b, a < A → b < B → hat (put2 h i j (hat h i j + 1)) a b = if a = i ∧ b = j then (n : Int) + 1 else hat h a b := fun a b ha hb => by rw [hat' a b ha hb, hn]
  have H := hts hh
  have H' := hts hg
  generalize put2 h i j (hat h i j + 1) = g at *
  have m1 := fun k a ha => H.more1 H' hi hj hn hf (k := k) (a := a) ha
  have m2 := fun k b hb => H.more2 H' hi hj hn hf (k := k) (b := b) hb
  have hnC : n < C := by omega
  have mm : ∀ x, x ∈ lzSort (floorP A B C g) ↔ x ∈ F0 A B g ∨ x ∈ F1 A C g ∨ x ∈ F2 A B C g := fun x => by
    rw [((lzSort_perm _).trans (floorP_perm A B C g)).mem_iff, List.mem_append, List.mem_append]
  rw [((lzSort_perm _).trans (floorP_perm A B C h)).countP_eq, List.countP_append, List.countP_append]
  unfold F0 F1 F2 at *
  rw [List.countP_map, List.countP_map, List.countP_map]
  have q0 : (pl B (A * B)).countP ((fun x => !decide (x ∈ lzSort (floorP A B C g))) ∘ fun p => z0 h p.1 p.2) = 1 := by
    refine count_one (x := (i, j)) pl_nodup (mem_pl.2 ⟨hi, hj⟩) ?_ ?_
    · simp only [Function.comp_apply, Bool.not_eq_true', decide_eq_false_iff_not]
      rw [mm]
      rintro (hx | hx | hx)
      · obtain ⟨a, b, ha, hb, e⟩ := mem_F0.1 hx
        obtain ⟨_, e1, e2⟩ := z_inj e
        rw [hf a b ha hb] at e2
        split at e2
        · rename_i e3; omega
        · rename_i e3
          have := H.inj0 hi hj ha hb e1 e2
          exact e3 ⟨this.1.symm, this.2.symm⟩
      · obtain ⟨_, _, _, _, e⟩ := mem_F1.1 hx
        have := (z_inj e).1
        omega
      · obtain ⟨_, _, _, _, e⟩ := mem_F2.1 hx
        have := (z_inj e).1
        omega
    · rintro ⟨a, b⟩ hab hne
      obtain ⟨ha, hb⟩ := mem_pl.1 hab
      simp only [Function.comp_apply, Bool.not_eq_false', decide_eq_true_eq]
      rw [mm]
      refine .inl (mem_F0.2 ⟨a, b, ha, hb, ?_⟩)
      have := hf a b ha hb
      rw [if_neg (fun e => hne (Prod.ext e.1 e.2))] at this
      unfold z0
      rw [this]
  have q1 : (pl A (C * A)).countP ((fun x => !decide (x ∈ lzSort (floorP A B C g))) ∘ fun p => z1 h p.1 p.2) = 1 := by
    refine count_one (x := (n, i)) pl_nodup (mem_pl.2 ⟨hnC, hi⟩) ?_ ?_
    · simp only [Function.comp_apply, Bool.not_eq_true', decide_eq_false_iff_not]
      rw [mm]
      rintro (hx | hx | hx)
      · obtain ⟨_, _, _, _, e⟩ := mem_F0.1 hx
        have := (z_inj e).1
        omega
      · obtain ⟨k, a, hk, ha, e⟩ := mem_F1.1 hx
        obtain ⟨_, e1, e2⟩ := z_inj e
        change ((c1 h n i : Nat) : Int) - i = (c1 g k a : Nat) - a at e1
        by_cases hka : k = n ∧ a = i
        · obtain ⟨rfl, rfl⟩ := hka
          exact (m1 k a ha).1 (by omega) ⟨rfl, rfl⟩
        · rw [← (m1 k a ha).2 hka] at e1
          have := H.inj1 hi ha e1 e2
          exact hka ⟨this.1.symm, this.2.symm⟩
      · obtain ⟨_, _, _, _, e⟩ := mem_F2.1 hx
        have := (z_inj e).1
        omega
    · rintro ⟨k, a⟩ hab hne
      obtain ⟨hk, ha⟩ := mem_pl.1 hab
      simp only [Function.comp_apply, Bool.not_eq_false', decide_eq_true_eq]
      rw [mm]
      refine .inr (.inl (mem_F1.2 ⟨k, a, hk, ha, ?_⟩))
      have := (m1 k a ha).2 (fun e => hne (Prod.ext e.1 e.2))
      unfold c1 at this
      unfold z1
      rw [this]
  have q2 : (pl B (C * B)).countP ((fun x => !decide (x ∈ lzSort (floorP A B C g))) ∘ fun p => z2 A B h p.1 p.2) = 1 := by
    refine count_one (x := (n, j)) pl_nodup (mem_pl.2 ⟨hnC, hj⟩) ?_ ?_
    · simp only [Function.comp_apply, Bool.not_eq_true', decide_eq_false_iff_not]
      rw [mm]
      rintro (hx | hx | hx)
      · obtain ⟨_, _, _, _, e⟩ := mem_F0.1 hx
        have := (z_inj e).1
        omega
      · obtain ⟨_, _, _, _, e⟩ := mem_F1.1 hx
        have := (z_inj e).1
        omega
      · obtain ⟨k, b, hk, hb, e⟩ := mem_F2.1 hx
        obtain ⟨_, e1, e2⟩ := z_inj e
        change (j : Int) - (c2 A B h n j : Nat) = b - (c2 A B g k b : Nat) at e1
        change (n : Int) - (c2 A B h n j : Nat) = k - (c2 A B g k b : Nat) at e2
        by_cases hka : k = n ∧ b = j
        · obtain ⟨rfl, rfl⟩ := hka
          exact (m2 k b hb).1 (by omega) ⟨rfl, rfl⟩
        · rw [← (m2 k b hb).2 hka] at e1 e2
          have := H.inj2 hj hb e1 e2
          exact hka ⟨this.1.symm, this.2.symm⟩
    · rintro ⟨k, b⟩ hab hne
      obtain ⟨hk, hb⟩ := mem_pl.1 hab
      simp only [Function.comp_apply, Bool.not_eq_false', decide_eq_true_eq]
      rw [mm]
      refine .inr (.inr (mem_F2.2 ⟨k, b, hk, hb, ?_⟩))
      have := (m2 k b hb).2 (fun e => hne (Prod.ext e.1 e.2))
      unfold c2 at this
      unfold z2
      rw [this]
  rw [q0, q1, q2]

end Go.Proofs.Ytaephdjmpmbfpaa
