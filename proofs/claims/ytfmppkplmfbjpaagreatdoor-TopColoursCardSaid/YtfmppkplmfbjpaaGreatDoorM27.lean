/- Texts of my own, merged by program: Tr Sh. -/
import Derived.Test.YtfmppkplmfbjpaaGreatDoorM26
import Derived.Test.YtfmppkplmfbjpaaGreatDoorM03
set_option linter.all false
/- Contracts: both, tiled. -/
namespace Go.Proofs.YtfmppkplmfbjpaaGreatDoor
open Go.Lf Go.RowKit Go.Ht

set_option maxRecDepth 100000 in
theorem bs61 (x y : C2) (w : World) (K : Value → World → Prop) : bsW Tryz.prog 141 2 [(0, cV x), (1, cV y)] w K = K (.slice (some ⟨w.heap.size, 0, none⟩) 2 2) (w.alloc (.cells #[.int .i64 x.1, .int .i64 x.2, .int .i64 y.1, .int .i64 y.2] 100)) := by kernel_rfl
set_option maxRecDepth 100000 in
theorem bs28 (a b : Option Addr) (n c m d : Nat) (w : World) (K : Value → World → Prop) : bsW Tryz.prog 83 2 [(0, .slice a n c), (1, .slice b m d)] w K = K (.slice (some ⟨w.heap.size, 0, none⟩) 2 2) (w.alloc (.cells #[.slice a n c, .slice b m d] 141)) := by kernel_rfl
set_option maxRecDepth 100000 in
theorem bs22_3 (x y z : ByteArray) (w : World) (K : Value → World → Prop) : bsW Tryz.prog 32 3 [(0, .string x), (1, .string y), (2, .string z)] w K = K (.slice (some ⟨w.heap.size, 0, none⟩) 3 3) (w.alloc (.cells #[.string x, .string y, .string z] 9)) := by kernel_rfl

set_option maxRecDepth 100000 in
theorem both_calls (w : World) : Calls Tryz.prog 30 #[] w fun e w' => Kp w w' ∧ ∃ tv, e = .returned tv ∧ TilesAt w' tv := by
  refine lift30 ?_
  unfold S30
  simp only [bd43]
  have two : ∀ (x y : C2) (w : World), RdC (w.alloc (.cells #[.int .i64 x.1, .int .i64 x.2, .int .i64 y.1, .int .i64 y.2] 100)) (.slice (some ⟨w.heap.size, 0, none⟩) 2 2) [x, y] := fun x y w => by
    have h := (rec_alloc (e := 100) cC_len [x, y] (by simp) w).rd cC_len
    simp [recCells, cC] at h
    exact h
  rw [bs61, bs61]
  have t1 := two (0, 0) (1, 0) w
  have k1 : Kp w (w.alloc (.cells #[.int .i64 0, .int .i64 0, .int .i64 1, .int .i64 0] 100)) := below_alloc _
  generalize (w.alloc (.cells #[.int .i64 0, .int .i64 0, .int .i64 1, .int .i64 0] 100)) = w1 at *
  have t2 := two (0, 0) (0, 1) w1
  have k2 : Kp w1 (w1.alloc (.cells #[.int .i64 0, .int .i64 0, .int .i64 0, .int .i64 1] 100)) := below_alloc _
  generalize (w1.alloc (.cells #[.int .i64 0, .int .i64 0, .int .i64 0, .int .i64 1] 100)) = w2 at *
  rw [bs28]
  have k3 : Kp w2 (w2.alloc (.cells #[.slice (some ⟨w.heap.size, 0, none⟩) 2 2, .slice (some ⟨w1.heap.size, 0, none⟩) 2 2] 141)) := below_alloc _
  refine ⟨Kp.trans k1 (Kp.trans k2 k3), _, rfl, _, _, ?_, (t1.kp k2).kp k3, t2.kp k3⟩
  have h := (rec_alloc (e := 141) vE_len [Value.slice (some ⟨w.heap.size, 0, none⟩) 2 2, Value.slice (some ⟨w1.heap.size, 0, none⟩) 2 2] (by simp) w2).rd vE_len
  simp [recCells] at h
  exact h

/-- The floor of the closed example. -/
def l9 : List ByteArray := [⟨#[35, 35, 35]⟩, ⟨#[35, 35, 35]⟩, ⟨#[35, 35, 46]⟩]
theorem l9_of : ofB 8 l9 = true := by kernel_rfl
theorem l9_fl : flB l9 = true := by kernel_rfl
theorem l9_cnt : cntF l9 (wd l9 * l9.length) (0, 0) = 4 := by kernel_rfl
theorem l9_til : tilB l9 = 4 := by kernel_rfl
theorem l9_small : ∀ s ∈ l9, s.size ≤ 9223372036854775807 := by
  intro s hs
  simp only [l9, List.mem_cons, List.not_mem_nil, or_false] at hs
  rcases hs with rfl | rfl | rfl <;> decide

set_option maxRecDepth 100000 in
set_option maxHeartbeats 1000000 in
theorem tiled_calls (w : World) : Calls Tryz.prog 11 #[] w fun e w' => e = .returned (.bool true) ∧ Kp w w' := by
  refine lift11 ?_
  unfold S11
  rw [bs22_3]
  have mkR : ∀ w : World, RdB (w.alloc (.cells #[.string ⟨#[35, 35, 35]⟩, .string ⟨#[35, 35, 35]⟩, .string ⟨#[35, 35, 46]⟩] 9)) (.slice (some ⟨w.heap.size, 0, none⟩) 3 3) l9 := fun w => by
    have h := (rec_alloc (e := 9) sC_len l9 (by simp [l9]) w).rd sC_len
    simp [recCells, sC, l9] at h
    exact h
  have h1 := mkR w
  have k1 : Kp w (w.alloc (.cells #[.string ⟨#[35, 35, 35]⟩, .string ⟨#[35, 35, 35]⟩, .string ⟨#[35, 35, 46]⟩] 9)) := below_alloc _
  generalize (w.alloc (.cells #[.string ⟨#[35, 35, 35]⟩, .string ⟨#[35, 35, 35]⟩, .string ⟨#[35, 35, 46]⟩] 9)) = w1 at *
  refine r_use fok28 (Count_calls w1 h1 l9_small (by decide)) rfl ?_
  rintro _ w2 ⟨k2, rfl⟩
  refine ⟨_, rfl, ?_⟩
  rw [r_ex2a, r_ex2b, l9_of, if_pos rfl, if_pos rfl, l9_cnt, bs22_3]
  have h2 := mkR w2
  have k3 : Kp w2 (w2.alloc (.cells #[.string ⟨#[35, 35, 35]⟩, .string ⟨#[35, 35, 35]⟩, .string ⟨#[35, 35, 46]⟩] 9)) := below_alloc _
  generalize (w2.alloc (.cells #[.string ⟨#[35, 35, 35]⟩, .string ⟨#[35, 35, 35]⟩, .string ⟨#[35, 35, 46]⟩] 9)) = w3 at *
  refine r_use fok30 (both_calls w3) rfl ?_
  rintro _ w4 ⟨k4, tv, rfl, hT⟩
  refine ⟨_, rfl, ?_⟩
  refine r_use fok29 (Tilings_calls w4 (h2.kp k4) l9_small hT) rfl ?_
  rintro _ w5 ⟨k5, rfl⟩
  refine ⟨_, rfl, ?_⟩
  rw [r_ex2a, r_ex2b, l9_fl, if_pos rfl, if_pos rfl, l9_til]
  simp only [r_eql, decide_eq_true (show (0 : Int) = 0 from rfl), r_gdTT, decide_eq_true (show ((4 : Nat) : Int) = 4 from rfl), r_pickT]
  exact ⟨by first | rfl | trivial, Kp.trans k1 (Kp.trans k2 (Kp.trans k3 (Kp.trans k4 k5)))⟩

end Go.Proofs.YtfmppkplmfbjpaaGreatDoor

/- Lifted texts, printed by program (gen.py): what each function's code asks. The ties are by the kernel. -/
namespace Go.Proofs.YtfmppkplmfbjpaaGreatDoor
open Go.Lf Go.RowKit

def S3L2 (t11 t12 t94 t127 : Value) (next_2 : Value → Value → World → Prop) (w : World) : Prop :=
  Loop2 (.slice none 0 0) (.int .i64 0) w fun _ t13 t14 w next_3 =>
    binQ Tryz.prog w .lss 3 false t14 t94 fun t138 =>
    condW t138 (
      iaS 1 t127 t12 fun t144 =>
      ld1 w t144 fun t145 =>
      iaS 1 t145 t14 fun t147 =>
      ld1 w t147 fun t148 =>
      cv1 .u8 t148 fun t149 =>
      binQ Tryz.prog w .add 5 true (.int .u8 97) t149 fun t150 =>
      bsW Tryz.prog 33 1 [(0, t150)] w fun t151 w =>
      semW Tryz.prog (apS [33, 33] 33 [t13, t151]) w fun t152 w =>
      binQ Tryz.prog w .add 3 true t14 (.int .i64 1) fun t140 =>
      next_3 t152 t140 w
    ) (
      cvQ Tryz.prog w 33 9 t13 fun t155 =>
      bsW Tryz.prog 32 1 [(0, t155)] w fun t156 w =>
      semW Tryz.prog (apS [32, 32] 32 [t11, t156]) w fun t157 w =>
      binQ Tryz.prog w .add 3 true t12 (.int .i64 1) fun t135 =>
      next_2 t157 t135 w
    )

def S3L1 (t94 t95 t127 : Value) (R : Ending → World → Prop) (w : World) : Prop :=
  Loop2 (.slice none 0 0) (.int .i64 0) w fun _ t11 t12 w next_2 =>
    binQ Tryz.prog w .lss 3 false t12 t95 fun t133 =>
    condW t133 (
      S3L2 t11 t12 t94 t127 next_2 w
    ) (
      callW Tryz.prog (.func (.func 7) #[] #[]) [t11] w fun t160 w =>
      exQ t160 0 fun t161 =>
      exQ t160 1 fun t162 =>
      boxW 36 (.agg #[(.int .i64 0), (.int .i64 0), (.int .i64 0)]) w fun t15 w =>
      stW Tryz.prog 36 t15 t161 w fun w =>
      Drew w fun w =>
      binQ Tryz.prog w .neq 26 true t162 (.int .i64 0) fun t164 =>
      gdQ t164 false (fun k => fa1 t15 0 k) fun t166 =>
      gdQ t164 false (fun k => ld1 w t166 k) fun t167 =>
      gdQ t164 false (fun k => binQ Tryz.prog w .lss 3 true t167 (.int .i64 1) k) fun t168 =>
      pickQ t164 (.bool true) t168 fun t169 =>
      gdQ t169 false (fun k => fa1 t15 2 k) fun t171 =>
      gdQ t169 false (fun k => ld1 w t171 k) fun t172 =>
      gdQ t169 false (fun k => binQ Tryz.prog w .lss 3 true t172 (.int .i64 1) k) fun t173 =>
      pickQ t169 (.bool true) t173 fun t174 =>
      gdQ t174 false (fun k => k t94) fun t176 =>
      gdQ t174 false (fun k => fa1 t15 0 k) fun t177 =>
      gdQ t174 false (fun k => ld1 w t177 k) fun t178 =>
      gdQ t174 false (fun k => binQ Tryz.prog w .rem 3 false t176 t178 k) fun t179 =>
      gdQ t174 false (fun k => binQ Tryz.prog w .neq 3 true t179 (.int .i64 0) k) fun t180 =>
      pickQ t174 (.bool true) t180 fun t181 =>
      gdQ t181 false (fun k => k t94) fun t183 =>
      gdQ t181 false (fun k => fa1 t15 0 k) fun t184 =>
      gdQ t181 false (fun k => ld1 w t184 k) fun t185 =>
      gdQ t181 false (fun k => binQ Tryz.prog w .quo 3 false t183 t185 k) fun t186 =>
      gdQ t181 false (fun k => fa1 t15 1 k) fun t187 =>
      gdQ t181 false (fun k => ld1 w t187 k) fun t188 =>
      gdQ t181 false (fun k => binQ Tryz.prog w .mul 3 false t186 t188 k) fun t189 =>
      gdQ t181 false (fun k => binQ Tryz.prog w .sub 3 true (.int .i64 0) t189 k) fun t190 =>
      gdQ t181 false (fun k => fa1 t15 2 k) fun t191 =>
      gdQ t181 false (fun k => ld1 w t191 k) fun t192 =>
      gdQ t181 false (fun k => binQ Tryz.prog w .rem 3 false t190 t192 k) fun t193 =>
      gdQ t181 false (fun k => binQ Tryz.prog w .neq 3 true t193 (.int .i64 0) k) fun t194 =>
      pickQ t181 (.bool true) t194 fun t195 =>
      gdQ t195 false (fun k => k t95) fun t197 =>
      gdQ t195 false (fun k => fa1 t15 2 k) fun t198 =>
      gdQ t195 false (fun k => ld1 w t198 k) fun t199 =>
      gdQ t195 false (fun k => binQ Tryz.prog w .rem 3 false t197 t199 k) fun t200 =>
      gdQ t195 false (fun k => binQ Tryz.prog w .neq 3 true t200 (.int .i64 0) k) fun t201 =>
      pickQ t195 (.bool true) t201 fun t202 =>
      condW t202 (
        R (.returned (.bool false)) w
      ) (
        fa1 t15 1 fun t203 =>
        ld1 w t203 fun t204 =>
        binQ Tryz.prog w .eql 3 true t204 (.int .i64 0) fun t205 =>
        gd t205 true (fun k => fa1 t15 0 fun v => k v w) w fun t207 w =>
        gd t205 true (fun k => ld1 w t207 fun v => k v w) w fun t208 w =>
        gd t205 true (fun k => fa1 t15 2 fun v => k v w) w fun t209 w =>
        gd t205 true (fun k => ld1 w t209 fun v => k v w) w fun t210 w =>
        gd t205 true (fun k => binQ Tryz.prog w .mul 3 false t208 t210 fun v => k v w) w fun t211 w =>
        gd t205 true (fun k => k t94 w) w fun t212 w =>
        gd t205 true (fun k => k t95 w) w fun t213 w =>
        gd t205 true (fun k => binQ Tryz.prog w .mul 3 false t212 t213 fun v => k v w) w fun t214 w =>
        gd t205 true (fun k => binQ Tryz.prog w .lss 3 false t211 t214 fun v => k v w) w fun t215 w =>
        pickQ t205 t215 (.bool false) fun t216 =>
        condW t216 (
          R (.returned (.bool false)) w
        ) (
          callW Tryz.prog (.func (.func 8) #[] #[]) [t11] w fun t219 w =>
          exQ t219 0 fun t220 =>
          exQ t219 1 fun t221 =>
          binQ Tryz.prog w .eql 26 true t221 (.int .i64 0) fun t223 =>
          gd t223 true (fun k => k t220 w) w fun t225 w =>
          gd t223 true (fun k => ln1 t225 fun v => k v w) w fun t226 w =>
          gd t223 true (fun k => k t95 w) w fun t227 w =>
          gd t223 true (fun k => binQ Tryz.prog w .eql 3 false t226 t227 fun v => k v w) w fun t228 w =>
          pickQ t223 t228 (.bool false) fun t229 =>
          gd t229 true (fun k => callW Tryz.prog (.func (.func 4) #[] #[]) [] w k) w fun t231 w =>
          pickQ t229 t231 (.bool false) fun t232 =>
          R (.returned t232) w
        )
      )
    )

def S3L0 (t0 : Value) (R : Ending → World → Prop) (w : World) : Prop :=
  Loop1 (.int .i64 0) w fun _ t5 w next =>
    ln1 t0 fun t24 =>
    binQ Tryz.prog w .lss 3 false t5 t24 fun t25 =>
    condW t25 (
      iaS 4 t0 t5 fun t30 =>
      fa1 t30 0 fun t31 =>
      ld1 w t31 fun t32 =>
      binQ Tryz.prog w .lss 3 true t32 (.int .i64 0) fun t33 =>
      gd t33 false (fun k => k t0 w) w fun t35 w =>
      gd t33 false (fun k => k t5 w) w fun t36 w =>
      gd t33 false (fun k => iaS 4 t35 t36 fun v => k v w) w fun t37 w =>
      gd t33 false (fun k => fa1 t37 0 fun v => k v w) w fun t38 w =>
      gd t33 false (fun k => ld1 w t38 fun v => k v w) w fun t39 w =>
      gd t33 false (fun k => binQ Tryz.prog w .gtr 3 true t39 (.int .i64 1) fun v => k v w) w fun t40 w =>
      pickQ t33 (.bool true) t40 fun t41 =>
      gd t41 false (fun k => k t0 w) w fun t43 w =>
      gd t41 false (fun k => k t5 w) w fun t44 w =>
      gd t41 false (fun k => iaS 4 t43 t44 fun v => k v w) w fun t45 w =>
      gd t41 false (fun k => fa1 t45 2 fun v => k v w) w fun t46 w =>
      gd t41 false (fun k => ld1 w t46 fun v => k v w) w fun t47 w =>
      gd t41 false (fun k => binQ Tryz.prog w .lss 3 true t47 (.int .i64 0) fun v => k v w) w fun t48 w =>
      pickQ t41 (.bool true) t48 fun t49 =>
      gd t49 false (fun k => k t0 w) w fun t51 w =>
      gd t49 false (fun k => k t5 w) w fun t52 w =>
      gd t49 false (fun k => iaS 4 t51 t52 fun v => k v w) w fun t53 w =>
      gd t49 false (fun k => fa1 t53 2 fun v => k v w) w fun t54 w =>
      gd t49 false (fun k => ld1 w t54 fun v => k v w) w fun t55 w =>
      gd t49 false (fun k => binQ Tryz.prog w .gtr 3 true t55 (.int .i64 1) fun v => k v w) w fun t56 w =>
      pickQ t49 (.bool true) t56 fun t57 =>
      gd t57 false (fun k => k t0 w) w fun t59 w =>
      gd t57 false (fun k => k t5 w) w fun t60 w =>
      gd t57 false (fun k => iaS 4 t59 t60 fun v => k v w) w fun t61 w =>
      gd t57 false (fun k => fa1 t61 1 fun v => k v w) w fun t62 w =>
      gd t57 false (fun k => ld1 w t62 fun v => k v w) w fun t63 w =>
      gd t57 false (fun k => binQ Tryz.prog w .lss 3 true t63 (.int .i64 0) fun v => k v w) w fun t64 w =>
      pickQ t57 (.bool true) t64 fun t65 =>
      gd t65 false (fun k => k t0 w) w fun t67 w =>
      gd t65 false (fun k => k t5 w) w fun t68 w =>
      gd t65 false (fun k => iaS 4 t67 t68 fun v => k v w) w fun t69 w =>
      gd t65 false (fun k => fa1 t69 1 fun v => k v w) w fun t70 w =>
      gd t65 false (fun k => ld1 w t70 fun v => k v w) w fun t71 w =>
      gd t65 false (fun k => binQ Tryz.prog w .gtr 3 true t71 (.int .i64 1) fun v => k v w) w fun t72 w =>
      pickQ t65 (.bool true) t72 fun t73 =>
      gd t73 false (fun k => k t0 w) w fun t75 w =>
      gd t73 false (fun k => k t5 w) w fun t76 w =>
      gd t73 false (fun k => iaS 4 t75 t76 fun v => k v w) w fun t77 w =>
      gd t73 false (fun k => fa1 t77 3 fun v => k v w) w fun t78 w =>
      gd t73 false (fun k => ld1 w t78 fun v => k v w) w fun t79 w =>
      gd t73 false (fun k => binQ Tryz.prog w .lss 3 true t79 (.int .i64 0) fun v => k v w) w fun t80 w =>
      pickQ t73 (.bool true) t80 fun t81 =>
      gd t81 false (fun k => k t0 w) w fun t83 w =>
      gd t81 false (fun k => k t5 w) w fun t84 w =>
      gd t81 false (fun k => iaS 4 t83 t84 fun v => k v w) w fun t85 w =>
      gd t81 false (fun k => fa1 t85 3 fun v => k v w) w fun t86 w =>
      gd t81 false (fun k => ld1 w t86 fun v => k v w) w fun t87 w =>
      gd t81 false (fun k => binQ Tryz.prog w .gtr 3 true t87 (.int .i64 1) fun v => k v w) w fun t88 w =>
      pickQ t81 (.bool true) t88 fun t89 =>
      condW t89 (
        callW Tryz.prog (.func (.func 4) #[] #[]) [] w fun t90 w =>
        R (.returned t90) w
      ) (
        binQ Tryz.prog w .add 3 true t5 (.int .i64 1) fun t27 =>
        next t27 w
      )
    ) (
      callW Tryz.prog (.func (.func 5) #[] #[]) [t0] w fun t93 w =>
      exQ t93 0 fun t94 =>
      exQ t93 1 fun t95 =>
      exQ t93 2 fun t96 =>
      binQ Tryz.prog w .neq 26 true t96 (.int .i64 0) fun t98 =>
      condW t98 (
        binQ Tryz.prog w .eql 26 true t96 (.int .i64 2) fun t100 =>
        gd t100 false (fun k => k t96 w) w fun t102 w =>
        gd t100 false (fun k => binQ Tryz.prog w .eql 26 true t102 (.int .i64 10) fun v => k v w) w fun t103 w =>
        pickQ t100 (.bool true) t103 fun t104 =>
        gd t104 true (fun k => callW Tryz.prog (.func (.func 4) #[] #[]) [] w k) w fun t106 w =>
        pickQ t104 t106 (.bool false) fun t107 =>
        R (.returned t107) w
      ) (
        binQ Tryz.prog w .lss 3 true t94 (.int .i64 1) fun t109 =>
        gd t109 false (fun k => k t95 w) w fun t111 w =>
        gd t109 false (fun k => binQ Tryz.prog w .lss 3 true t111 (.int .i64 1) fun v => k v w) w fun t112 w =>
        pickQ t109 (.bool true) t112 fun t113 =>
        gd t113 false (fun k => k t94 w) w fun t115 w =>
        gd t113 false (fun k => binQ Tryz.prog w .gtr 3 true t115 (.int .i64 4) fun v => k v w) w fun t116 w =>
        pickQ t113 (.bool true) t116 fun t117 =>
        gd t117 false (fun k => k t95 w) w fun t119 w =>
        gd t117 false (fun k => binQ Tryz.prog w .gtr 3 true t119 (.int .i64 4) fun v => k v w) w fun t120 w =>
        pickQ t117 (.bool true) t120 fun t121 =>
        condW t121 (
          R (.returned (.bool false)) w
        ) (
          callW Tryz.prog (.func (.func 6) #[] #[]) [t0, t94, t95, (.slice none 0 0)] w fun t126 w =>
          exQ t126 0 fun t127 =>
          exQ t126 1 fun t128 =>
          unQ .not t128 fun t130 =>
          condW t130 (
            R (.returned (.bool false)) w
          ) (
            S3L1 t94 t95 t127 R w
          )
        )
      )
    )

def S3 (t0 t1 : Value) (w : World) (R : Ending → World → Prop) : Prop :=
  ln1 t0 fun t19 =>
  binQ Tryz.prog w .gtr 3 true t19 (.int .i64 4) fun t20 =>
  condW t20 (
    callW Tryz.prog (.func (.func 4) #[] #[]) [] w fun t21 w =>
    R (.returned t21) w
  ) (
    S3L0 t0 R w
  )

def A3 : Ann where
  live := fun
    | 0 => [5]
    | 2 => [11, 12]
    | 4 => [13, 14]
    | _ => []
  wr := fun
    | 0 => fun i => (Nat.ble 4 i && Nat.ble i 5) || (Nat.ble 22 i && Nat.ble i 90)
    | 2 => fun i => (Nat.ble 11 i && Nat.ble i 14) || (Nat.ble 131 i && Nat.ble i 157)
    | 4 => fun i => (Nat.ble 13 i && Nat.ble i 14) || (Nat.ble 136 i && Nat.ble i 152)
    | _ => fun _ => false
  sched := fun
    | 27 => (.take 0 (.take 1 (.take 2 (.take 3 (.take 4 (.take 5 (.take 6 (.take 7 (.take 8 (.take 9 (.take 10 (.take 11 (.take 12 (.take 13 (.take 14 (.take 15 (.take 16 (.take 17 (.take 18 (.take 19 (.take 20 (.take 21 (.take 22 (.take 23 (.take 24 (.take 25 (.take 26 (.take 27 (.take 28 (.take 29 (.take 30 (.take 31 (.take 32 (.take 33 (.take 34 (.take 35 (.take 36 (.take 37 (.take 38 (.take 39 .done))))))))))))))))))))))))))))))))))))))))
    | _ => .done

set_option maxRecDepth 100000 in
theorem ok3 : (codeOk Tryz.f3.ntmps A3 (Tryz.f3.body.getD .skip) 0 && Nat.ble 2 Tryz.f3.ntmps) = true := by kernel_rfl
set_option maxRecDepth 100000 in
theorem lift3 {t0 t1 : Value} {w : World} {R : Ending → World → Prop} (h : S3 t0 t1 w R) : Calls Tryz.prog 3 #[t0, t1] w R :=
  calls_of_cw (fn := Tryz.f3) (c := Tryz.f3.body.getD .skip) A3 mixes Tryz.func3 (by kernel_rfl) ok3
    ((by kernel_rfl : (S3 t0 t1 w R) = cw Tryz.prog A3 (Tryz.f3.body.getD .skip) 0 (bodyQ Tryz.prog Tryz.f3 R) (frOf #[t0, t1]) w).mp h)

def S4 (w : World) (R : Ending → World → Prop) : Prop :=
  bdQ Tryz.prog 25 [] fun t6 =>
  bdQ Tryz.prog 25 [(0, (.int .i64 1)), (2, (.int .i64 1))] fun t7 =>
  bsW Tryz.prog 22 2 [(0, t6), (1, t7)] w fun t8 w =>
  callW Tryz.prog (.func (.func 9) #[] #[]) [t8, (.int .i64 2), (.int .i64 3)] w fun t9 w =>
  exQ t9 0 fun t10 =>
  exQ t9 1 fun t11 =>
  bsW Tryz.prog 32 2 [(0, (.string ⟨#[97, 98]⟩)), (1, (.string ⟨#[98, 97]⟩))] w fun t13 w =>
  callW Tryz.prog (.func (.func 10) #[] #[]) [t13] w fun t14 w =>
  exQ t14 0 fun t15 =>
  exQ t14 1 fun t16 =>
  binQ Tryz.prog w .eql 26 true t11 (.int .i64 0) fun t18 =>
  gd t18 true (fun k => k t10 w) w fun t20 w =>
  gd t18 true (fun k => binQ Tryz.prog w .eql 3 true t20 (.int .i64 4) fun v => k v w) w fun t21 w =>
  pickQ t18 t21 (.bool false) fun t22 =>
  gd t22 true (fun k => k t16 w) w fun t24 w =>
  gd t22 true (fun k => binQ Tryz.prog w .eql 26 true t24 (.int .i64 0) fun v => k v w) w fun t25 w =>
  pickQ t22 t25 (.bool false) fun t26 =>
  gd t26 true (fun k => k t15 w) w fun t28 w =>
  gd t26 true (fun k => binQ Tryz.prog w .eql 9 true t28 (.string ⟨#[112, 52, 109]⟩) fun v => k v w) w fun t29 w =>
  pickQ t26 t29 (.bool false) fun t30 =>
  gd t30 true (fun k => callW Tryz.prog (.func (.func 11) #[] #[]) [] w k) w fun t32 w =>
  pickQ t30 t32 (.bool false) fun t33 =>
  R (.returned t33) w

def A4 : Ann where
  live := fun _ => []
  wr := fun _ _ => false
  sched := fun _ => .done

set_option maxRecDepth 100000 in
theorem ok4 : (codeOk Tryz.f4.ntmps A4 (Tryz.f4.body.getD .skip) 0 && Nat.ble 0 Tryz.f4.ntmps) = true := by kernel_rfl
set_option maxRecDepth 100000 in
theorem lift4 {w : World} {R : Ending → World → Prop} (h : S4 w R) : Calls Tryz.prog 4 #[] w R :=
  calls_of_cw (fn := Tryz.f4) (c := Tryz.f4.body.getD .skip) A4 mixes Tryz.func4 (by kernel_rfl) ok4
    ((by kernel_rfl : (S4 w R) = cw Tryz.prog A4 (Tryz.f4.body.getD .skip) 0 (bodyQ Tryz.prog Tryz.f4 R) (frOf #[]) w).mp h)

def S6L0 (t0 t1 t2 t3 : Value) (R : Ending → World → Prop) (w : World) : Prop :=
  Loop2 (.slice none 0 0) (.int .i64 0) w fun _ t11 t12 w next =>
    binQ Tryz.prog w .lss 3 false t12 t2 fun t28 =>
    condW t28 (
      binQ Tryz.prog w .mul 3 false t12 t1 fun t35 =>
      binQ Tryz.prog w .mul 3 false t12 t1 fun t38 =>
      binQ Tryz.prog w .add 3 false t38 t1 fun t40 =>
      slS 1 t3 (some t35) (some t40) fun t41 =>
      bsW Tryz.prog 29 1 [(0, t41)] w fun t42 w =>
      semW Tryz.prog (apS [29, 29] 29 [t11, t42]) w fun t43 w =>
      binQ Tryz.prog w .add 3 true t12 (.int .i64 1) fun t30 =>
      next t43 t30 w
    ) (
      callW Tryz.prog (.func (.func 15) #[] #[]) [t0, t11] w fun t47 w =>
      exQ t47 0 fun t48 =>
      exQ t47 1 fun t49 =>
      exQ t47 2 fun t50 =>
      binQ Tryz.prog w .eql 26 true t50 (.int .i64 0) fun t53 =>
      gd t53 true (fun k => k t49 w) w fun t55 w =>
      pickQ t53 t55 (.bool false) fun t56 =>
      R (.returned (.tuple #[t11, t56])) w
    )

def S6L1 (t0 t1 t2 t3 t20 : Value) (R : Ending → World → Prop) (w : World) : Prop :=
  Loop1 (.int .i64 0) w fun _ t16 w next_2 =>
    ln1 t0 fun t59 =>
    binQ Tryz.prog w .lss 3 false t16 t59 fun t60 =>
    condW t60 (
      Join (fun (k_2 : World → Prop) =>
        Drew w fun w =>
        binQ Tryz.prog w .rem 3 false t20 t1 fun t65 =>
        binQ Tryz.prog w .gtr 3 true t65 (.int .i64 0) fun t66 =>
        gdQ t66 true (fun k => k t0) fun t68 =>
        gdQ t66 true (fun k => k t3) fun t69 =>
        gdQ t66 true (fun k => k t20) fun t70 =>
        gdQ t66 true (fun k => binQ Tryz.prog w .sub 3 true t70 (.int .i64 1) k) fun t71 =>
        gdQ t66 true (fun k => iaS 1 t69 t71 k) fun t72 =>
        gdQ t66 true (fun k => ld1 w t72 k) fun t73 =>
        gdQ t66 true (fun k => iaS 4 t68 t73 k) fun t74 =>
        gdQ t66 true (fun k => fa1 t74 1 k) fun t75 =>
        gdQ t66 true (fun k => ld1 w t75 k) fun t76 =>
        gdQ t66 true (fun k => k t0) fun t77 =>
        gdQ t66 true (fun k => k t16) fun t78 =>
        gdQ t66 true (fun k => iaS 4 t77 t78 k) fun t79 =>
        gdQ t66 true (fun k => fa1 t79 3 k) fun t80 =>
        gdQ t66 true (fun k => ld1 w t80 k) fun t81 =>
        gdQ t66 true (fun k => binQ Tryz.prog w .neq 3 false t76 t81 k) fun t82 =>
        pickQ t66 t82 (.bool false) fun t83 =>
        gdQ t83 false (fun k => k t20) fun t85 =>
        gdQ t83 false (fun k => k t1) fun t86 =>
        gdQ t83 false (fun k => binQ Tryz.prog w .geq 3 false t85 t86 k) fun t87 =>
        gdQ t83 false (fun k => k t87) fun t88 =>
        gdQ t88 true (fun k => k t0) fun t89 =>
        gdQ t88 true (fun k => k t3) fun t90 =>
        gdQ t88 true (fun k => k t20) fun t91 =>
        gdQ t88 true (fun k => k t1) fun t92 =>
        gdQ t88 true (fun k => binQ Tryz.prog w .sub 3 false t91 t92 k) fun t93 =>
        gdQ t88 true (fun k => iaS 1 t90 t93 k) fun t94 =>
        gdQ t88 true (fun k => ld1 w t94 k) fun t95 =>
        gdQ t88 true (fun k => iaS 4 t89 t95 k) fun t96 =>
        gdQ t88 true (fun k => fa1 t96 2 k) fun t97 =>
        gdQ t88 true (fun k => ld1 w t97 k) fun t98 =>
        gdQ t88 true (fun k => k t0) fun t99 =>
        gdQ t88 true (fun k => k t16) fun t100 =>
        gdQ t88 true (fun k => iaS 4 t99 t100 k) fun t101 =>
        gdQ t88 true (fun k => fa1 t101 0 k) fun t102 =>
        gdQ t88 true (fun k => ld1 w t102 k) fun t103 =>
        gdQ t88 true (fun k => binQ Tryz.prog w .neq 3 false t98 t103 k) fun t104 =>
        gdQ t83 false (fun k => pickQ t88 t104 (.bool false) k) fun t105 =>
        pickQ t83 (.bool true) t105 fun t106 =>
        condW t106 (
          k_2 w
        ) (
          semW Tryz.prog (s3S 34 t3 none (some t20) t20) w fun t114 w =>
          bsW Tryz.prog 34 1 [(0, t16)] w fun t116 w =>
          semW Tryz.prog (apS [34, 34] 34 [t114, t116]) w fun t117 w =>
          callW Tryz.prog (.func (.func 6) #[] #[]) [t0, t1, t2, t117] w fun t118 w =>
          exQ t118 0 fun t119 =>
          exQ t118 1 fun t120 =>
          condW t120 (
            R (.returned (.tuple #[t119, (.bool true)])) w
          ) (
            k_2 w
          )
        )
      ) fun w =>
      binQ Tryz.prog w .add 3 true t16 (.int .i64 1) fun t62_2 =>
      next_2 t62_2 w
    ) (
      R (.returned (.tuple #[(.slice none 0 0), (.bool false)])) w
    )

def S6 (t0 t1 t2 t3 : Value) (w : World) (R : Ending → World → Prop) : Prop :=
  ln1 t3 fun t20 =>
  binQ Tryz.prog w .mul 3 false t1 t2 fun t24 =>
  binQ Tryz.prog w .eql 3 false t20 t24 fun t25 =>
  condW t25 (
    S6L0 t0 t1 t2 t3 R w
  ) (
    S6L1 t0 t1 t2 t3 t20 R w
  )

def A6 : Ann where
  live := fun
    | 0 => [11, 12]
    | 2 => [16]
    | _ => []
  wr := fun
    | 0 => fun i => (Nat.ble 11 i && Nat.ble i 12) || (Nat.ble 26 i && Nat.ble i 43)
    | 2 => fun i => (Nat.ble 8 i && Nat.ble i 9) || (Nat.ble 16 i && Nat.ble i 18) || (Nat.ble 57 i && Nat.ble i 122)
    | _ => fun _ => false
  sched := fun
    | 13 => (.take 0 (.take 1 (.take 2 (.take 3 (.take 4 (.take 5 (.take 6 (.take 7 (.take 8 (.take 9 (.take 10 (.take 11 (.take 12 (.take 13 (.take 14 (.take 15 (.take 16 (.take 17 (.take 18 (.take 19 (.take 20 (.take 21 (.take 22 (.take 23 (.take 24 (.take 25 (.take 26 (.take 27 (.take 28 (.take 29 (.take 30 (.take 31 (.take 32 (.take 33 (.take 34 (.take 35 (.take 36 (.take 37 (.take 38 (.take 39 (.take 40 (.take 41 (.take 42 (.take 43 .done))))))))))))))))))))))))))))))))))))))))))))
    | _ => .done

set_option maxRecDepth 100000 in
theorem ok6 : (codeOk Tryz.f6.ntmps A6 (Tryz.f6.body.getD .skip) 0 && Nat.ble 4 Tryz.f6.ntmps) = true := by kernel_rfl
set_option maxRecDepth 100000 in
theorem lift6 {t0 t1 t2 t3 : Value} {w : World} {R : Ending → World → Prop} (h : S6 t0 t1 t2 t3 w R) : Calls Tryz.prog 6 #[t0, t1, t2, t3] w R :=
  calls_of_cw (fn := Tryz.f6) (c := Tryz.f6.body.getD .skip) A6 mixes Tryz.func6 (by kernel_rfl) ok6
    ((by kernel_rfl : (S6 t0 t1 t2 t3 w R) = cw Tryz.prog A6 (Tryz.f6.body.getD .skip) 0 (bodyQ Tryz.prog Tryz.f6 R) (frOf #[t0, t1, t2, t3]) w).mp h)

def S8L2 (t10_2 t30 t34 t39 t46 t60 t61 : Value) (k_2 : Value → World → Prop) (w : World) : Prop :=
  Loop1 (.int .i64 0) w fun _ t62 w next_3 =>
    binQ Tryz.prog w .lss 3 false t62 t61 fun t63 =>
    condW t63 (
      iaS 6 t60 t62 fun t64 =>
      ldN 6 w t64 fun t65 =>
      boxW 71 (.agg #[(.int .i64 0), (.int .i64 0), (.int .i64 0), (.int .i64 0), (.int .i64 0), (.int .i64 0)]) w fun t16 w =>
      stW Tryz.prog 71 t16 t65 w fun w =>
      ldN 6 w t16 fun t68 =>
      callW Tryz.prog (.func (.func 21) #[] #[]) [t68, t46, t39] w fun t71 w =>
      exQ t71 0 fun t72 =>
      exQ t71 1 fun t73 =>
      callW Tryz.prog t30 [t72, t73] w fun t74 w =>
      iaS 1 t34 t74 fun t76 =>
      stW Tryz.prog 3 t76 t10_2 w fun w =>
      binQ Tryz.prog w .add 3 true t62 (.int .i64 1) fun t77 =>
      next_3 t77 w
    ) (
      binQ Tryz.prog w .add 3 true t10_2 (.int .i64 1) fun t79 =>
      k_2 t79 w
    )

def S8L1 (t10 t11 t25 t30 t34 t39 t45 : Value) (next : Value → Value → Value → World → Prop) (w : World) : Prop :=
  Loop3 t10 (.slice none 0 0) (.int .i64 0) w fun _ t10_2 t13 t46 w next_2 =>
    binQ Tryz.prog w .lss 3 false t46 t45 fun t47 =>
    condW t47 (
      callW Tryz.prog t30 [t46, t39] w fun t53 w =>
      iaS 1 t34 t53 fun t54 =>
      ld1 w t54 fun t55 =>
      binQ Tryz.prog w .lss 3 true t55 (.int .i64 0) fun t56 =>
      Join (fun (k_2 : Value → World → Prop) =>
        condW t56 (
          ncQ t25 fun t58 =>
          fa1 t58 3 fun t59 =>
          ld1 w t59 fun t60 =>
          ln1 t60 fun t61 =>
          S8L2 t10_2 t30 t34 t39 t46 t60 t61 k_2 w
        ) (
          k_2 t10_2 w
        )
      ) fun t10_3 w =>
      callW Tryz.prog t30 [t46, t39] w fun t85_2 w =>
      iaS 1 t34 t85_2 fun t86_2 =>
      ld1 w t86_2 fun t87_2 =>
      bsW Tryz.prog 34 1 [(0, t87_2)] w fun t88_2 w =>
      semW Tryz.prog (apS [34, 34] 34 [t13, t88_2]) w fun t89_2 w =>
      binQ Tryz.prog w .add 3 true t46 (.int .i64 1) fun t90_2 =>
      next_2 t10_3 t89_2 t90_2 w
    ) (
      bsW Tryz.prog 29 1 [(0, t13)] w fun t93 w =>
      semW Tryz.prog (apS [29, 29] 29 [t11, t93]) w fun t94 w =>
      binQ Tryz.prog w .add 3 true t39 (.int .i64 1) fun t95 =>
      next t10_2 t94 t95 w
    )

def S8L0 (t20 t25 t30 t34 t38 : Value) (R : Ending → World → Prop) (w : World) : Prop :=
  Loop3 (.int .i64 0) (.slice none 0 0) (.int .i64 0) w fun _ t10 t11 t39 w next =>
    binQ Tryz.prog w .lss 3 false t39 t38 fun t40 =>
    condW t40 (
      ncQ t20 fun t43 =>
      fa1 t43 0 fun t44 =>
      ld1 w t44 fun t45 =>
      S8L1 t10 t11 t25 t30 t34 t39 t45 next w
    ) (
      R (.returned (.tuple #[t11, (.int .i64 0)])) w
    )

def S8 (t0 : Value) (w : World) (R : Ending → World → Prop) : Prop :=
  callW Tryz.prog (.func (.func 16) #[] #[]) [t0] w fun t19 w =>
  exQ t19 0 fun t20 =>
  exQ t19 1 fun t21 =>
  unQ .not t21 fun t23 =>
  condW t23 (
    R (.returned (.tuple #[(.slice none 0 0), (.int .i64 2)])) w
  ) (
    callW Tryz.prog (.func (.func 18) #[] #[]) [t20] w fun t25 w =>
    callW Tryz.prog (.func (.func 19) #[] #[]) [t25] w fun t28 w =>
    exQ t28 0 fun t29 =>
    exQ t28 1 fun t30 =>
    bsW Tryz.prog 34 1 [(0, (.int .i64 (-1)))] w fun t31 w =>
    ln1 t29 fun t33 =>
    callW Tryz.prog (.func (.func 20) #[] #[]) [t31, t33] w fun t34 w =>
    ncQ t20 fun t36 =>
    fa1 t36 1 fun t37 =>
    ld1 w t37 fun t38 =>
    S8L0 t20 t25 t30 t34 t38 R w
  )

def A8 : Ann where
  live := fun
    | 0 => [10, 11, 39]
    | 2 => [10, 13, 46]
    | 4 => [62]
    | _ => []
  wr := fun
    | 0 => fun i => (Nat.ble 10 i && Nat.ble i 14) || Nat.beq i 16 || (Nat.ble 39 i && Nat.ble i 95)
    | 2 => fun i => Nat.beq i 10 || (Nat.ble 13 i && Nat.ble i 14) || Nat.beq i 16 || (Nat.ble 46 i && Nat.ble i 90)
    | 4 => fun i => Nat.beq i 16 || (Nat.ble 62 i && Nat.ble i 77)
    | _ => fun _ => false
  sched := fun _ => .done

set_option maxRecDepth 100000 in
theorem ok8 : (codeOk Tryz.f8.ntmps A8 (Tryz.f8.body.getD .skip) 0 && Nat.ble 1 Tryz.f8.ntmps) = true := by kernel_rfl
set_option maxRecDepth 100000 in
theorem lift8 {t0 : Value} {w : World} {R : Ending → World → Prop} (h : S8 t0 w R) : Calls Tryz.prog 8 #[t0] w R :=
  calls_of_cw (fn := Tryz.f8) (c := Tryz.f8.body.getD .skip) A8 mixes Tryz.func8 (by kernel_rfl) ok8
    ((by kernel_rfl : (S8 t0 w R) = cw Tryz.prog A8 (Tryz.f8.body.getD .skip) 0 (bodyQ Tryz.prog Tryz.f8 R) (frOf #[t0]) w).mp h)

def S33L0 (t0 t1 t10 t15 : Value) (R : Ending → World → Prop) (w : World) : Prop :=
  Loop2 t10 t15 w fun _ t5 t6 w next =>
    ln1 t0 fun t18 =>
    binQ Tryz.prog w .lss 3 false t6 t18 fun t19 =>
    condW t19 (
      iaS 7 t0 t6 fun t24 =>
      ldN 7 w t24 fun t25 =>
      boxW 89 (.agg #[(.int .i64 0), (.int .i64 0), (.int .i64 0), (.int .i64 0), (.int .i64 0), (.int .i64 0), (.bool false)]) w fun t7 w =>
      stW Tryz.prog 89 t7 t25 w fun w =>
      ldN 7 w t7 fun t27 =>
      callW Tryz.prog t1 [t27] w fun t28 w =>
      unQ .not t28 fun t29 =>
      Join (fun (k_2 : Value → World → Prop) =>
        condW t29 (
          ldN 7 w t7 fun t32 =>
          iaS 7 t0 t5 fun t33 =>
          stW Tryz.prog 89 t33 t32 w fun w =>
          binQ Tryz.prog w .add 3 true t5 (.int .i64 1) fun t35 =>
          k_2 t35 w
        ) (
          k_2 t5 w
        )
      ) fun t5_2 w =>
      binQ Tryz.prog w .add 3 true t6 (.int .i64 1) fun t21_2 =>
      next t5_2 t21_2 w
    ) (
      slS 7 t0 (some t5) none fun t38 =>
      semW Tryz.prog (clS [76] 0 [t38]) w fun _ w =>
      slS 7 t0 none (some t5) fun t41 =>
      R (.returned t41) w
    )

def S33 (t0 t1 : Value) (w : World) (R : Ending → World → Prop) : Prop :=
  callW Tryz.prog (.func (.func 61) #[] #[]) [t0, t1] w fun t10 w =>
  binQ Tryz.prog w .eql 3 true t10 (.int .i64 (-1)) fun t12 =>
  condW t12 (
    R (.returned t0) w
  ) (
    binQ Tryz.prog w .add 3 true t10 (.int .i64 1) fun t15 =>
    S33L0 t0 t1 t10 t15 R w
  )

def A33 : Ann where
  live := fun
    | 0 => [5, 6]
    | _ => []
  wr := fun
    | 0 => fun i => (Nat.ble 5 i && Nat.ble i 7) || (Nat.ble 16 i && Nat.ble i 35)
    | _ => fun _ => false
  sched := fun _ => .done

set_option maxRecDepth 100000 in
theorem ok33 : (codeOk Tryz.f33.ntmps A33 (Tryz.f33.body.getD .skip) 0 && Nat.ble 2 Tryz.f33.ntmps) = true := by kernel_rfl
set_option maxRecDepth 100000 in
theorem lift33 {t0 t1 : Value} {w : World} {R : Ending → World → Prop} (h : S33 t0 t1 w R) : Calls Tryz.prog 33 #[t0, t1] w R :=
  calls_of_cw (fn := Tryz.f33) (c := Tryz.f33.body.getD .skip) A33 mixes Tryz.func33 (by kernel_rfl) ok33
    ((by kernel_rfl : (S33 t0 t1 w R) = cw Tryz.prog A33 (Tryz.f33.body.getD .skip) 0 (bodyQ Tryz.prog Tryz.f33 R) (frOf #[t0, t1]) w).mp h)

theorem fok3 : fnOk Tryz.prog 3 = true := by kernel_rfl
theorem fok4 : fnOk Tryz.prog 4 = true := by kernel_rfl
theorem fok6 : fnOk Tryz.prog 6 = true := by kernel_rfl
theorem fok8 : fnOk Tryz.prog 8 = true := by kernel_rfl
theorem fok33 : fnOk Tryz.prog 33 = true := by kernel_rfl
end Go.Proofs.YtfmppkplmfbjpaaGreatDoor
