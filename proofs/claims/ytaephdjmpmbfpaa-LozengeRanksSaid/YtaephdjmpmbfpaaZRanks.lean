/- LozengeRanks: Is, Rank and Heap return the results and errors of the specification for all boxes, heaps and ranks; heaps are new memory. For every input the law returns true, and its arguments read as they did. -/
import Derived.Test.YtaephdjmpmbfpaaW2
set_option linter.all false
namespace Go.Proofs.Ytaephdjmpmbfpaa.zranks
open Go.Proofs.Ytaephdjmpmbfpaa Go.ChangeShapes Go.WideShapes Go.ChangeAt Go.RowKit Go.Lf

set_option maxRecDepth 100000 in
theorem lifted (os : Os) (started : os.Started) (H : Type) (enc : TypeId × Value → H) :
    ReturnsInHanded {} Try.checked os 6 .any (Rows.lozengeRanksSpec.pre6 enc Try.prog Try.f6 Rows.lozengeRanksRow.domain false) (Rows.lozengeRanksSpec.post enc Try.prog Try.f6 false true false false) := by
  refine law_lifted started rfl (by kernel_rfl) Try.func6 (by kernel_rfl) (by kernel_rfl) (fun ds h => ?_)
    (ChangeSpec.witness6 (enc := enc) (C := Try.checked) false ⟨#[], #[boxV 0 0 0, .slice none 0 0, .int .i64 0], []⟩ 8 (by kernel_rfl) (by kernel_rfl) (by kernel_rfl) (by kernel_rfl)) ?_
  · have h3 : ds.length = 3 := h.trans (by kernel_rfl)
    match ds, h3 with
    | [d1, d2, d3], _ => exact ⟨rfl, rfl, rfl⟩
  · intro W base args ds p hval hA
    have hps : Try.f6.params.toList = [25, 26, 3] := by kernel_rfl
    have hpa : Try.f6.params = #[25, 26, 3] := by kernel_rfl
    rw [hps] at hA
    rw [hpa] at hval
    obtain ⟨v0, vs0, d0, ds0, p0, q0, hargs, rfl, rfl, h0, r0⟩ := trodAll_cons hA
    obtain ⟨v1, vs1, d1, ds1, p1, q1, rfl, rfl, rfl, h1, r1⟩ := trodAll_cons r0
    obtain ⟨v2, vs2, d2, ds2, p2, q2, rfl, rfl, rfl, h2, r2⟩ := trodAll_cons r1
    obtain ⟨rfl, rfl, rfl⟩ := trodAll_nil r2
    obtain rfl : args = #[v0, v1, v2] := by cases args; simp_all
    obtain ⟨A, B, C, rfl⟩ := open_box (hval 0 25 v0 rfl rfl) h0
    obtain ⟨l, hl⟩ := open_rows (hval 1 26 v1 rfl rfl) h1
    obtain ⟨n2, rfl, rfl, rfl, w2⟩ := open_int und3 (hval 2 3 v2 rfl rfl) h2
    have hw := wf_i64 w2
    exact ranks_calls A B C n2 v1 l W hl hw.1 hw.2

theorem over : Rows.lozengeRanksRow.holds Try.pinned (OpenSpec.ofChange Rows.lozengeRanksSpec) :=
  OpenClaim.holds_of_wide 6 Try.f6 rfl rfl rfl rfl rfl rfl rfl ⟨rfl, rfl, rfl, rfl, rfl⟩ rfl rfl rfl rfl rfl (by kernel_rfl) Try.func6 (by kernel_rfl)
    (of_decide_eq_true (by kernel_rfl)) (by unfold Func.isWrapper; first | (rw [if_pos (by decide +kernel)]; kernel_rfl) | (rw [if_neg (by decide +kernel)]; exact ⟨rfl, rfl⟩))
    (fun os started H enc _ => lifted os started H enc)

end Go.Proofs.Ytaephdjmpmbfpaa.zranks
namespace Go.Proofs.Ytaephdjmpmbfpaa
theorem lozengeRanks_holds : Rows.LozengeRanksSaid := zranks.over
end Go.Proofs.Ytaephdjmpmbfpaa
