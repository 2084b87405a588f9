/- LozengeCounts: Count, Paths and Volumes return the numbers and errors of the specification for all boxes. For every input the law returns true, and its argument reads as it did. -/
import Derived.Test.YtaephdjmpmbfpaaV3
import Derived.Test.YtaephdjmpmbfpaaOpens
set_option linter.all false
namespace Go.Proofs.Ytaephdjmpmbfpaa.zcounts
open Go.Proofs.Ytaephdjmpmbfpaa Go.ChangeShapes Go.WideShapes Go.ChangeAt Go.RowKit Go.Lf

set_option maxRecDepth 100000 in
theorem lifted (os : Os) (started : os.Started) (H : Type) (enc : TypeId × Value → H) :
    ReturnsInHanded {} Try.checked os 5 .any (Rows.lozengeCountsSpec.pre6 enc Try.prog Try.f5 Rows.lozengeCountsRow.domain false) (Rows.lozengeCountsSpec.post enc Try.prog Try.f5 false true false false) := by
  refine law_lifted started rfl (by kernel_rfl) Try.func5 (by kernel_rfl) (by kernel_rfl) (fun ds h => ?_)
    (ChangeSpec.witness6 (enc := enc) (C := Try.checked) false ⟨#[], #[boxV 0 0 0], []⟩ 8 (by kernel_rfl) (by kernel_rfl) (by kernel_rfl) (by kernel_rfl)) ?_
  · have h1 : ds.length = 1 := h.trans (by kernel_rfl)
    match ds, h1 with
    | [d1], _ => exact ⟨rfl, rfl, rfl⟩
  · intro W base args ds p hval hA
    have hps : Try.f5.params.toList = [25] := by kernel_rfl
    have hpa : Try.f5.params = #[25] := by kernel_rfl
    rw [hps] at hA
    rw [hpa] at hval
    obtain ⟨v0, vs0, d0, ds0, p0, q0, hargs, rfl, rfl, h0, r0⟩ := trodAll_cons hA
    obtain ⟨rfl, rfl, rfl⟩ := trodAll_nil r0
    obtain rfl : args = #[v0] := by cases args; simp_all
    obtain ⟨A, B, C, rfl⟩ := open_box (hval 0 25 v0 rfl rfl) h0
    exact counts_calls A B C W

theorem over : Rows.lozengeCountsRow.holds Try.pinned (OpenSpec.ofChange Rows.lozengeCountsSpec) :=
  OpenClaim.holds_of_wide 5 Try.f5 rfl rfl rfl rfl rfl rfl rfl ⟨rfl, rfl, rfl, rfl, rfl⟩ rfl rfl rfl rfl rfl (by kernel_rfl) Try.func5 (by kernel_rfl)
    (of_decide_eq_true (by kernel_rfl)) (by unfold Func.isWrapper; first | (rw [if_pos (by decide +kernel)]; kernel_rfl) | (rw [if_neg (by decide +kernel)]; exact ⟨rfl, rfl⟩))
    (fun os started H enc _ => lifted os started H enc)

end Go.Proofs.Ytaephdjmpmbfpaa.zcounts
namespace Go.Proofs.Ytaephdjmpmbfpaa
theorem lozengeCounts_holds : Rows.LozengeCountsSaid := zcounts.over
end Go.Proofs.Ytaephdjmpmbfpaa
