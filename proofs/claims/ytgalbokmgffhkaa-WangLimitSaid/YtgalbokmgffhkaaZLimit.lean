/- WangLimit: Refutes returns ErrLimit for more lists than there may be, and judges as many. For every input the law returns true, and its arguments read as they did. -/
import Derived.Test.YtgalbokmgffhkaaC1
import Derived.Test.YtgalbokmgffhkaaSaid
set_option linter.all false
namespace Go.Proofs.Ytgalbokmgffhkaa.zwanglimit
open Go.Proofs.Ytgalbokmgffhkaa Go.ChangeShapes Go.WideShapes Go.ChangeAt Go.RowKit Go.Lf

set_option maxRecDepth 100000 in
theorem lifted (os : Os) (started : os.Started) (H : Type) (enc : TypeId × Value → H) :
    ReturnsInHanded {} Try.checked os 4 .any (Rows.wangLimitSpec.pre6 enc Try.prog Try.f4 Rows.wangLimitRow.domain false) (Rows.wangLimitSpec.post enc Try.prog Try.f4 false true false false) := by
  refine law_lifted started rfl (by kernel_rfl) Try.func4 (by kernel_rfl) (by kernel_rfl) (fun ds h => ?_)
    (ChangeSpec.witness6 (enc := enc) (C := Try.checked) false ⟨#[], #[.bool false], []⟩ 8 (by kernel_rfl) (by kernel_rfl) (by kernel_rfl) (by kernel_rfl)) ?_
  · have hn : ds.length = 1 := h.trans (by kernel_rfl)
    match ds, hn with
    | [d1], _ => exact ⟨rfl, rfl, rfl⟩
  · intro W base args ds p hval hA
    have hps : Try.f4.params.toList = [4] := by kernel_rfl
    have hpa : Try.f4.params = #[4] := by kernel_rfl
    rw [hps] at hA
    rw [hpa] at hval
    obtain ⟨v0, vs0, d0, ds0, p0, q0, hargs, rfl, rfl, h0, r0⟩ := trodAll_cons hA
    obtain ⟨rfl, rfl, rfl⟩ := trodAll_nil r0
    obtain rfl : args = #[v0] := by cases args; simp_all
    obtain ⟨b0, rfl, _⟩ := open_bool und4 (hval 0 4 v0 rfl rfl) h0
    exact limit_calls b0 W

theorem over : Rows.wangLimitRow.holds Try.pinned (OpenSpec.ofChange Rows.wangLimitSpec) :=
  OpenClaim.holds_of_wide 4 Try.f4 rfl rfl rfl rfl rfl rfl rfl ⟨rfl, rfl, rfl, rfl, rfl⟩ rfl rfl rfl rfl rfl (by kernel_rfl) Try.func4 (by kernel_rfl)
    (of_decide_eq_true (by kernel_rfl)) (by unfold Func.isWrapper; first | (rw [if_pos (by decide +kernel)]; kernel_rfl) | (rw [if_neg (by decide +kernel)]; exact ⟨rfl, rfl⟩))
    (fun os started H enc _ => lifted os started H enc)

end Go.Proofs.Ytgalbokmgffhkaa.zwanglimit
namespace Go.Proofs.Ytgalbokmgffhkaa
theorem wangLimit_holds : Rows.WangLimitSaid := zwanglimit.over
end Go.Proofs.Ytgalbokmgffhkaa
