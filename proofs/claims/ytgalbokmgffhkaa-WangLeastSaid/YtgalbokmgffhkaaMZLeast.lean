/- WangLeast: Least returns the measures of the smallest closed board, or the error, of the specification. For every input the law returns true, and its arguments read as they did. -/
import Derived.Test.YtgalbokmgffhkaaM21
import Derived.Test.YtgalbokmgffhkaaM22
set_option linter.all false
namespace Go.Proofs.Ytgalbokmgffhkaa.zwangleast
open Go.Proofs.Ytgalbokmgffhkaa Go.ChangeShapes Go.WideShapes Go.ChangeAt Go.RowKit Go.Lf

set_option maxRecDepth 100000 in
theorem lifted (os : Os) (started : os.Started) (H : Type) (enc : TypeId × Value → H) :
    ReturnsInHanded {} Try.checked os 9 .any (Rows.wangLeastSpec.pre6 enc Try.prog Try.f9 Rows.wangLeastRow.domain false) (Rows.wangLeastSpec.post enc Try.prog Try.f9 false true false false) := by
  refine law_lifted started rfl (by kernel_rfl) Try.func9 (by kernel_rfl) (by kernel_rfl) (fun ds h => ?_)
    (ChangeSpec.witness6 (enc := enc) (C := Try.checked) false ⟨#[], #[.slice none 0 0], []⟩ 8 (by kernel_rfl) (by kernel_rfl) (by kernel_rfl) (by kernel_rfl)) ?_
  · have hn : ds.length = 1 := h.trans (by kernel_rfl)
    match ds, hn with
    | [d1], _ => exact ⟨rfl, rfl, rfl⟩
  · intro W base args ds p hval hA
    have hps : Try.f9.params.toList = [22] := by kernel_rfl
    have hpa : Try.f9.params = #[22] := by kernel_rfl
    rw [hps] at hA
    rw [hpa] at hval
    obtain ⟨v0, vs0, d0, ds0, p0, q0, hargs, rfl, rfl, h0, r0⟩ := trodAll_cons hA
    obtain ⟨rfl, rfl, rfl⟩ := trodAll_nil r0
    obtain rfl : args = #[v0] := by cases args; simp_all
    obtain ⟨k0, l0⟩ := open_set (hval 0 22 v0 rfl rfl) h0
    exact leasts_calls W l0

theorem over : Rows.wangLeastRow.holds Try.pinned (OpenSpec.ofChange Rows.wangLeastSpec) :=
  OpenClaim.holds_of_wide 9 Try.f9 rfl rfl rfl rfl rfl rfl rfl ⟨rfl, rfl, rfl, rfl, rfl⟩ rfl rfl rfl rfl rfl (by kernel_rfl) Try.func9 (by kernel_rfl)
    (of_decide_eq_true (by kernel_rfl)) (by unfold Func.isWrapper; first | (rw [if_pos (by decide +kernel)]; kernel_rfl) | (rw [if_neg (by decide +kernel)]; exact ⟨rfl, rfl⟩))
    (fun os started H enc _ => lifted os started H enc)

end Go.Proofs.Ytgalbokmgffhkaa.zwangleast
namespace Go.Proofs.Ytgalbokmgffhkaa
theorem wangLeast_holds : Rows.WangLeastSaid := zwangleast.over
end Go.Proofs.Ytgalbokmgffhkaa
