/- WangComputes: Under a tape with a head on it, with nothing coming over the border, there is just one row of a machine's tiles, and its Souths are the tape after the machine's step; there is none if the machine halts or leaves the tape. For every input the law returns true, and its arguments read as they did. -/
import Derived.Test.YtgalbokmgffhkaaM25
import Derived.Test.YtgalbokmgffhkaaM08
set_option linter.all false
namespace Go.Proofs.Ytgalbokmgffhkaa.zwangcomputes
open Go.Proofs.Ytgalbokmgffhkaa Go.ChangeShapes Go.WideShapes Go.ChangeAt Go.RowKit Go.Lf

set_option maxRecDepth 100000 in
theorem lifted (os : Os) (started : os.Started) (H : Type) (enc : TypeId × Value → H) :
    ReturnsInHanded {} Try.checked os 11 .any (Rows.wangComputesSpec.pre6 enc Try.prog Try.f11 Rows.wangComputesRow.domain false) (Rows.wangComputesSpec.post enc Try.prog Try.f11 false true false false) := by
  refine law_lifted started rfl (by kernel_rfl) Try.func11 (by kernel_rfl) (by kernel_rfl) (fun ds h => ?_)
    (ChangeSpec.witness6 (enc := enc) (C := Try.checked) false ⟨#[], #[.agg #[.int .i64 0, .slice none 0 0], .slice none 0 0], []⟩ 8 (by kernel_rfl) (by kernel_rfl) (by kernel_rfl) (by kernel_rfl)) ?_
  · have hn : ds.length = 2 := h.trans (by kernel_rfl)
    match ds, hn with
    | [d1, d2], _ => exact ⟨rfl, rfl, rfl⟩
  · intro W base args ds p hval hA
    have hps : Try.f11.params.toList = [51, 30] := by kernel_rfl
    have hpa : Try.f11.params = #[51, 30] := by kernel_rfl
    rw [hps] at hA
    rw [hpa] at hval
    obtain ⟨v0, vs0, d0, ds0, p0, q0, hargs, rfl, rfl, h0, r0⟩ := trodAll_cons hA
    obtain ⟨v1, vs1, d1, ds1, p1, q1, rfl, rfl, rfl, h1, r1⟩ := trodAll_cons r0
    obtain ⟨rfl, rfl, rfl⟩ := trodAll_nil r1
    obtain rfl : args = #[v0, v1] := by cases args; simp_all
    obtain ⟨s0, u0, k0, rfl, l0⟩ := open_mac (hval 0 51 v0 rfl rfl) h0
    obtain ⟨k1, l1⟩ := open_intsI (hval 1 30 v1 rfl rfl) h1
    exact computes_calls W l0 l1

theorem over : Rows.wangComputesRow.holds Try.pinned (OpenSpec.ofChange Rows.wangComputesSpec) :=
  OpenClaim.holds_of_wide 11 Try.f11 rfl rfl rfl rfl rfl rfl rfl ⟨rfl, rfl, rfl, rfl, rfl⟩ rfl rfl rfl rfl rfl (by kernel_rfl) Try.func11 (by kernel_rfl)
    (of_decide_eq_true (by kernel_rfl)) (by unfold Func.isWrapper; first | (rw [if_pos (by decide +kernel)]; kernel_rfl) | (rw [if_neg (by decide +kernel)]; exact ⟨rfl, rfl⟩))
    (fun os started H enc _ => lifted os started H enc)

end Go.Proofs.Ytgalbokmgffhkaa.zwangcomputes
namespace Go.Proofs.Ytgalbokmgffhkaa
theorem wangComputes_holds : Rows.WangComputesSaid := zwangcomputes.over
end Go.Proofs.Ytgalbokmgffhkaa
