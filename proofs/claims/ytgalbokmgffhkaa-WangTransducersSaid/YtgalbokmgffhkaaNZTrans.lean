/- WangTransducers: The Rows of a Product are the Rows of the second set of all Rows of the first one, and the boards of two rows are counted by the lists of Souths between them. For every input the law returns true, and its arguments read as they did. -/
import Derived.Test.YtgalbokmgffhkaaN22
import Derived.Test.YtgalbokmgffhkaaN17
import Derived.Test.YtgalbokmgffhkaaN23
set_option linter.all false
namespace Go.Proofs.Ytgalbokmgffhkaa.zwangtransducers
open Go.Proofs.Ytgalbokmgffhkaa Go.ChangeShapes Go.WideShapes Go.ChangeAt Go.RowKit Go.Lf

set_option maxRecDepth 100000 in
theorem lifted (os : Os) (started : os.Started) (H : Type) (enc : TypeId × Value → H) :
    ReturnsInHanded {} Try.checked os 16 .any (Rows.wangTransducersSpec.pre6 enc Try.prog Try.f16 Rows.wangTransducersRow.domain false) (Rows.wangTransducersSpec.post enc Try.prog Try.f16 false true false false) := by
  refine law_lifted started rfl (by kernel_rfl) Try.func16 (by kernel_rfl) (by kernel_rfl) (fun ds h => ?_)
    (ChangeSpec.witness6 (enc := enc) (C := Try.checked) false ⟨#[], #[.slice none 0 0, .slice none 0 0, .slice none 0 0], []⟩ 8 (by kernel_rfl) (by kernel_rfl) (by kernel_rfl) (by kernel_rfl)) ?_
  · have hn : ds.length = 3 := h.trans (by kernel_rfl)
    match ds, hn with
    | [d1, d2, d3], _ => exact ⟨rfl, rfl, rfl⟩
  · intro W base args ds p hval hA
    have hps : Try.f16.params.toList = [22, 22, 30] := by kernel_rfl
    have hpa : Try.f16.params = #[22, 22, 30] := by kernel_rfl
    rw [hps] at hA
    rw [hpa] at hval
    obtain ⟨v0, vs0, d0, ds0, p0, q0, hargs, rfl, rfl, h0, r0⟩ := trodAll_cons hA
    obtain ⟨v1, vs1, d1, ds1, p1, q1, rfl, rfl, rfl, h1, r1⟩ := trodAll_cons r0
    obtain ⟨v2, vs2, d2, ds2, p2, q2, rfl, rfl, rfl, h2, r2⟩ := trodAll_cons r1
    obtain ⟨rfl, rfl, rfl⟩ := trodAll_nil r2
    obtain rfl : args = #[v0, v1, v2] := by cases args; simp_all
    obtain ⟨k0, l0⟩ := open_set (hval 0 22 v0 rfl rfl) h0
    obtain ⟨k1, l1⟩ := open_set (hval 1 22 v1 rfl rfl) h1
    obtain ⟨k2, l2⟩ := open_intsI (hval 2 30 v2 rfl rfl) h2
    exact trans_calls W l0 l1 l2

theorem over : Rows.wangTransducersRow.holds Try.pinned (OpenSpec.ofChange Rows.wangTransducersSpec) :=
  OpenClaim.holds_of_wide 16 Try.f16 rfl rfl rfl rfl rfl rfl rfl ⟨rfl, rfl, rfl, rfl, rfl⟩ rfl rfl rfl rfl rfl (by kernel_rfl) Try.func16 (by kernel_rfl)
    (of_decide_eq_true (by kernel_rfl)) (by unfold Func.isWrapper; first | (rw [if_pos (by decide +kernel)]; kernel_rfl) | (rw [if_neg (by decide +kernel)]; exact ⟨rfl, rfl⟩))
    (fun os started H enc _ => lifted os started H enc)

end Go.Proofs.Ytgalbokmgffhkaa.zwangtransducers
namespace Go.Proofs.Ytgalbokmgffhkaa
theorem wangTransducers_holds : Rows.WangTransducersSaid := zwangtransducers.over
end Go.Proofs.Ytgalbokmgffhkaa
