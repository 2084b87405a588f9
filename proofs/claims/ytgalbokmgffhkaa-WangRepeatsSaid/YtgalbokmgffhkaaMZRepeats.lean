/- WangRepeats: Where Least finds a closed board there are good boards of every size, and no closed board with fewer cells. For every input the law returns true, and its arguments read as they did. -/
import Derived.Test.YtgalbokmgffhkaaM24
import Derived.Test.YtgalbokmgffhkaaM22
set_option linter.all false
namespace Go.Proofs.Ytgalbokmgffhkaa.zwangrepeats
open Go.Proofs.Ytgalbokmgffhkaa Go.ChangeShapes Go.WideShapes Go.ChangeAt Go.RowKit Go.Lf

set_option maxRecDepth 100000 in
theorem lifted (os : Os) (started : os.Started) (H : Type) (enc : TypeId × Value → H) :
    ReturnsInHanded {} Try.checked os 12 .any (Rows.wangRepeatsSpec.pre6 enc Try.prog Try.f12 Rows.wangRepeatsRow.domain false) (Rows.wangRepeatsSpec.post enc Try.prog Try.f12 false true false false) := by
  refine law_lifted started rfl (by kernel_rfl) Try.func12 (by kernel_rfl) (by kernel_rfl) (fun ds h => ?_)
    (ChangeSpec.witness6 (enc := enc) (C := Try.checked) false ⟨#[], #[.slice none 0 0, .int .u8 0, .int .u8 0], []⟩ 8 (by kernel_rfl) (by kernel_rfl) (by kernel_rfl) (by kernel_rfl)) ?_
  · have hn : ds.length = 3 := h.trans (by kernel_rfl)
    match ds, hn with
    | [d1, d2, d3], _ => exact ⟨rfl, rfl, rfl⟩
  · intro W base args ds p hval hA
    have hps : Try.f12.params.toList = [22, 5, 5] := by kernel_rfl
    have hpa : Try.f12.params = #[22, 5, 5] := by kernel_rfl
    rw [hps] at hA
    rw [hpa] at hval
    obtain ⟨v0, vs0, d0, ds0, p0, q0, hargs, rfl, rfl, h0, r0⟩ := trodAll_cons hA
    obtain ⟨v1, vs1, d1, ds1, p1, q1, rfl, rfl, rfl, h1, r1⟩ := trodAll_cons r0
    obtain ⟨v2, vs2, d2, ds2, p2, q2, rfl, rfl, rfl, h2, r2⟩ := trodAll_cons r1
    obtain ⟨rfl, rfl, rfl⟩ := trodAll_nil r2
    obtain rfl : args = #[v0, v1, v2] := by cases args; simp_all
    obtain ⟨k0, l0⟩ := open_set (hval 0 22 v0 rfl rfl) h0
    obtain ⟨n1, rfl, rfl, rfl, w1⟩ := open_int und5 (hval 1 5 v1 rfl rfl) h1
    obtain ⟨k1, rfl, l1⟩ := wf_u8 w1
    obtain ⟨n2, rfl, rfl, rfl, w2⟩ := open_int und5 (hval 2 5 v2 rfl rfl) h2
    obtain ⟨k2, rfl, l2⟩ := wf_u8 w2
    exact repeats_calls k1 k2 W l0

theorem over : Rows.wangRepeatsRow.holds Try.pinned (OpenSpec.ofChange Rows.wangRepeatsSpec) :=
  OpenClaim.holds_of_wide 12 Try.f12 rfl rfl rfl rfl rfl rfl rfl ⟨rfl, rfl, rfl, rfl, rfl⟩ rfl rfl rfl rfl rfl (by kernel_rfl) Try.func12 (by kernel_rfl)
    (of_decide_eq_true (by kernel_rfl)) (by unfold Func.isWrapper; first | (rw [if_pos (by decide +kernel)]; kernel_rfl) | (rw [if_neg (by decide +kernel)]; exact ⟨rfl, rfl⟩))
    (fun os started H enc _ => lifted os started H enc)

end Go.Proofs.Ytgalbokmgffhkaa.zwangrepeats
namespace Go.Proofs.Ytgalbokmgffhkaa
theorem wangRepeats_holds : Rows.WangRepeatsSaid := zwangrepeats.over
end Go.Proofs.Ytgalbokmgffhkaa
