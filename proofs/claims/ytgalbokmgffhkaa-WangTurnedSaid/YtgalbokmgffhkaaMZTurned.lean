/- WangTurned: Count is the same for the set turned by 90 degrees, with width and height exchanged, and for the set mirrored; Closed is at most Count; Fill has a good board exactly if there is one. For every input the law returns true, and its arguments read as they did. -/
import Derived.Test.YtgalbokmgffhkaaM23
import Derived.Test.YtgalbokmgffhkaaM18
set_option linter.all false
namespace Go.Proofs.Ytgalbokmgffhkaa.zwangturned
open Go.Proofs.Ytgalbokmgffhkaa Go.ChangeShapes Go.WideShapes Go.ChangeAt Go.RowKit Go.Lf

set_option maxRecDepth 100000 in
theorem lifted (os : Os) (started : os.Started) (H : Type) (enc : TypeId × Value → H) :
    ReturnsInHanded {} Try.checked os 13 .any (Rows.wangTurnedSpec.pre6 enc Try.prog Try.f13 Rows.wangTurnedRow.domain false) (Rows.wangTurnedSpec.post enc Try.prog Try.f13 false true false false) := by
  refine law_lifted started rfl (by kernel_rfl) Try.func13 (by kernel_rfl) (by kernel_rfl) (fun ds h => ?_)
    (ChangeSpec.witness6 (enc := enc) (C := Try.checked) false ⟨#[], #[.slice none 0 0, .int .i64 0, .int .i64 0], []⟩ 8 (by kernel_rfl) (by kernel_rfl) (by kernel_rfl) (by kernel_rfl)) ?_
  · have hn : ds.length = 3 := h.trans (by kernel_rfl)
    match ds, hn with
    | [d1, d2, d3], _ => exact ⟨rfl, rfl, rfl⟩
  · intro W base args ds p hval hA
    have hps : Try.f13.params.toList = [22, 3, 3] := by kernel_rfl
    have hpa : Try.f13.params = #[22, 3, 3] := by kernel_rfl
    rw [hps] at hA
    rw [hpa] at hval
    obtain ⟨v0, vs0, d0, ds0, p0, q0, hargs, rfl, rfl, h0, r0⟩ := trodAll_cons hA
    obtain ⟨v1, vs1, d1, ds1, p1, q1, rfl, rfl, rfl, h1, r1⟩ := trodAll_cons r0
    obtain ⟨v2, vs2, d2, ds2, p2, q2, rfl, rfl, rfl, h2, r2⟩ := trodAll_cons r1
    obtain ⟨rfl, rfl, rfl⟩ := trodAll_nil r2
    obtain rfl : args = #[v0, v1, v2] := by cases args; simp_all
    obtain ⟨k0, l0⟩ := open_set (hval 0 22 v0 rfl rfl) h0
    obtain ⟨n1, rfl, rfl, rfl, w1⟩ := open_int und3 (hval 1 3 v1 rfl rfl) h1
    have l1 := wf_i64 w1
    obtain ⟨n2, rfl, rfl, rfl, w2⟩ := open_int und3 (hval 2 3 v2 rfl rfl) h2
    have l2 := wf_i64 w2
    exact turns_calls n1 n2 W l0

theorem over : Rows.wangTurnedRow.holds Try.pinned (OpenSpec.ofChange Rows.wangTurnedSpec) :=
  OpenClaim.holds_of_wide 13 Try.f13 rfl rfl rfl rfl rfl rfl rfl ⟨rfl, rfl, rfl, rfl, rfl⟩ rfl rfl rfl rfl rfl (by kernel_rfl) Try.func13 (by kernel_rfl)
    (of_decide_eq_true (by kernel_rfl)) (by unfold Func.isWrapper; first | (rw [if_pos (by decide +kernel)]; kernel_rfl) | (rw [if_neg (by decide +kernel)]; exact ⟨rfl, rfl⟩))
    (fun os started H enc _ => lifted os started H enc)

end Go.Proofs.Ytgalbokmgffhkaa.zwangturned
namespace Go.Proofs.Ytgalbokmgffhkaa
theorem wangTurned_holds : Rows.WangTurnedSaid := zwangturned.over
end Go.Proofs.Ytgalbokmgffhkaa
