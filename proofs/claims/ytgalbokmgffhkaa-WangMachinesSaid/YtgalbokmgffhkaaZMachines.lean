/- WangMachines: Machine and Run return the tiles, the tape, the head, the state and the errors of the specification for all machines, tapes and numbers of steps. For every input the law returns true, and its arguments read as they did. -/
import Derived.Test.YtgalbokmgffhkaaD14
import Derived.Test.YtgalbokmgffhkaaOpens
import Derived.Test.YtgalbokmgffhkaaOpens2
set_option linter.all false
namespace Go.Proofs.Ytgalbokmgffhkaa.zwangmachines
open Go.Proofs.Ytgalbokmgffhkaa Go.ChangeShapes Go.WideShapes Go.ChangeAt Go.RowKit Go.Lf

set_option maxRecDepth 100000 in
theorem lifted (os : Os) (started : os.Started) (H : Type) (enc : TypeId × Value → H) :
    ReturnsInHanded {} Try.checked os 10 .any (Rows.wangMachinesSpec.pre6 enc Try.prog Try.f10 Rows.wangMachinesRow.domain false) (Rows.wangMachinesSpec.post enc Try.prog Try.f10 false true false false) := by
  refine law_lifted started rfl (by kernel_rfl) Try.func10 (by kernel_rfl) (by kernel_rfl) (fun ds h => ?_)
    (ChangeSpec.witness6 (enc := enc) (C := Try.checked) false ⟨#[], #[.agg #[.int .i64 0, .slice none 0 0], .slice none 0 0, .int .i64 0], []⟩ 8 (by kernel_rfl) (by kernel_rfl) (by kernel_rfl) (by kernel_rfl)) ?_
  · have hn : ds.length = 3 := h.trans (by kernel_rfl)
    match ds, hn with
    | [d1, d2, d3], _ => exact ⟨rfl, rfl, rfl⟩
  · intro W base args ds p hval hA
    have hps : Try.f10.params.toList = [51, 30, 3] := by kernel_rfl
    have hpa : Try.f10.params = #[51, 30, 3] := by kernel_rfl
    rw [hps] at hA
    rw [hpa] at hval
    obtain ⟨v0, vs0, d0, ds0, p0, q0, hargs, rfl, rfl, h0, r0⟩ := trodAll_cons hA
    obtain ⟨v1, vs1, d1, ds1, p1, q1, rfl, rfl, rfl, h1, r1⟩ := trodAll_cons r0
    obtain ⟨v2, vs2, d2, ds2, p2, q2, rfl, rfl, rfl, h2, r2⟩ := trodAll_cons r1
    obtain ⟨rfl, rfl, rfl⟩ := trodAll_nil r2
    obtain rfl : args = #[v0, v1, v2] := by cases args; simp_all
    obtain ⟨s0, u0, k0, rfl, l0⟩ := open_mac (hval 0 51 v0 rfl rfl) h0
    obtain ⟨k1, l1⟩ := open_intsI (hval 1 30 v1 rfl rfl) h1
    obtain ⟨n2, rfl, rfl, rfl, w2⟩ := open_int und3 (hval 2 3 v2 rfl rfl) h2
    have l2 := wf_i64 w2
    exact machines_calls W l0 l1

theorem over : Rows.wangMachinesRow.holds Try.pinned (OpenSpec.ofChange Rows.wangMachinesSpec) :=
  OpenClaim.holds_of_wide 10 Try.f10 rfl rfl rfl rfl rfl rfl rfl ⟨rfl, rfl, rfl, rfl, rfl⟩ rfl rfl rfl rfl rfl (by kernel_rfl) Try.func10 (by kernel_rfl)
    (of_decide_eq_true (by kernel_rfl)) (by unfold Func.isWrapper; first | (rw [if_pos (by decide +kernel)]; kernel_rfl) | (rw [if_neg (by decide +kernel)]; exact ⟨rfl, rfl⟩))
    (fun os started H enc _ => lifted os started H enc)

end Go.Proofs.Ytgalbokmgffhkaa.zwangmachines
namespace Go.Proofs.Ytgalbokmgffhkaa
theorem wangMachines_holds : Rows.WangMachinesSaid := zwangmachines.over
end Go.Proofs.Ytgalbokmgffhkaa
