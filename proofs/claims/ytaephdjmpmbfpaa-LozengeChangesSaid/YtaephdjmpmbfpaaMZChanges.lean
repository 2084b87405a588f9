/- LozengeChanges: Complement, Transpose, Turn, Corners and Floor return the results and errors of the specification for all boxes and heaps, and change no argument. For every input the law returns true, and its arguments read as they did. -/
import Derived.Test.YtaephdjmpmbfpaaM21
import Derived.Test.YtaephdjmpmbfpaaM20
set_option linter.all false
namespace Go.Proofs.Ytaephdjmpmbfpaa.zlozengechanges
open Go.Proofs.Ytaephdjmpmbfpaa Go.ChangeShapes Go.WideShapes Go.ChangeAt Go.RowKit Go.Lf

set_option maxRecDepth 100000 in
theorem lifted (os : Os) (started : os.Started) (H : Type) (enc : TypeId × Value → H) :
    ReturnsInHanded {} Try.checked os 11 .any (Rows.lozengeChangesSpec.pre6 enc Try.prog Try.f11 Rows.lozengeChangesRow.domain false) (Rows.lozengeChangesSpec.post enc Try.prog Try.f11 false true false false) := by
  refine law_lifted started rfl (by kernel_rfl) Try.func11 (by kernel_rfl) (by kernel_rfl) (fun ds h => ?_)
    (ChangeSpec.witness6 (enc := enc) (C := Try.checked) false ⟨#[], #[boxV 0 0 0, .slice none 0 0], []⟩ 8 (by kernel_rfl) (by kernel_rfl) (by kernel_rfl) (by kernel_rfl)) ?_
  · have hn : ds.length = 2 := h.trans (by kernel_rfl)
    match ds, hn with
    | [d1, d2], _ => exact ⟨rfl, rfl, rfl⟩
  · intro W base args ds p hval hA
    have hps : Try.f11.params.toList = [25, 26] := by kernel_rfl
    have hpa : Try.f11.params = #[25, 26] := by kernel_rfl
    rw [hps] at hA
    rw [hpa] at hval
    obtain ⟨v0, vs0, d0, ds0, p0, q0, hargs, rfl, rfl, h0, r0⟩ := trodAll_cons hA
    obtain ⟨v1, vs1, d1, ds1, p1, q1, rfl, rfl, rfl, h1, r1⟩ := trodAll_cons r0
    obtain ⟨rfl, rfl, rfl⟩ := trodAll_nil r1
    obtain rfl : args = #[v0, v1] := by cases args; simp_all
    obtain ⟨A0, B0, C0, rfl⟩ := open_box (hval 0 25 v0 rfl rfl) h0
    obtain ⟨k1, l1⟩ := open_rows (hval 1 26 v1 rfl rfl) h1
    exact changes_calls A0 B0 C0 v1 k1 W l1

theorem over : Rows.lozengeChangesRow.holds Try.pinned (OpenSpec.ofChange Rows.lozengeChangesSpec) :=
  OpenClaim.holds_of_wide 11 Try.f11 rfl rfl rfl rfl rfl rfl rfl ⟨rfl, rfl, rfl, rfl, rfl⟩ rfl rfl rfl rfl rfl (by kernel_rfl) Try.func11 (by kernel_rfl)
    (of_decide_eq_true (by kernel_rfl)) (by unfold Func.isWrapper; first | (rw [if_pos (by decide +kernel)]; kernel_rfl) | (rw [if_neg (by decide +kernel)]; exact ⟨rfl, rfl⟩))
    (fun os started H enc _ => lifted os started H enc)

end Go.Proofs.Ytaephdjmpmbfpaa.zlozengechanges
namespace Go.Proofs.Ytaephdjmpmbfpaa
theorem lozengeChanges_holds : Rows.LozengeChangesSaid := zlozengechanges.over
end Go.Proofs.Ytaephdjmpmbfpaa
