/- WangProducts: Product returns the set, or the error, of the specification for all pairs of sets. For every input the law returns true, and its arguments read as they did. -/
import Derived.Test.YtgalbokmgffhkaaH7
import Derived.Test.YtgalbokmgffhkaaOpens
set_option linter.all false
namespace Go.Proofs.Ytgalbokmgffhkaa.zwangproducts
open Go.Proofs.Ytgalbokmgffhkaa Go.ChangeShapes Go.WideShapes Go.ChangeAt Go.RowKit Go.Lf

set_option maxRecDepth 100000 in
theorem lifted (os : Os) (started : os.Started) (H : Type) (enc : TypeId × Value → H) :
    ReturnsInHanded {} Try.checked os 15 .any (Rows.wangProductsSpec.pre6 enc Try.prog Try.f15 Rows.wangProductsRow.domain false) (Rows.wangProductsSpec.post enc Try.prog Try.f15 false true false false) := by
  refine law_lifted started rfl (by kernel_rfl) Try.func15 (by kernel_rfl) (by kernel_rfl) (fun ds h => ?_)
    (ChangeSpec.witness6 (enc := enc) (C := Try.checked) false ⟨#[], #[.slice none 0 0, .slice none 0 0], []⟩ 8 (by kernel_rfl) (by kernel_rfl) (by kernel_rfl) (by kernel_rfl)) ?_
  · have hn : ds.length = 2 := h.trans (by kernel_rfl)
    match ds, hn with
    | [d1, d2], _ => exact ⟨rfl, rfl, rfl⟩
  · intro W base args ds p hval hA
    have hps : Try.f15.params.toList = [22, 22] := by kernel_rfl
    have hpa : Try.f15.params = #[22, 22] := by kernel_rfl
    rw [hps] at hA
    rw [hpa] at hval
    obtain ⟨v0, vs0, d0, ds0, p0, q0, hargs, rfl, rfl, h0, r0⟩ := trodAll_cons hA
    obtain ⟨v1, vs1, d1, ds1, p1, q1, rfl, rfl, rfl, h1, r1⟩ := trodAll_cons r0
    obtain ⟨rfl, rfl, rfl⟩ := trodAll_nil r1
    obtain rfl : args = #[v0, v1] := by cases args; simp_all
    obtain ⟨k0, l0⟩ := open_set (hval 0 22 v0 rfl rfl) h0
    obtain ⟨k1, l1⟩ := open_set (hval 1 22 v1 rfl rfl) h1
    exact products_calls W l0 l1

theorem over : Rows.wangProductsRow.holds Try.pinned (OpenSpec.ofChange Rows.wangProductsSpec) :=
  OpenClaim.holds_of_wide 15 Try.f15 rfl rfl rfl rfl rfl rfl rfl ⟨rfl, rfl, rfl, rfl, rfl⟩ rfl rfl rfl rfl rfl (by kernel_rfl) Try.func15 (by kernel_rfl)
    (of_decide_eq_true (by kernel_rfl)) (by unfold Func.isWrapper; first | (rw [if_pos (by decide +kernel)]; kernel_rfl) | (rw [if_neg (by decide +kernel)]; exact ⟨rfl, rfl⟩))
    (fun os started H enc _ => lifted os started H enc)

end Go.Proofs.Ytgalbokmgffhkaa.zwangproducts
namespace Go.Proofs.Ytgalbokmgffhkaa
theorem wangProducts_holds : Rows.WangProductsSaid := zwangproducts.over
end Go.Proofs.Ytgalbokmgffhkaa
