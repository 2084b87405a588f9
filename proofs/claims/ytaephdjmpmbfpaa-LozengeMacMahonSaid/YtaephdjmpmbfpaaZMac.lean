/- LozengeMacMahon: Count, Paths and the sum of Volumes are MacMahon's product; Volumes reads the same backwards; Count does not depend on the order of the measures. For every input the law returns true, and its arguments read as they did. -/
import Derived.Test.YtaephdjmpmbfpaaM1
import Derived.Test.YtaephdjmpmbfpaaOpens
set_option linter.all false
namespace Go.Proofs.Ytaephdjmpmbfpaa.zlozengemacmahon
open Go.Proofs.Ytaephdjmpmbfpaa Go.ChangeShapes Go.WideShapes Go.ChangeAt Go.RowKit Go.Lf

set_option maxRecDepth 100000 in
theorem lifted (os : Os) (started : os.Started) (H : Type) (enc : TypeId × Value → H) :
    ReturnsInHanded {} Try.checked os 7 .any (Rows.lozengeMacMahonSpec.pre6 enc Try.prog Try.f7 Rows.lozengeMacMahonRow.domain false) (Rows.lozengeMacMahonSpec.post enc Try.prog Try.f7 false true false false) := by
  refine law_lifted started rfl (by kernel_rfl) Try.func7 (by kernel_rfl) (by kernel_rfl) (fun ds h => ?_)
    (ChangeSpec.witness6 (enc := enc) (C := Try.checked) false ⟨#[], #[.int .u8 0, .int .u8 0, .int .u8 0], []⟩ 8 (by kernel_rfl) (by kernel_rfl) (by kernel_rfl) (by kernel_rfl)) ?_
  · have hn : ds.length = 3 := h.trans (by kernel_rfl)
    match ds, hn with
    | [d1, d2, d3], _ => exact ⟨rfl, rfl, rfl⟩
  · intro W base args ds p hval hA
    have hps : Try.f7.params.toList = [5, 5, 5] := by kernel_rfl
    have hpa : Try.f7.params = #[5, 5, 5] := by kernel_rfl
    rw [hps] at hA
    rw [hpa] at hval
    obtain ⟨v0, vs0, d0, ds0, p0, q0, hargs, rfl, rfl, h0, r0⟩ := trodAll_cons hA
    obtain ⟨v1, vs1, d1, ds1, p1, q1, rfl, rfl, rfl, h1, r1⟩ := trodAll_cons r0
    obtain ⟨v2, vs2, d2, ds2, p2, q2, rfl, rfl, rfl, h2, r2⟩ := trodAll_cons r1
    obtain ⟨rfl, rfl, rfl⟩ := trodAll_nil r2
    obtain rfl : args = #[v0, v1, v2] := by cases args; simp_all
    obtain ⟨n0, rfl, rfl, rfl, w0⟩ := open_int und5 (hval 0 5 v0 rfl rfl) h0
    obtain ⟨k0, rfl, l0⟩ := wf_u8 w0
    obtain ⟨n1, rfl, rfl, rfl, w1⟩ := open_int und5 (hval 1 5 v1 rfl rfl) h1
    obtain ⟨k1, rfl, l1⟩ := wf_u8 w1
    obtain ⟨n2, rfl, rfl, rfl, w2⟩ := open_int und5 (hval 2 5 v2 rfl rfl) h2
    obtain ⟨k2, rfl, l2⟩ := wf_u8 w2
    exact mac_calls k0 k1 k2 W l0 l1 l2

theorem over : Rows.lozengeMacMahonRow.holds Try.pinned (OpenSpec.ofChange Rows.lozengeMacMahonSpec) :=
  OpenClaim.holds_of_wide 7 Try.f7 rfl rfl rfl rfl rfl rfl rfl ⟨rfl, rfl, rfl, rfl, rfl⟩ rfl rfl rfl rfl rfl (by kernel_rfl) Try.func7 (by kernel_rfl)
    (of_decide_eq_true (by kernel_rfl)) (by unfold Func.isWrapper; first | (rw [if_pos (by decide +kernel)]; kernel_rfl) | (rw [if_neg (by decide +kernel)]; exact ⟨rfl, rfl⟩))
    (fun os started H enc _ => lifted os started H enc)

end Go.Proofs.Ytaephdjmpmbfpaa.zlozengemacmahon
namespace Go.Proofs.Ytaephdjmpmbfpaa
theorem lozengeMacMahon_holds : Rows.LozengeMacMahonSaid := zlozengemacmahon.over
end Go.Proofs.Ytaephdjmpmbfpaa
