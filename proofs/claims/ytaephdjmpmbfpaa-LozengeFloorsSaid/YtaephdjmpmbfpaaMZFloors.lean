/- LozengeFloors: Two heaps have the same floor only if they are the same, a floor has as many lozenges of each kind as the box says, all different, and a cube more changes three of them. For every input the law returns true, and its arguments read as they did. -/
import Derived.Test.YtaephdjmpmbfpaaM22
import Derived.Test.YtaephdjmpmbfpaaM20
set_option linter.all false
namespace Go.Proofs.Ytaephdjmpmbfpaa.zlozengefloors
open Go.Proofs.Ytaephdjmpmbfpaa Go.ChangeShapes Go.WideShapes Go.ChangeAt Go.RowKit Go.Lf

theorem und22 : Try.prog.underlying 22 = some (.int .u32) := by kernel_rfl

set_option maxRecDepth 100000 in
theorem lifted (os : Os) (started : os.Started) (H : Type) (enc : TypeId × Value → H) :
    ReturnsInHanded {} Try.checked os 10 .any (Rows.lozengeFloorsSpec.pre6 enc Try.prog Try.f10 Rows.lozengeFloorsRow.domain false) (Rows.lozengeFloorsSpec.post enc Try.prog Try.f10 false true false false) := by
  refine law_lifted started rfl (by kernel_rfl) Try.func10 (by kernel_rfl) (by kernel_rfl) (fun ds h => ?_)
    (ChangeSpec.witness6 (enc := enc) (C := Try.checked) false ⟨#[], #[.int .u8 0, .int .u8 0, .int .u8 0, .int .u32 0, .int .u32 0], []⟩ 8 (by kernel_rfl) (by kernel_rfl) (by kernel_rfl) (by kernel_rfl)) ?_
  · have hn : ds.length = 5 := h.trans (by kernel_rfl)
    match ds, hn with
    | [d1, d2, d3, d4, d5], _ => exact ⟨rfl, rfl, rfl⟩
  · intro W base args ds p hval hA
    have hps : Try.f10.params.toList = [5, 5, 5, 22, 22] := by kernel_rfl
    have hpa : Try.f10.params = #[5, 5, 5, 22, 22] := by kernel_rfl
    rw [hps] at hA
    rw [hpa] at hval
    obtain ⟨v0, vs0, d0, ds0, p0, q0, hargs, rfl, rfl, h0, r0⟩ := trodAll_cons hA
    obtain ⟨v1, vs1, d1, ds1, p1, q1, rfl, rfl, rfl, h1, r1⟩ := trodAll_cons r0
    obtain ⟨v2, vs2, d2, ds2, p2, q2, rfl, rfl, rfl, h2, r2⟩ := trodAll_cons r1
    obtain ⟨v3, vs3, d3, ds3, p3, q3, rfl, rfl, rfl, h3, r3⟩ := trodAll_cons r2
    obtain ⟨v4, vs4, d4, ds4, p4, q4, rfl, rfl, rfl, h4, r4⟩ := trodAll_cons r3
    obtain ⟨rfl, rfl, rfl⟩ := trodAll_nil r4
    obtain rfl : args = #[v0, v1, v2, v3, v4] := by cases args; simp_all
    obtain ⟨n0, rfl, rfl, rfl, w0⟩ := open_int und5 (hval 0 5 v0 rfl rfl) h0
    obtain ⟨k0, rfl, l0⟩ := wf_u8 w0
    obtain ⟨n1, rfl, rfl, rfl, w1⟩ := open_int und5 (hval 1 5 v1 rfl rfl) h1
    obtain ⟨k1, rfl, l1⟩ := wf_u8 w1
    obtain ⟨n2, rfl, rfl, rfl, w2⟩ := open_int und5 (hval 2 5 v2 rfl rfl) h2
    obtain ⟨k2, rfl, l2⟩ := wf_u8 w2
    obtain ⟨n3, rfl, rfl, rfl, w3⟩ := open_int und22 (hval 3 22 v3 rfl rfl) h3
    obtain ⟨k3, rfl, l3⟩ := wf_u32 w3
    obtain ⟨n4, rfl, rfl, rfl, w4⟩ := open_int und22 (hval 4 22 v4 rfl rfl) h4
    obtain ⟨k4, rfl, l4⟩ := wf_u32 w4
    exact lfloors_calls k0 k1 k2 k3 k4 W l0 l1 l2 l3 l4

theorem over : Rows.lozengeFloorsRow.holds Try.pinned (OpenSpec.ofChange Rows.lozengeFloorsSpec) :=
  OpenClaim.holds_of_wide 10 Try.f10 rfl rfl rfl rfl rfl rfl rfl ⟨rfl, rfl, rfl, rfl, rfl⟩ rfl rfl rfl rfl rfl (by kernel_rfl) Try.func10 (by kernel_rfl)
    (of_decide_eq_true (by kernel_rfl)) (by unfold Func.isWrapper; first | (rw [if_pos (by decide +kernel)]; kernel_rfl) | (rw [if_neg (by decide +kernel)]; exact ⟨rfl, rfl⟩))
    (fun os started H enc _ => lifted os started H enc)

end Go.Proofs.Ytaephdjmpmbfpaa.zlozengefloors
namespace Go.Proofs.Ytaephdjmpmbfpaa
theorem lozengeFloors_holds : Rows.LozengeFloorsSaid := zlozengefloors.over
end Go.Proofs.Ytaephdjmpmbfpaa
