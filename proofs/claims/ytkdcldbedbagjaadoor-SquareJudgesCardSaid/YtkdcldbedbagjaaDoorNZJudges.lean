/- SquareJudges: Is and Network return the results and errors of the specification. For every input the law returns true, and its arguments read as they did. -/
import Derived.Test.YtkdcldbedbagjaaDoorN20
import Derived.Test.YtkdcldbedbagjaaDoorN21
import Derived.Test.YtkdcldbedbagjaaDoorCards
import Derived.Test.YtkdcldbedbagjaaDoorTie
import Derived.SevenTiedAt
set_option linter.all false
namespace Go.Proofs.YtkdcldbedbagjaaDoor.zsquarejudges
open Go.Proofs.YtkdcldbedbagjaaDoor Go.ChangeShapes Go.WideShapes Go.ChangeAt Go.RowKit Go.Lf

set_option maxRecDepth 100000 in
theorem lifted (os : Os) (started : os.Started) (H : Type) (enc : TypeId × Value → H) :
    ReturnsInHanded {} Tryd.checked os 3 .any (fun w args => (Rows.squareJudgesSpec.pre enc Tryd.prog Tryd.f3 [] false w args ∧ laidMetH Tryd.prog laid1 w) ∧ sizedMet enc Tryd.prog Tryd.f3 (OpenSpec.ofChange Rows.squareJudgesSpec) false w args) (Rows.squareJudgesSpec.post enc Tryd.prog Tryd.f3 false true false false) := by
  refine law_lifted started rfl (by kernel_rfl) Tryd.func3 (by kernel_rfl) (by kernel_rfl) (fun ds h => ?_)
    (ChangeSpec.witness_shaped (enc := enc) (C := Tryd.checked) (os := os) (X := fun w _ => laidMetH Tryd.prog laid1 w) false (World.doorLaid Tryd.prog 14 os) #[.int .i64 0, .int .i64 0, .slice none 0 0] 8 rfl (World.shaped_of_RefB (by kernel_rfl) (by kernel_rfl)) (by kernel_rfl) (by kernel_rfl) (by kernel_rfl) (door_met os _)) ?_
  · have hn : ds.length = 3 := h.trans (by kernel_rfl)
    match ds, hn with
    | [d1, d2, d3], _ => exact ⟨rfl, rfl, rfl⟩
  · intro W base args ds p hWh hval hA
    have hps : Tryd.f3.params.toList = [3, 3, 22] := by kernel_rfl
    have hpa : Tryd.f3.params = #[3, 3, 22] := by kernel_rfl
    rw [hps] at hA
    rw [hpa] at hval
    obtain ⟨v0, vs0, d0, ds0, p0, q0, hargs, rfl, rfl, h0, r0⟩ := trodAll_cons hA
    obtain ⟨v1, vs1, d1, ds1, p1, q1, rfl, rfl, rfl, h1, r1⟩ := trodAll_cons r0
    obtain ⟨v2, vs2, d2, ds2, p2, q2, rfl, rfl, rfl, h2, r2⟩ := trodAll_cons r1
    obtain ⟨rfl, rfl, rfl⟩ := trodAll_nil r2
    obtain rfl : args = #[v0, v1, v2] := by cases args; simp_all
    obtain ⟨n0, rfl, rfl, rfl, w0⟩ := open_int und3 (hval 0 3 v0 rfl rfl) h0
    have l0 := wf_i64 w0
    obtain ⟨n1, rfl, rfl, rfl, w1⟩ := open_int und3 (hval 1 3 v1 rfl rfl) h1
    have l1 := wf_i64 w1
    obtain ⟨k2, l2⟩ := open_squares (hval 2 22 v2 rfl rfl) h2
    exact law_judges n0 n1 W hWh l2

theorem over : Rows.squareJudgesRow.holds Tryd.pinned (OpenSpec.ofChange Rows.squareJudgesSpec) :=
  OpenClaim.holds_of_wide 3 Tryd.f3 rfl rfl rfl rfl rfl rfl rfl ⟨rfl, rfl, rfl, rfl, rfl⟩ rfl rfl rfl rfl rfl (by kernel_rfl) Tryd.func3 (by kernel_rfl)
    (of_decide_eq_true (by kernel_rfl)) (by unfold Func.isWrapper; first | (rw [if_pos (by decide +kernel)]; kernel_rfl) | (rw [if_neg (by decide +kernel)]; exact ⟨rfl, rfl⟩))
    (fun os started H enc _ => lifted os started H enc)

theorem carded : Rows.SquareJudgesCardSaid :=
  Claim7.holds_tied_plain_at .later [] [.funcs] true (true, "6090836063352b050532c33db93931e720bfb7e2880570e8568c6a49ae3fb130") false
    over (fun _ h => by cases h) (by kernel_rfl) (fun _ h => by cases h) squareJudges_row_tie rfl ⟨rfl, rfl⟩ (by kernel_rfl) rfl
    (fun f fn hf hfn => by
      obtain rfl : f = 3 := Option.some.inj ((show Tryd.prog.funcNamed "encaustic/encausticlaw01.SquareJudges" = some 3 by kernel_rfl).symm.trans hf) |>.symm
      obtain rfl : fn = Tryd.f3 := (Option.some.inj (Tryd.func3.symm.trans hfn)).symm
      exact ⟨by kernel_rfl, fun j t ht => by
        rw [show Tryd.f3.params = #[3, 3, 22] by kernel_rfl] at ht
        have hm : t ∈ [3, 3, 22] := by simpa using Array.mem_of_getElem? ht
        have hall : ([3, 3, 22].all fun u => !Tryd.prog.wantsStandIn u) = true := by kernel_rfl
        exact (show Tryd.prog.wantsStandIn t = false by simpa using List.all_eq_true.1 hall t hm)⟩)
    (by kernel_rfl)

end Go.Proofs.YtkdcldbedbagjaaDoor.zsquarejudges
namespace Go.Proofs.YtkdcldbedbagjaaDoor
theorem squareJudges_holds : Rows.SquareJudgesCardSaid := zsquarejudges.carded
end Go.Proofs.YtkdcldbedbagjaaDoor
