/- SquareFlows: Trees, Merged and Through return the results and errors of the specification; no argument is changed. For every input the law returns true, and its arguments read as they did. -/
import Derived.Test.YtkdcldbedbagjaaDoorM25
import Derived.Test.YtkdcldbedbagjaaDoorM18
import Derived.Test.YtkdcldbedbagjaaDoorCards
import Derived.Test.YtkdcldbedbagjaaDoorTie
import Derived.SevenTiedAt
set_option linter.all false
namespace Go.Proofs.YtkdcldbedbagjaaDoor.zsquareflows
open Go.Proofs.YtkdcldbedbagjaaDoor Go.ChangeShapes Go.WideShapes Go.ChangeAt Go.RowKit Go.Lf

set_option maxRecDepth 100000 in
theorem lifted (os : Os) (started : os.Started) (H : Type) (enc : TypeId × Value → H) :
    ReturnsInHanded {} Tryd.checked os 6 .any (fun w args => (Rows.squareFlowsSpec.pre enc Tryd.prog Tryd.f6 [] false w args ∧ laidMetH Tryd.prog laid1 w) ∧ sizedMet enc Tryd.prog Tryd.f6 (OpenSpec.ofChange Rows.squareFlowsSpec) false w args) (Rows.squareFlowsSpec.post enc Tryd.prog Tryd.f6 false true false false) := by
  refine law_lifted started rfl (by kernel_rfl) Tryd.func6 (by kernel_rfl) (by kernel_rfl) (fun ds h => ?_)
    (ChangeSpec.witness_shaped (enc := enc) (C := Tryd.checked) (os := os) (X := fun w _ => laidMetH Tryd.prog laid1 w) false (World.doorLaid Tryd.prog 14 os) #[.int .i64 0, .slice none 0 0, .int .i64 0, .int .i64 0] 8 rfl (World.shaped_of_RefB (by kernel_rfl) (by kernel_rfl)) (by kernel_rfl) (by kernel_rfl) (by kernel_rfl) (door_met os _)) ?_
  · have hn : ds.length = 4 := h.trans (by kernel_rfl)
    match ds, hn with
    | [d1, d2, d3, d4], _ => exact ⟨rfl, rfl, rfl⟩
  · intro W base args ds p hWh hval hA
    have hps : Tryd.f6.params.toList = [3, 27, 3, 3] := by kernel_rfl
    have hpa : Tryd.f6.params = #[3, 27, 3, 3] := by kernel_rfl
    rw [hps] at hA
    rw [hpa] at hval
    obtain ⟨v0, vs0, d0, ds0, p0, q0, hargs, rfl, rfl, h0, r0⟩ := trodAll_cons hA
    obtain ⟨v1, vs1, d1, ds1, p1, q1, rfl, rfl, rfl, h1, r1⟩ := trodAll_cons r0
    obtain ⟨v2, vs2, d2, ds2, p2, q2, rfl, rfl, rfl, h2, r2⟩ := trodAll_cons r1
    obtain ⟨v3, vs3, d3, ds3, p3, q3, rfl, rfl, rfl, h3, r3⟩ := trodAll_cons r2
    obtain ⟨rfl, rfl, rfl⟩ := trodAll_nil r3
    obtain rfl : args = #[v0, v1, v2, v3] := by cases args; simp_all
    obtain ⟨n0, rfl, rfl, rfl, w0⟩ := open_int und3 (hval 0 3 v0 rfl rfl) h0
    have l0 := wf_i64 w0
    obtain ⟨k1, l1⟩ := open_wires (hval 1 27 v1 rfl rfl) h1
    obtain ⟨n2, rfl, rfl, rfl, w2⟩ := open_int und3 (hval 2 3 v2 rfl rfl) h2
    have l2 := wf_i64 w2
    obtain ⟨n3, rfl, rfl, rfl, w3⟩ := open_int und3 (hval 3 3 v3 rfl rfl) h3
    have l3 := wf_i64 w3
    exact law_flows n0 n2 n3 W hWh l1

theorem over : Rows.squareFlowsRow.holds Tryd.pinned (OpenSpec.ofChange Rows.squareFlowsSpec) :=
  OpenClaim.holds_of_wide 6 Tryd.f6 rfl rfl rfl rfl rfl rfl rfl ⟨rfl, rfl, rfl, rfl, rfl⟩ rfl rfl rfl rfl rfl (by kernel_rfl) Tryd.func6 (by kernel_rfl)
    (of_decide_eq_true (by kernel_rfl)) (by unfold Func.isWrapper; first | (rw [if_pos (by decide +kernel)]; kernel_rfl) | (rw [if_neg (by decide +kernel)]; exact ⟨rfl, rfl⟩))
    (fun os started H enc _ => lifted os started H enc)

theorem carded : Rows.SquareFlowsCardSaid :=
  Claim7.holds_tied_plain_at .later [] [.funcs] true (true, "6090836063352b050532c33db93931e720bfb7e2880570e8568c6a49ae3fb130") false
    over (fun _ h => by cases h) (by kernel_rfl) (fun _ h => by cases h) squareFlows_row_tie rfl ⟨rfl, rfl⟩ (by kernel_rfl) rfl
    (fun f fn hf hfn => by
      obtain rfl : f = 6 := Option.some.inj ((show Tryd.prog.funcNamed "encaustic/encausticlaw01.SquareFlows" = some 6 by kernel_rfl).symm.trans hf) |>.symm
      obtain rfl : fn = Tryd.f6 := (Option.some.inj (Tryd.func6.symm.trans hfn)).symm
      exact ⟨by kernel_rfl, fun j t ht => by
        rw [show Tryd.f6.params = #[3, 27, 3, 3] by kernel_rfl] at ht
        have hm : t ∈ [3, 27, 3, 3] := by simpa using Array.mem_of_getElem? ht
        have hall : ([3, 27, 3, 3].all fun u => !Tryd.prog.wantsStandIn u) = true := by kernel_rfl
        exact (show Tryd.prog.wantsStandIn t = false by simpa using List.all_eq_true.1 hall t hm)⟩)
    (by kernel_rfl)

end Go.Proofs.YtkdcldbedbagjaaDoor.zsquareflows
namespace Go.Proofs.YtkdcldbedbagjaaDoor
theorem squareFlows_holds : Rows.SquareFlowsCardSaid := zsquareflows.carded
end Go.Proofs.YtkdcldbedbagjaaDoor
