/- TopThree: Tilings and Count count the same; Kasteleyn's number is at most that, and that where no hole is; Shares gives shares exactly where there is a tiling. For every input the law returns true, and its arguments read as they did. -/
import Derived.Test.YtbekeccfjmoonaaDoorM40
import Derived.Test.YtbekeccfjmoonaaDoorCards
import Derived.Test.YtbekeccfjmoonaaDoorTie
import Derived.SevenTiedAt
set_option linter.all false
namespace Go.Proofs.YtbekeccfjmoonaaDoor.ztopthree
open Go.Proofs.YtbekeccfjmoonaaDoor Go.ChangeShapes Go.WideShapes Go.ChangeAt Go.RowKit Go.Lf

set_option maxRecDepth 100000 in
theorem lifted (os : Os) (started : os.Started) (H : Type) (enc : TypeId × Value → H) :
    ReturnsInHanded {} Tryd.checked os 3 .any (fun w args => (Rows.topThreeSpec.pre enc Tryd.prog Tryd.f3 [] false w args ∧ laidMetH Tryd.prog laid1 w) ∧ sizedMet enc Tryd.prog Tryd.f3 (OpenSpec.ofChange Rows.topThreeSpec) false w args) (Rows.topThreeSpec.post enc Tryd.prog Tryd.f3 false true false false) := by
  refine law_lifted started rfl (by kernel_rfl) Tryd.func3 (by kernel_rfl) (by kernel_rfl) (fun ds h => ?_)
    (ChangeSpec.witness_shaped (enc := enc) (C := Tryd.checked) (os := os) (X := fun w _ => laidMetH Tryd.prog laid1 w) false (World.laidAll Tryd.prog os laid1) #[.slice none 0 0] 8 (World.laidAll_os _ _ _) (World.shaped_of_ZipB (by kernel_rfl) (by kernel_rfl)) (by kernel_rfl) (by kernel_rfl) (by kernel_rfl) (by rw [MakeChecks.laidMetH_plain _ _ _ (by kernel_rfl)]; exact laidMet_laidAll _ (by kernel_rfl) (by kernel_rfl))) ?_
  · have hn : ds.length = 1 := h.trans (by kernel_rfl)
    match ds, hn with
    | [d1], _ => exact ⟨rfl, rfl, rfl⟩
  · intro W base args ds p hWh hval hA
    have hps : Tryd.f3.params.toList = [22] := by kernel_rfl
    have hpa : Tryd.f3.params = #[22] := by kernel_rfl
    rw [hps] at hA
    rw [hpa] at hval
    obtain ⟨v0, vs0, d0, ds0, p0, q0, hargs, rfl, rfl, h0, r0⟩ := trodAll_cons hA
    obtain ⟨rfl, rfl, rfl⟩ := trodAll_nil r0
    obtain rfl : args = #[v0] := by cases args; simp_all
    obtain ⟨k0, l0, m0⟩ := open_strings (hval 0 22 v0 rfl rfl) h0
    exact law_three W hWh l0 m0

theorem over : Rows.topThreeRow.holds Tryd.pinned (OpenSpec.ofChange Rows.topThreeSpec) :=
  OpenClaim.holds_of_wide 3 Tryd.f3 rfl rfl rfl rfl rfl rfl rfl ⟨rfl, rfl, rfl, rfl, rfl⟩ rfl rfl rfl rfl rfl (by kernel_rfl) Tryd.func3 (by kernel_rfl)
    (of_decide_eq_true (by kernel_rfl)) (by unfold Func.isWrapper; first | (rw [if_pos (by decide +kernel)]; kernel_rfl) | (rw [if_neg (by decide +kernel)]; exact ⟨rfl, rfl⟩))
    (fun os started H enc _ => lifted os started H enc)

theorem carded : Rows.TopThreeCardSaid :=
  Claim7.holds_tied_plain_at .later [] [.data, .widerDeep, .pinned] true (true, "be560971296ab50d81c0e61caa9510d6be4d3beed926cecded375036a751ef33") false
    over (fun _ h => by cases h) (by kernel_rfl) (fun _ h => by cases h) topThree_row_tie rfl ⟨rfl, rfl⟩ (by kernel_rfl) rfl
    (fun f fn hf hfn => by
      obtain rfl : f = 3 := Option.some.inj ((show Tryd.prog.funcNamed "encaustic/encaustictop.TopThree" = some 3 by kernel_rfl).symm.trans hf) |>.symm
      obtain rfl : fn = Tryd.f3 := (Option.some.inj (Tryd.func3.symm.trans hfn)).symm
      exact ⟨by kernel_rfl, fun j t ht => by
        rw [show Tryd.f3.params = #[22] by kernel_rfl] at ht
        have hm : t ∈ [22] := by simpa using Array.mem_of_getElem? ht
        have hall : ([22].all fun u => !Tryd.prog.wantsStandIn u) = true := by kernel_rfl
        exact (show Tryd.prog.wantsStandIn t = false by simpa using List.all_eq_true.1 hall t hm)⟩)
    (by kernel_rfl)

end Go.Proofs.YtbekeccfjmoonaaDoor.ztopthree
namespace Go.Proofs.YtbekeccfjmoonaaDoor
theorem topThree_holds : Rows.TopThreeCardSaid := ztopthree.carded
end Go.Proofs.YtbekeccfjmoonaaDoor
