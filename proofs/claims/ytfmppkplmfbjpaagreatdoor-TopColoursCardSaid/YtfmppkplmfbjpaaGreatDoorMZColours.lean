/- TopColours: A closed board of Wang tiles is a pattern: shaded by which tile is where, its floor repeats with the board, its lattice has the board's measures in it, and every translation that is a symmetry leads to a closed board again. For every input the law returns true, and its arguments read as they did. -/
import Derived.Test.YtfmppkplmfbjpaaGreatDoorM34
import Derived.Test.YtfmppkplmfbjpaaGreatDoorM35
import Derived.Test.YtfmppkplmfbjpaaGreatDoorCards
import Derived.Test.YtfmppkplmfbjpaaGreatDoorTie
import Derived.SevenTiedAt
set_option linter.all false
namespace Go.Proofs.YtfmppkplmfbjpaaGreatDoor.ztopcolours
open Go.Proofs.YtfmppkplmfbjpaaGreatDoor Go.ChangeShapes Go.WideShapes Go.ChangeAt Go.RowKit Go.Lf

set_option maxRecDepth 100000 in
theorem lifted (os : Os) (started : os.Started) (H : Type) (enc : TypeId × Value → H) :
    ReturnsInHanded {} Tryz.checked os 3 .any (fun w args => (Rows.topColoursSpec.pre enc Tryz.prog Tryz.f3 [] false w args ∧ laidMetH Tryz.prog laid1 w) ∧ sizedMet enc Tryz.prog Tryz.f3 (OpenSpec.ofChange Rows.topColoursSpec) false w args) (Rows.topColoursSpec.post enc Tryz.prog Tryz.f3 false true false false) := by
  refine law_lifted started rfl (by kernel_rfl) Tryz.func3 (by kernel_rfl) (by kernel_rfl) (fun ds h => ?_)
    (ChangeSpec.witness_shaped (enc := enc) (C := Tryz.checked) (os := os) (X := fun w _ => laidMetH Tryz.prog laid1 w) false (World.laidAll Tryz.prog os laid1) #[.slice none 0 0, .bool false] 8 (World.laidAll_os _ _ _) (World.shaped_of_ZipB (by kernel_rfl) (by kernel_rfl)) (by kernel_rfl) (by kernel_rfl) (by kernel_rfl) (by rw [MakeChecks.laidMetH_plain _ _ _ (by kernel_rfl)]; exact laidMet_laidAll _ (by kernel_rfl) (by kernel_rfl))) ?_
  · have hn : ds.length = 2 := h.trans (by kernel_rfl)
    match ds, hn with
    | [d1, d2], _ => exact ⟨rfl, rfl, rfl⟩
  · intro W base args ds p hWh hval hA
    have hps : Tryz.f3.params.toList = [22, 4] := by kernel_rfl
    have hpa : Tryz.f3.params = #[22, 4] := by kernel_rfl
    rw [hps] at hA
    rw [hpa] at hval
    obtain ⟨v0, vs0, d0, ds0, p0, q0, hargs, rfl, rfl, h0, r0⟩ := trodAll_cons hA
    obtain ⟨v1, vs1, d1, ds1, p1, q1, rfl, rfl, rfl, h1, r1⟩ := trodAll_cons r0
    obtain ⟨rfl, rfl, rfl⟩ := trodAll_nil r1
    obtain rfl : args = #[v0, v1] := by cases args; simp_all
    obtain ⟨k0, l0⟩ := open_set (hval 0 22 v0 rfl rfl) h0
    exact law_colours v1 W hWh l0

theorem over : Rows.topColoursRow.holds Tryz.pinned (OpenSpec.ofChange Rows.topColoursSpec) :=
  OpenClaim.holds_of_wide 3 Tryz.f3 rfl rfl rfl rfl rfl rfl rfl ⟨rfl, rfl, rfl, rfl, rfl⟩ rfl rfl rfl rfl rfl (by kernel_rfl) Tryz.func3 (by kernel_rfl)
    (of_decide_eq_true (by kernel_rfl)) (by unfold Func.isWrapper; first | (rw [if_pos (by decide +kernel)]; kernel_rfl) | (rw [if_neg (by decide +kernel)]; exact ⟨rfl, rfl⟩))
    (fun os started H enc _ => lifted os started H enc)

theorem carded : Rows.TopColoursCardSaid :=
  Claim7.holds_tied_plain_at .later [] [.data, .widerDeep, .pinned] true (true, "db86e25e2866581aa0d2ab22781c5e01b110b7c24ec62b9e8a22c8bbaf605759") false
    over (fun _ h => by cases h) (by kernel_rfl) (fun _ h => by cases h) topColours_row_tie rfl ⟨rfl, rfl⟩ (by kernel_rfl) rfl
    (fun f fn hf hfn => by
      obtain rfl : f = 3 := Option.some.inj ((show Tryz.prog.funcNamed "encaustic/encaustictop.TopColours" = some 3 by kernel_rfl).symm.trans hf) |>.symm
      obtain rfl : fn = Tryz.f3 := (Option.some.inj (Tryz.func3.symm.trans hfn)).symm
      exact ⟨by kernel_rfl, fun j t ht => by
        rw [show Tryz.f3.params = #[22, 4] by kernel_rfl] at ht
        have hm : t ∈ [22, 4] := by simpa using Array.mem_of_getElem? ht
        have hall : ([22, 4].all fun u => !Tryz.prog.wantsStandIn u) = true := by kernel_rfl
        exact (show Tryz.prog.wantsStandIn t = false by simpa using List.all_eq_true.1 hall t hm)⟩)
    (by kernel_rfl)

end Go.Proofs.YtfmppkplmfbjpaaGreatDoor.ztopcolours
namespace Go.Proofs.YtfmppkplmfbjpaaGreatDoor
theorem topColours_holds : Rows.TopColoursCardSaid := ztopcolours.carded
end Go.Proofs.YtfmppkplmfbjpaaGreatDoor
