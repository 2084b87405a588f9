/- Equality of the seat's structs. -/
import Derived.Test.YtkdcldbedbagjaaDoorMa
import Derived.Laws.StructEq
set_option linter.all false
namespace Go.Proofs.YtkdcldbedbagjaaDoor
open Go.Lf Go.RowKit Go.Dt

theorem eqs3_bool (p q : T3) : (p.1 == q.1 && (p.2.1 == q.2.1 && p.2.2 == q.2.2)) = decide (p = q) := by
  obtain ⟨a, b, c⟩ := p
  obtain ⟨a', b', c'⟩ := q
  by_cases h1 : a = a' <;> by_cases h2 : b = b' <;> by_cases h3 : c = c' <;> simp [h1, h2, h3]
theorem eqs2_bool (p q : Int × Int) : (p.1 == q.1 && p.2 == q.2) = decide (p = q) := by
  obtain ⟨a, b⟩ := p
  obtain ⟨a', b'⟩ := q
  by_cases h1 : a = a' <;> by_cases h2 : b = b' <;> simp [h1, h2]

abbrev paV2 (p : Int × Int) : Value := .agg #[.int .i64 p.1, .int .i64 p.2]

set_option maxRecDepth 100000 in
theorem eqs71 (a b c a' b' c' : Int) (w : World) : (Op.equalIn 10000 71 (t3V (a, b, c)) (t3V (a', b', c'))).run Tryd.prog w = .ok (a == a' && (b == b' && c == c')) w := by
  have u3 := Tryd.underlying3
  have a3 := Tryd.isAgg3
  have z3 := Tryd.sizeOf3
  have hS : Tryd.prog.underlying 71 = some (.struct (Tryd.prog.fieldsOf 71)) := by kernel_rfl
  have hp : Tryd.prog.stoodInHeld 71 = false := by kernel_rfl
  rw [show (10000 : Nat) = 9999 + 1 from rfl, run_equalIn_agg w 9999 71 _ _ hS hp]
  simp only [Program.fieldsOf, Tryd.underlying71]
  go_simp
  by_cases h1 : a = a' <;> by_cases h2 : b = b' <;> by_cases h3 : c = c' <;> simp [h1, h2, h3]
set_option maxRecDepth 100000 in
theorem r_eq71 {w : World} {lit : Bool} (p q : T3) (K : Value → Prop) : binQ Tryd.prog w .eql 71 lit (t3V p) (t3V q) K = K (.bool (decide (p = q))) := by
  have hg : Tryd.prog.eqGuardType Tryd.prog.depth 71 = false := by kernel_rfl
  have hrun : ∀ w, (semBin .eql 71 lit (t3V p) (t3V q)).run Tryd.prog w = .ok (.value (.bool (decide (p = q)))) w := fun w => by
    unfold semBin
    have := eqs71 p.1 p.2.1 p.2.2 q.1 q.2.1 q.2.2 w
    rw [eqs3_bool] at this
    simp [run_eqGuard_agg w _ _ _ _ _ _ hg, run_eql_struct, this]
  refine propext ⟨?_, fun h => ⟨_, fun w' _ => hrun w', h⟩⟩
  rintro ⟨v, hv, hk⟩
  have h1 := hv w (Below.refl _ _)
  rw [hrun] at h1
  injection h1 with h1 _
  injection h1 with h1
  rw [h1]; exact hk
set_option maxRecDepth 100000 in
theorem r_ne71 {w : World} {lit : Bool} (p q : T3) (K : Value → Prop) : binQ Tryd.prog w .neq 71 lit (t3V p) (t3V q) K = K (.bool (!decide (p = q))) := by
  have hg : Tryd.prog.eqGuardType Tryd.prog.depth 71 = false := by kernel_rfl
  have hrun : ∀ w, (semBin .neq 71 lit (t3V p) (t3V q)).run Tryd.prog w = .ok (.value (.bool (!decide (p = q)))) w := fun w => by
    unfold semBin
    have := eqs71 p.1 p.2.1 p.2.2 q.1 q.2.1 q.2.2 w
    rw [eqs3_bool] at this
    simp [run_eqGuard_agg w _ _ _ _ _ _ hg, run_neq_struct, this]
  refine propext ⟨?_, fun h => ⟨_, fun w' _ => hrun w', h⟩⟩
  rintro ⟨v, hv, hk⟩
  have h1 := hv w (Below.refl _ _)
  rw [hrun] at h1
  injection h1 with h1 _
  injection h1 with h1
  rw [h1]; exact hk

set_option maxRecDepth 100000 in
theorem eqs44 (a b c a' b' c' : Int) (w : World) : (Op.equalIn 10000 44 (t3V (a, b, c)) (t3V (a', b', c'))).run Tryd.prog w = .ok (a == a' && (b == b' && c == c')) w := by
  have u3 := Tryd.underlying3
  have a3 := Tryd.isAgg3
  have z3 := Tryd.sizeOf3
  have hS : Tryd.prog.underlying 44 = some (.struct (Tryd.prog.fieldsOf 44)) := by kernel_rfl
  have hp : Tryd.prog.stoodInHeld 44 = false := by kernel_rfl
  rw [show (10000 : Nat) = 9999 + 1 from rfl, run_equalIn_agg w 9999 44 _ _ hS hp]
  simp only [Program.fieldsOf, Tryd.underlying44]
  go_simp
  by_cases h1 : a = a' <;> by_cases h2 : b = b' <;> by_cases h3 : c = c' <;> simp [h1, h2, h3]
set_option maxRecDepth 100000 in
theorem r_eq44 {w : World} {lit : Bool} (p q : T3) (K : Value → Prop) : binQ Tryd.prog w .eql 44 lit (t3V p) (t3V q) K = K (.bool (decide (p = q))) := by
  have hg : Tryd.prog.eqGuardType Tryd.prog.depth 44 = false := by kernel_rfl
  have hrun : ∀ w, (semBin .eql 44 lit (t3V p) (t3V q)).run Tryd.prog w = .ok (.value (.bool (decide (p = q)))) w := fun w => by
    unfold semBin
    have := eqs44 p.1 p.2.1 p.2.2 q.1 q.2.1 q.2.2 w
    rw [eqs3_bool] at this
    simp [run_eqGuard_agg w _ _ _ _ _ _ hg, run_eql_struct, this]
  refine propext ⟨?_, fun h => ⟨_, fun w' _ => hrun w', h⟩⟩
  rintro ⟨v, hv, hk⟩
  have h1 := hv w (Below.refl _ _)
  rw [hrun] at h1
  injection h1 with h1 _
  injection h1 with h1
  rw [h1]; exact hk
set_option maxRecDepth 100000 in
theorem r_ne44 {w : World} {lit : Bool} (p q : T3) (K : Value → Prop) : binQ Tryd.prog w .neq 44 lit (t3V p) (t3V q) K = K (.bool (!decide (p = q))) := by
  have hg : Tryd.prog.eqGuardType Tryd.prog.depth 44 = false := by kernel_rfl
  have hrun : ∀ w, (semBin .neq 44 lit (t3V p) (t3V q)).run Tryd.prog w = .ok (.value (.bool (!decide (p = q)))) w := fun w => by
    unfold semBin
    have := eqs44 p.1 p.2.1 p.2.2 q.1 q.2.1 q.2.2 w
    rw [eqs3_bool] at this
    simp [run_eqGuard_agg w _ _ _ _ _ _ hg, run_neq_struct, this]
  refine propext ⟨?_, fun h => ⟨_, fun w' _ => hrun w', h⟩⟩
  rintro ⟨v, hv, hk⟩
  have h1 := hv w (Below.refl _ _)
  rw [hrun] at h1
  injection h1 with h1 _
  injection h1 with h1
  rw [h1]; exact hk

set_option maxRecDepth 100000 in
theorem eqs40 (a b a' b' : Int) (w : World) : (Op.equalIn 10000 40 (paV2 (a, b)) (paV2 (a', b'))).run Tryd.prog w = .ok (a == a' && b == b') w := by
  have u3 := Tryd.underlying3
  have a3 := Tryd.isAgg3
  have z3 := Tryd.sizeOf3
  have hS : Tryd.prog.underlying 40 = some (.struct (Tryd.prog.fieldsOf 40)) := by kernel_rfl
  have hp : Tryd.prog.stoodInHeld 40 = false := by kernel_rfl
  rw [show (10000 : Nat) = 9999 + 1 from rfl, run_equalIn_agg w 9999 40 _ _ hS hp]
  simp only [Program.fieldsOf, Tryd.underlying40]
  go_simp
  by_cases h1 : a = a' <;> by_cases h2 : b = b' <;> simp [h1, h2]
set_option maxRecDepth 100000 in
theorem r_eq40 {w : World} {lit : Bool} (p q : Int × Int) (K : Value → Prop) : binQ Tryd.prog w .eql 40 lit (paV2 p) (paV2 q) K = K (.bool (decide (p = q))) := by
  have hg : Tryd.prog.eqGuardType Tryd.prog.depth 40 = false := by kernel_rfl
  have hrun : ∀ w, (semBin .eql 40 lit (paV2 p) (paV2 q)).run Tryd.prog w = .ok (.value (.bool (decide (p = q)))) w := fun w => by
    unfold semBin
    have := eqs40 p.1 p.2 q.1 q.2 w
    rw [eqs2_bool] at this
    simp [run_eqGuard_agg w _ _ _ _ _ _ hg, run_eql_struct, this]
  refine propext ⟨?_, fun h => ⟨_, fun w' _ => hrun w', h⟩⟩
  rintro ⟨v, hv, hk⟩
  have h1 := hv w (Below.refl _ _)
  rw [hrun] at h1
  injection h1 with h1 _
  injection h1 with h1
  rw [h1]; exact hk
set_option maxRecDepth 100000 in
theorem r_ne40 {w : World} {lit : Bool} (p q : Int × Int) (K : Value → Prop) : binQ Tryd.prog w .neq 40 lit (paV2 p) (paV2 q) K = K (.bool (!decide (p = q))) := by
  have hg : Tryd.prog.eqGuardType Tryd.prog.depth 40 = false := by kernel_rfl
  have hrun : ∀ w, (semBin .neq 40 lit (paV2 p) (paV2 q)).run Tryd.prog w = .ok (.value (.bool (!decide (p = q)))) w := fun w => by
    unfold semBin
    have := eqs40 p.1 p.2 q.1 q.2 w
    rw [eqs2_bool] at this
    simp [run_eqGuard_agg w _ _ _ _ _ _ hg, run_neq_struct, this]
  refine propext ⟨?_, fun h => ⟨_, fun w' _ => hrun w', h⟩⟩
  rintro ⟨v, hv, hk⟩
  have h1 := hv w (Below.refl _ _)
  rw [hrun] at h1
  injection h1 with h1 _
  injection h1 with h1
  rw [h1]; exact hk

set_option maxRecDepth 100000 in
theorem eqs58 (a b a' b' : Int) (w : World) : (Op.equalIn 10000 58 (paV2 (a, b)) (paV2 (a', b'))).run Tryd.prog w = .ok (a == a' && b == b') w := by
  have u3 := Tryd.underlying3
  have a3 := Tryd.isAgg3
  have z3 := Tryd.sizeOf3
  have hS : Tryd.prog.underlying 58 = some (.struct (Tryd.prog.fieldsOf 58)) := by kernel_rfl
  have hp : Tryd.prog.stoodInHeld 58 = false := by kernel_rfl
  rw [show (10000 : Nat) = 9999 + 1 from rfl, run_equalIn_agg w 9999 58 _ _ hS hp]
  simp only [Program.fieldsOf, Tryd.underlying58]
  go_simp
  by_cases h1 : a = a' <;> by_cases h2 : b = b' <;> simp [h1, h2]
set_option maxRecDepth 100000 in
theorem r_eq58 {w : World} {lit : Bool} (p q : Int × Int) (K : Value → Prop) : binQ Tryd.prog w .eql 58 lit (paV2 p) (paV2 q) K = K (.bool (decide (p = q))) := by
  have hg : Tryd.prog.eqGuardType Tryd.prog.depth 58 = false := by kernel_rfl
  have hrun : ∀ w, (semBin .eql 58 lit (paV2 p) (paV2 q)).run Tryd.prog w = .ok (.value (.bool (decide (p = q)))) w := fun w => by
    unfold semBin
    have := eqs58 p.1 p.2 q.1 q.2 w
    rw [eqs2_bool] at this
    simp [run_eqGuard_agg w _ _ _ _ _ _ hg, run_eql_struct, this]
  refine propext ⟨?_, fun h => ⟨_, fun w' _ => hrun w', h⟩⟩
  rintro ⟨v, hv, hk⟩
  have h1 := hv w (Below.refl _ _)
  rw [hrun] at h1
  injection h1 with h1 _
  injection h1 with h1
  rw [h1]; exact hk
set_option maxRecDepth 100000 in
theorem r_ne58 {w : World} {lit : Bool} (p q : Int × Int) (K : Value → Prop) : binQ Tryd.prog w .neq 58 lit (paV2 p) (paV2 q) K = K (.bool (!decide (p = q))) := by
  have hg : Tryd.prog.eqGuardType Tryd.prog.depth 58 = false := by kernel_rfl
  have hrun : ∀ w, (semBin .neq 58 lit (paV2 p) (paV2 q)).run Tryd.prog w = .ok (.value (.bool (!decide (p = q)))) w := fun w => by
    unfold semBin
    have := eqs58 p.1 p.2 q.1 q.2 w
    rw [eqs2_bool] at this
    simp [run_eqGuard_agg w _ _ _ _ _ _ hg, run_neq_struct, this]
  refine propext ⟨?_, fun h => ⟨_, fun w' _ => hrun w', h⟩⟩
  rintro ⟨v, hv, hk⟩
  have h1 := hv w (Below.refl _ _)
  rw [hrun] at h1
  injection h1 with h1 _
  injection h1 with h1
  rw [h1]; exact hk

end Go.Proofs.YtkdcldbedbagjaaDoor
