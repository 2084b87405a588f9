/- Contract: the Laplacian of the program. -/
import Derived.Test.YtkdcldbedbagjaaDoorKc
set_option linter.all false
namespace Go.Proofs.YtkdcldbedbagjaaDoor
open Go.Lf Go.RowKit Go.Dt

set_option maxRecDepth 100000 in
set_option maxHeartbeats 1000000 in
/-- The inner loop: one row without the columns left out. -/
theorem r71_3 {n i : Nat} {wo : List Int} {f : Nat → Nat → Int} {base base' : Nat} {t1 t9 u : Value} {out : List (List Int)} {row : List Int} {w0 : World} {k2 : Value → World → Prop} (hn : n ≤ 1000) (hwo : RdInts w0 t1 wo) (hwl : wo.length ≤ 1000)
    (hu : IntsAt base w0 u row) (hul : row.length = n) (hrow : ∀ j, j < n → row.getD j 0 = f i j) (h9 : IMat base' w0 t9 out) (hb' : base' ≤ w0.heap.size) (hol : out.length ≤ 1000)
    (hk : ∀ v w', IMat base' w' v (out ++ [(keepN n wo).map fun j => f i j]) → Chg (fun k => base' ≤ k) w0 w' → k2 v w') :
    S71L3 t1 t9 u (.int .i64 n) k2 w0 := by
  unfold S71L3
  refine ⟨fun t12 t94 wr => ∃ j : Nat, j ≤ n ∧ t94 = .int .i64 j ∧ IntsAt w0.heap.size wr t12 ((keepN j wo).map fun j => f i j) ∧ Kp w0 wr, fun _ t94 _ => n - (intOf t94).toNat, ⟨0, by omega, rfl, RecAt.nil, Kp.refl _⟩, ?_⟩
  rintro _ t12 _ wr ⟨j, hj, rfl, hP, kr⟩
  obtain ⟨pa, pc, ep, _⟩ := hP.len
  have hkl := keepN_le j wo
  by_cases hlt : j < n
  case neg =>
    have hlt' : ¬ (j : Int) < (n : Int) := by omega
    obtain rfl : j = n := by omega
    simp only [r_lss, hlt', decide_false, r_condF]
    rw [ep] at hP ⊢
    have hsz := kr.size
    refine r_pushMat h9 kr hP (Nat.le_refl _) (by omega) hb' fun v' w' o1 c1 _ => hk v' w' o1 ?_
    refine (Chg.of_kp kr).trans (c1.mono fun k _ hk => ?_)
    obtain ⟨vs, h1, _⟩ := h9
    exact (h1.lt hk).1
  have hlt' : (j : Int) < (n : Int) := by omega
  simp only [r_lss, decide_eq_true hlt', r_condT]
  rw [own_ldK (hu.kp kr) (by omega), hrow j hlt]
  refine r_use fok86 (contains_calls wr (hwo.below kr) hwl) rfl ?_
  rintro _ _ ⟨rfl, rfl⟩
  refine ⟨_, rfl, ?_⟩
  rw [r_not]
  have hks := keepN_succ j wo
  refine r_join1 (fun v w3 => IntsAt w0.heap.size w3 v ((keepN (j + 1) wo).map fun j => f i j) ∧ Kp w0 w3) ?_ fun k4 hk4 => ?_
  · rintro v w3 ⟨g1, g2⟩
    rw [r_add _ _ (by omega) (by omega)]
    exact ⟨⟨j + 1, by omega, by go_num, g1, g2⟩, by simp only [intOf]; omega⟩
  · by_cases hm : (j : Int) ∈ wo
    · rw [if_pos hm, List.append_nil] at hks
      rw [hks] at hk4
      simp only [decide_eq_true hm, Bool.not_true, r_condF]
      exact hk4 _ _ ⟨hP, kr⟩
    · rw [if_neg hm] at hks
      simp only [hm, decide_false, Bool.not_false, r_condT]
      have hsz := kr.size
      refine r_pushRec (x := f i j) slt34 iC_len rfl (bs34 _ _ _) (by intro u hu; simp [iC] at hu; rw [hu]; rfl) (by omega) hP (by rw [List.length_map]; omega) (by omega) fun v' w' o1 c1 _ => ?_
      refine hk4 _ _ ⟨by rw [hks, List.map_append]; exact o1, Kp.of_chg kr c1 fun k hk => (hP.lt hk).1⟩

set_option maxRecDepth 100000 in
set_option maxHeartbeats 1000000 in
theorem r71_2 {n : Nat} {wo : List Int} {f : Nat → Nat → Int} {base : Nat} {t1 t17 : Value} {F : List (List Int)} {w0 : World} {R : Ending → World → Prop} (hn : n ≤ 1000) (hwo : RdInts w0 t1 wo) (hwl : wo.length ≤ 1000)
    (hF : IMat base w0 t17 F) (hFs : Sized n n F) (hFf : ∀ a b, a < n → b < n → hat F a b = f a b)
    (hR : ∀ v w', IMat w0.heap.size w' v (redM n wo f) → Kp w0 w' → R (.returned v) w') : S71L2 t1 t17 (.int .i64 n) R w0 := by
  obtain ⟨vs, hF⟩ := hF
  unfold S71L2
  refine ⟨fun t9 t84 wr => ∃ i : Nat, i ≤ n ∧ t84 = .int .i64 i ∧ IMat w0.heap.size wr t9 ((keepN i wo).map fun i => (keepN n wo).map fun j => f i j) ∧ Kp w0 wr, fun _ t84 _ => n - (intOf t84).toNat, ⟨0, by omega, rfl, IMat.nil, Kp.refl _⟩, ?_⟩
  rintro _ t9 _ wr ⟨i, hi, rfl, hP, kr⟩
  by_cases hlt : i < n
  case neg =>
    have hlt' : ¬ (i : Int) < (n : Int) := by omega
    obtain rfl : i = n := by omega
    simp only [r_lss, hlt', decide_false, r_condF]
    exact hR _ _ hP kr
  have hlt' : (i : Int) < (n : Int) := by omega
  have hFl := hFs.1
  have hFr := hFs.2 i hlt
  have hkl := keepN_le i wo
  simp only [r_lss, decide_eq_true hlt', r_condT]
  have hks := keepN_succ i wo
  refine r_join1 (fun v w3 => IMat w0.heap.size w3 v ((keepN (i + 1) wo).map fun i => (keepN n wo).map fun j => f i j) ∧ Kp w0 w3) ?_ fun k4 hk4 => ?_
  · rintro v w3 ⟨g1, g2⟩
    rw [r_add _ _ (by omega) (by omega)]
    exact ⟨⟨i + 1, by omega, by go_num, g1, g2⟩, by simp only [intOf]; omega⟩
  · obtain ⟨u, _, Iu, ldu⟩ := (hF.kp kr).ldK (i := i) (by omega)
    rw [ldu]
    refine r_use fok86 (contains_calls wr (hwo.below kr) hwl) rfl ?_
    rintro _ _ ⟨rfl, rfl⟩
    refine ⟨_, rfl, ?_⟩
    by_cases hm : (i : Int) ∈ wo
    · rw [if_pos hm, List.append_nil] at hks
      rw [hks] at hk4
      simp only [decide_eq_true hm, r_condT]
      exact hk4 _ _ ⟨hP, kr⟩
    · rw [if_neg hm] at hks
      simp only [hm, decide_false, r_condF]
      obtain ⟨ua, uc, eu, _⟩ := Iu.len
      have lnu : ∀ K : Value → Prop, ln1 u K = K (.int .i64 n) := fun K => by rw [eu, hFr]; rfl
      rw [lnu]
      have hsz := kr.size
      refine r71_3 (f := f) hn (hwo.below kr) hwl Iu hFr (fun j hj => hFf i j hlt hj) hP (by omega) (by rw [List.length_map]; omega) fun v w' o1 c1 => ?_
      refine hk4 _ _ ⟨by rw [hks, List.map_append]; exact o1, Kp.of_chg kr c1 fun k hk => hk⟩

end Go.Proofs.YtkdcldbedbagjaaDoor
