/- Contracts: IndexFunc at levels, the level of a point, Network of the program. -/
import Derived.Test.YtkdcldbedbagjaaDoorMc
import Derived.Test.YtkdcldbedbagjaaDoorEqs
set_option linter.all false
namespace Go.Proofs.YtkdcldbedbagjaaDoor
open Go.Lf Go.RowKit Go.Dt

/-- The first one with a property, or -1. -/
def IsIdx (P : T3 → Bool) (V : List T3) (p : Int) : Prop := (∃ i : Nat, p = i ∧ i < V.length ∧ P (V.getD i (0, 0, 0)) = true ∧ ∀ j, j < i → P (V.getD j (0, 0, 0)) = false) ∨ (p = -1 ∧ ∀ j, j < V.length → P (V.getD j (0, 0, 0)) = false)

set_option maxRecDepth 100000 in
theorem idx_calls {v f : Value} {V : List T3} {P : T3 → Bool} (w : World) (hr : RdS w v V) (hl : V.length ≤ 1000) (hf : ∀ (l : T3) (w' : World) (K : Value → World → Prop), Kp w w' → (∀ w'', Kp w' w'' → K (.bool (P l)) w'') → callW Tryd.prog f [t3V l] w' K) :
    Calls Tryd.prog 48 #[v, f] w fun e w' => Kp w w' ∧ ∃ p, e = .returned (.int .i64 p) ∧ IsIdx P V p := by
  obtain ⟨a, cap, ev, _⟩ := hr.len
  have lnv : ∀ K : Value → Prop, ln1 v K = K (.int .i64 V.length) := fun K => by rw [ev]; rfl
  refine lift48 ?_
  unfold S48 S48L0
  rw [lnv]
  refine ⟨fun t8 wr => ∃ j : Nat, j ≤ V.length ∧ t8 = .int .i64 j ∧ (∀ i, i < j → P (V.getD i (0, 0, 0)) = false) ∧ Kp w wr, fun t8 _ => V.length - (intOf t8).toNat, ⟨0, by omega, rfl, fun i hi => by omega, Kp.refl _⟩, ?_⟩
  rintro _ _ wr ⟨j, hj, rfl, hz, kr⟩
  by_cases hlt : j < V.length
  case neg =>
    have hlt' : ¬ (j : Int) < (V.length : Int) := by omega
    simp only [r_lss, hlt', decide_false, r_condF]
    exact ⟨kr, _, rfl, .inr ⟨rfl, fun i hi => hz i (by omega)⟩⟩
  have hlt' : (j : Int) < (V.length : Int) := by omega
  simp only [r_lss, decide_eq_true hlt', r_condT]
  rw [tri_at (hr.kp kr) hlt]
  refine hf _ wr _ kr fun w2 k2 => ?_
  cases hb : P (V.getD j (0, 0, 0)) with
  | true =>
    rw [r_condT]
    exact ⟨Kp.trans kr k2, _, rfl, .inl ⟨j, rfl, hlt, hb, hz⟩⟩
  | false =>
    rw [r_condF, r_add _ _ (by omega) (by omega)]
    refine ⟨⟨j + 1, by omega, by go_num, fun i hi => ?_, Kp.trans kr k2⟩, by simp only [intOf]; omega⟩
    by_cases e : i = j
    · rw [e]; exact hb
    · exact hz i (by omega)

/-- Does a level go over a point? -/
def covB (y x : Int) (l : T3) : Bool := decide (l.1 = y ∧ l.2.1 ≤ x ∧ x ≤ l.2.2)
set_option maxRecDepth 100000 in
theorem cov_calls {l : T3} {y x : Int} {by_ bx : Nat} (w : World) (hy : w.cell? ⟨by_, 0, none⟩ = some (.int .i64 y)) (hx : w.cell? ⟨bx, 0, none⟩ = some (.int .i64 x)) : Calls Tryd.prog 49 #[t3V l, ptrV by_, ptrV bx] w fun e w' => e = .returned (.bool (covB y x l)) ∧ Kp w w' := by
  refine lift49 ?_
  unfold S49
  refine r_box fun b3 w1 e3 s3 h3 k1 => ?_
  obtain ⟨c0, c1, c2⟩ := tri_cells (p := l) h3
  have hy1 := cell_later k1 hy
  have hx1 := cell_later k1 hx
  by_cases g1 : l.1 = y
  case neg =>
    rw [show covB y x l = false from decide_eq_false fun h => g1 h.1]
    simp (disch := omega) only [r_ln, r_pick, r_pickT, r_pickF, r_condT, r_condF, r_gdTT, r_gdFF, r_gdTF, r_gdFT, r_gqTT, r_gqFF, r_gqTF, r_gqFT, r_not, r_lss, r_leq, r_gtr, r_geq, r_eql, r_neq, r_add, r_sub, r_min2, r_max2, r_min3, r_max3, r_fa, r_iaS, r_iaA, r_ex2a, r_ex2b, r_ex3a, r_ex3b, r_ex3c, r_nc, r_keepE, Nat.zero_add, Nat.add_zero, Nat.mul_one, Int.toNat_natCast, toNat_sub1, toNat_add1, decide_true, decide_false, Bool.not_true, Bool.not_false, if_true, if_false, Bool.false_eq_true, reduceCtorEq, r_gdU, r_ld c0, r_ld hy1, g1]
    exact ⟨by first | rfl | trivial, k1⟩
  by_cases g2 : l.2.1 ≤ x
  case neg =>
    rw [show covB y x l = false from decide_eq_false fun h => g2 h.2.1]
    simp (disch := omega) only [r_ln, r_pick, r_pickT, r_pickF, r_condT, r_condF, r_gdTT, r_gdFF, r_gdTF, r_gdFT, r_gqTT, r_gqFF, r_gqTF, r_gqFT, r_not, r_lss, r_leq, r_gtr, r_geq, r_eql, r_neq, r_add, r_sub, r_min2, r_max2, r_min3, r_max3, r_fa, r_iaS, r_iaA, r_ex2a, r_ex2b, r_ex3a, r_ex3b, r_ex3c, r_nc, r_keepE, Nat.zero_add, Nat.add_zero, Nat.mul_one, Int.toNat_natCast, toNat_sub1, toNat_add1, decide_true, decide_false, Bool.not_true, Bool.not_false, if_true, if_false, Bool.false_eq_true, reduceCtorEq, r_gdU, r_ld c0, r_ld hy1, decide_eq_true g1, r_ld c1, r_ld hx1, g2]
    exact ⟨by first | rfl | trivial, k1⟩
  by_cases g3 : x ≤ l.2.2
  case neg =>
    rw [show covB y x l = false from decide_eq_false fun h => g3 h.2.2]
    simp (disch := omega) only [r_ln, r_pick, r_pickT, r_pickF, r_condT, r_condF, r_gdTT, r_gdFF, r_gdTF, r_gdFT, r_gqTT, r_gqFF, r_gqTF, r_gqFT, r_not, r_lss, r_leq, r_gtr, r_geq, r_eql, r_neq, r_add, r_sub, r_min2, r_max2, r_min3, r_max3, r_fa, r_iaS, r_iaA, r_ex2a, r_ex2b, r_ex3a, r_ex3b, r_ex3c, r_nc, r_keepE, Nat.zero_add, Nat.add_zero, Nat.mul_one, Int.toNat_natCast, toNat_sub1, toNat_add1, decide_true, decide_false, Bool.not_true, Bool.not_false, if_true, if_false, Bool.false_eq_true, reduceCtorEq, r_gdU, r_ld c0, r_ld hy1, decide_eq_true g1, r_ld c1, r_ld c2, r_ld hx1, decide_eq_true g2, g3]
    exact ⟨by first | rfl | trivial, k1⟩
  rw [show covB y x l = true from decide_eq_true ⟨g1, g2, g3⟩]
  simp (disch := omega) only [r_ln, r_pick, r_pickT, r_pickF, r_condT, r_condF, r_gdTT, r_gdFF, r_gdTF, r_gdFT, r_gqTT, r_gqFF, r_gqTF, r_gqFT, r_not, r_lss, r_leq, r_gtr, r_geq, r_eql, r_neq, r_add, r_sub, r_min2, r_max2, r_min3, r_max3, r_fa, r_iaS, r_iaA, r_ex2a, r_ex2b, r_ex3a, r_ex3b, r_ex3c, r_nc, r_keepE, Nat.zero_add, Nat.add_zero, Nat.mul_one, Int.toNat_natCast, toNat_sub1, toNat_add1, decide_true, decide_false, Bool.not_true, Bool.not_false, if_true, if_false, Bool.false_eq_true, reduceCtorEq, r_gdU, r_ld c0, r_ld hy1, decide_eq_true g1, r_ld c1, r_ld c2, r_ld hx1, decide_eq_true g2, decide_eq_true g3]
  exact ⟨by first | rfl | trivial, k1⟩
set_option maxRecDepth 100000 in
theorem eqv_calls {l m : T3} {b : Nat} (w : World) (hb : w.heap[b]? = some (.cells #[.int .i64 m.1, .int .i64 m.2.1, .int .i64 m.2.2] 71 (0, 0))) : Calls Tryd.prog 50 #[t3V l, ptrV b] w fun e w' => e = .returned (.bool (decide (l = m))) ∧ Kp w w' := by
  refine lift50 ?_
  unfold S50
  refine r_box fun b2 w1 e2 s2 h2 k1 => ?_
  rw [tri_box (p := l) h2, tri_box (block_below hb k1), r_eq71]
  exact ⟨by first | rfl | trivial, k1⟩

/-- The level of a point, as the program finds it. -/
def lvI (V : List T3) (y x : Int) : Nat := V.findIdx (covB y x)
theorem idx_lv {V : List T3} {y x p : Int} (h : IsIdx (covB y x) V p) (hex : ∃ l ∈ V, covB y x l = true) : p = lvI V y x ∧ lvI V y x < V.length := by
  rcases h with ⟨i, rfl, hi, hp, hj⟩ | ⟨_, hn⟩
  · have : V.findIdx (covB y x) = i := by
      rw [List.findIdx_eq hi]
      refine ⟨by rw [← getD_lt _ _ (0, 0, 0) hi]; exact hp, fun j hj' => ?_⟩
      have := hj j hj'
      rw [getD_lt _ _ _ (by omega)] at this
      rw [this]
    unfold lvI
    rw [this]
    exact ⟨rfl, hi⟩
  · obtain ⟨l, hl, hc⟩ := hex
    obtain ⟨i, hi, rfl⟩ := List.getElem_of_mem hl
    have := hn i hi
    rw [getD_lt _ _ _ hi, hc] at this
    cases this
theorem idx_same {V : List T3} {y x p : Int} (hex : ∃ l ∈ V, covB y x l = true) (h : IsIdx (fun o => decide (o = V.getD (lvI V y x) (0, 0, 0))) V p) : p = lvI V y x := by
  have hlt : lvI V y x < V.length := by
    obtain ⟨l, hl, hc⟩ := hex
    exact List.findIdx_lt_length_of_exists ⟨l, hl, hc⟩
  have hcov : covB y x (V.getD (lvI V y x) (0, 0, 0)) = true := by rw [getD_lt _ _ _ hlt]; exact List.findIdx_getElem (w := hlt)
  rcases h with ⟨i, rfl, hi, hp, hj⟩ | ⟨_, hn⟩
  · have he := of_decide_eq_true hp
    rcases Nat.lt_trichotomy i (lvI V y x) with h | h | h
    · have hf : covB y x V[i] = false := by
        have := List.not_of_lt_findIdx (p := covB y x) (xs := V) h
        simpa using this
      rw [← getD_lt _ _ (0, 0, 0) hi, he, hcov] at hf
      cases hf
    · rw [h]
    · have := hj _ h
      simp at this
  · have := hn _ hlt
    simp at this

set_option maxRecDepth 100000 in
set_option maxHeartbeats 1000000 in
theorem at_lv_calls {V : List T3} {y x : Int} {av : Value} {b : Nat} (w : World) (hb : w.cell? ⟨b, 0, none⟩ = some av) (hr : RdS w av V) (hl : V.length ≤ 1000) (hex : ∃ l ∈ V, covB y x l = true) :
    Calls Tryd.prog 47 #[.int .i64 y, .int .i64 x, ptrV b] w fun e w' => e = .returned (.int .i64 (lvI V y x)) ∧ Kp w w' := by
  have hlt : lvI V y x < V.length := by
    obtain ⟨l, hl, hc⟩ := hex
    exact List.findIdx_lt_length_of_exists ⟨l, hl, hc⟩
  refine lift47 ?_
  unfold S47
  refine r_box fun b3 w1 e3 s3 h3 k1 => ?_
  refine r_box fun b4 w2 e4 s4 h4 k2 => ?_
  have h3' : w1.heap[b3]? = some (.cells #[.int .i64 y] 3 (0, 0)) := h3
  have h4' : w2.heap[b4]? = some (.cells #[.int .i64 x] 3 (0, 0)) := h4
  refine r_drew fun w3 k3 _ => ?_
  have k13 := Kp.trans k2 k3
  have k03 := Kp.trans k1 k13
  have cy : w3.cell? ⟨b3, 0, none⟩ = some (.int .i64 y) := by rw [cell_row (block_below h3' k13)]; rfl
  have cx : w3.cell? ⟨b4, 0, none⟩ = some (.int .i64 x) := by rw [cell_row (block_below h4' k3)]; rfl
  have cb := cell_later k03 hb
  have find : ∀ w', Kp w3 w' → Calls Tryd.prog 48 #[av, .func (.func 49) #[] #[ptrV b3, ptrV b4]] w' fun e w'' => Kp w' w'' ∧ ∃ p, e = .returned (.int .i64 p) ∧ IsIdx (covB y x) V p := fun w' k => by
    refine idx_calls w' (hr.kp (Kp.trans k03 k)) hl fun l w'' K k' hK => ?_
    have kk := Kp.trans k k'
    refine r_use fok49 (cov_calls (l := l) w'' (cell_later kk cy) (cell_later kk cx)) rfl ?_
    rintro _ w4 ⟨rfl, k4⟩
    exact ⟨_, rfl, hK w4 k4⟩
  refine r_join1 (fun t6 wj => ∃ b6, t6 = ptrV b6 ∧ Kp w3 wj ∧ wj.heap[b6]? = some (.cells #[.int .i64 (V.getD (lvI V y x) (0, 0, 0)).1, .int .i64 (V.getD (lvI V y x) (0, 0, 0)).2.1, .int .i64 (V.getD (lvI V y x) (0, 0, 0)).2.2] 71 (0, 0))) ?_ fun kk hkk => ?_
  · rintro _ wj ⟨b6, rfl, kj, h6⟩
    have k0j := Kp.trans k03 kj
    rw [r_ld (cell_later k0j hb)]
    refine r_use fok48 (idx_calls (P := fun o => decide (o = V.getD (lvI V y x) (0, 0, 0))) wj (hr.kp k0j) hl fun l w'' K k' hK => ?_) rfl ?_
    · refine r_use fok50 (eqv_calls (l := l) w'' (block_below h6 k')) rfl ?_
      rintro _ w4 ⟨rfl, k4⟩
      exact ⟨_, rfl, hK w4 k4⟩
    · rintro _ w4 ⟨k4, p, rfl, hp⟩
      exact ⟨_, rfl, by rw [idx_same hex hp], Kp.trans k0j k4⟩
  · rw [r_ld cb, r_ld cb]
    refine ⟨?_, ?_, trivial⟩
    · refine r_use fok48 (find w3 (Kp.refl _)) rfl ?_
      rintro _ w4 ⟨k4, p, rfl, hp⟩
      refine ⟨_, rfl, r_keep k4 ?_⟩
      rw [(idx_lv hp hex).1, tri_at (hr.kp (Kp.trans k03 k4)) hlt]
      refine r_box fun b6 w5 e6 s6 h6 k5 => r_keep k5 ?_
      have h6' : w5.heap[b6]? = some (.cells #[.int .i64 0, .int .i64 0, .int .i64 0] 71 (0, 0)) := h6
      have hsz := k4.size
      exact st71 h6' fun w6 c6 s6 h66 => hkk _ _ ⟨b6, rfl, Kp.of_chg (Kp.trans k4 k5) c6 fun q e => by omega, h66⟩
    · refine r_box fun b6 w5 e6 s6 h6 k5 => r_keep k5 ?_
      have h6' : w5.heap[b6]? = some (.cells #[.int .i64 0, .int .i64 0, .int .i64 0] 71 (0, 0)) := h6
      refine r_use fok48 (find w5 k5) rfl ?_
      rintro _ w4 ⟨k4, p, rfl, hp⟩
      refine ⟨_, rfl, r_keep k4 ?_⟩
      rw [(idx_lv hp hex).1, tri_at (hr.kp (Kp.trans k03 (Kp.trans k5 k4))) hlt]
      exact st71 (block_below h6' k4) fun w6 c6 s6 h66 => hkk _ _ ⟨b6, rfl, Kp.of_chg (Kp.trans k5 k4) c6 fun q e => by omega, h66⟩

end Go.Proofs.YtkdcldbedbagjaaDoor
