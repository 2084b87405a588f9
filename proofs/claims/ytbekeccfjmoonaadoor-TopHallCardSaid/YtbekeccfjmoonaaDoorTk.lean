/- Contracts of weight: covered; ContainsFunc at tiles. -/
import Derived.Test.YtbekeccfjmoonaaDoorTj
import Derived.Test.YtbekeccfjmoonaaDoorSe
set_option linter.all false
namespace Go.Proofs.YtbekeccfjmoonaaDoor
open Go.Lf Go.RowKit Go.Ht

/-- The number of a cell. -/
def numI (P : List C2) (c : C2) : Int := ((P.idxOf c : Nat) : Int)
theorem numF_mem {P : List C2} {c : C2} (h : c ∈ P) : numF P c = some (.int .i64 (numI P c)) := by unfold numF numI; rw [if_pos h]
theorem numF_not {P : List C2} {c : C2} (h : c ∉ P) : numF P c = none := by unfold numF; rw [if_neg h]
theorem stepC_zero (c : C2) : stepC c (0, 0) = c := by unfold stepC; simp

set_option maxRecDepth 100000 in
set_option maxHeartbeats 1000000 in
theorem covered_calls {base bf bm k : Nat} {vs v : Value} {P : List C2} {c : C2} (w : World) (hF : FloorAt base w bf bm vs P) (hr : RdC w v (domT k)) (hc : c ∈ P) (h0 : 0 ≤ c.1 ∧ c.1 ≤ 1000 ∧ 0 ≤ c.2 ∧ c.2 ≤ 1000) :
    Calls Tryd.prog 50 #[ptrV bf, v, cV c] w fun e w' => Kp w w' ∧ ((stepC c (domS k) ∈ P ∧ ∃ v', e = .returned (.tuple #[v', .bool true]) ∧ IntsAt w.heap.size w' v' [numI P c, numI P (stepC c (domS k))]) ∨ (stepC c (domS k) ∉ P ∧ ∃ x, e = .returned (.tuple #[x, .bool false]))) := by
  obtain ⟨a, cap, ev, _⟩ := hr.len
  have lnv : ∀ K : Value → Prop, ln1 v K = K (.int .i64 ((2 : Nat) : Int)) := fun K => by rw [ev]; rfl
  refine lift50 ?_
  unfold S50
  refine r_box fun b5 w1 e5 s5 h5 k1 => ?_
  have h5' : w1.heap[b5]? = some (.cells #[.int .i64 c.1, .int .i64 c.2] 43 (0, 0)) := h5
  rw [lnv]
  unfold S50L0
  refine ⟨fun t8 t15 w' => ∃ i : Nat, i ≤ 2 ∧ t15 = .int .i64 i ∧ IntsAt w1.heap.size w' t8 ([numI P c, numI P (stepC c (domS k))].take i) ∧ (∀ j, j < i → stepC c ((domT k).getD j (0, 0)) ∈ P) ∧ Kp w1 w', fun _ t15 _ => 2 - (intOf t15).toNat, ⟨0, by omega, rfl, RecAt.nil, fun j hj => by omega, Kp.refl _⟩, ?_⟩
  rintro _ t8 _ wr ⟨i, hi, rfl, hO, hall, kr⟩
  have k0r := Kp.trans k1 kr
  by_cases hlt : i < 2
  case neg =>
    have hlt' : ¬ (i : Int) < ((2 : Nat) : Int) := by omega
    rw [r_lss, decide_eq_false hlt', r_condF]
    obtain rfl : i = 2 := by omega
    exact ⟨k0r, .inl ⟨hall 1 (by omega), t8, rfl, RecAt.down hO k1.size⟩⟩
  have hlt' : (i : Int) < ((2 : Nat) : Int) := by omega
  rw [r_lss, decide_eq_true hlt', r_condT, cell_at (hr.kp k0r) (i := i) hlt]
  have hb : 0 ≤ ((domT k).getD i (0, 0)).1 ∧ ((domT k).getD i (0, 0)).1 ≤ 1 ∧ 0 ≤ ((domT k).getD i (0, 0)).2 ∧ ((domT k).getD i (0, 0)).2 ≤ 1 := by
    match i, hlt with
    | 0, _ => exact ⟨Int.le_refl 0, Int.zero_le_ofNat 1, Int.le_refl 0, Int.zero_le_ofNat 1⟩
    | 1, _ => show 0 ≤ (domS k).1 ∧ (domS k).1 ≤ 1 ∧ 0 ≤ (domS k).2 ∧ (domS k).2 ≤ 1; rcases domS_or k with e | e <;> rw [e] <;> exact ⟨by decide, by decide, by decide, by decide⟩
  have hq : [numI P c, numI P (stepC c (domS k))].take (i + 1) = [numI P c, numI P (stepC c (domS k))].take i ++ [numI P (stepC c ((domT k).getD i (0, 0)))] := by
    match i, hlt with
    | 0, _ => show [numI P c] = [numI P (stepC c (0, 0))]; rw [stepC_zero]
    | 1, _ => rfl
  have hlast : stepC c ((domT k).getD i (0, 0)) ∉ P → i = 1 := fun h => by
    match i, hlt with
    | 0, _ => exact absurd (by show stepC c (0, 0) ∈ P; rw [stepC_zero]; exact hc) h
    | 1, _ => rfl
  have hs1 : i = 1 → (domT k).getD i (0, 0) = domS k := fun e => by rw [e]; rfl
  generalize hqd : (domT k).getD i (0, 0) = q at *
  refine r_box fun b10 w2 e10 s10 h10 k2 => ?_
  have h10' : w2.heap[b10]? = some (.cells #[.int .i64 0, .int .i64 0] 43 (0, 0)) := h10
  refine st43 (p := q) h10' fun w3 c3 s3 h103 => ?_
  have kr3 : Kp wr w3 := Kp.of_chg k2 c3 fun q e => by omega
  refine r_drew fun w4 k4 _ => ?_
  have kr4 := Kp.trans kr3 k4
  have F4 := hF.kp (Kp.trans k0r kr4)
  obtain ⟨c0, c1⟩ := c_cells (p := c) (block_below h5' (Kp.trans kr kr4))
  obtain ⟨d0, d1⟩ := c_cells (p := q) (block_below h103 k4)
  rw [r_nc, r_fa, r_ld F4.cells.2]
  simp only [r_fa, Nat.zero_add, r_ld c0, r_ld c1, r_ld d0, r_ld d1]
  rw [r_add _ _ (by omega) (by omega), r_add _ _ (by omega) (by omega), bd43]
  refine r_lkOG2 keyC und53 zero3 F4.mp (k := stepC c q) ⟨⟨by unfold stepC; dsimp only; omega, by unfold stepC; dsimp only; omega⟩, ⟨by unfold stepC; dsimp only; omega, by unfold stepC; dsimp only; omega⟩⟩ ?_
  rw [r_ex2a, r_ex2b, r_not]
  by_cases hm : stepC c q ∈ P
  · rw [numF_mem hm]
    show condW (.bool false) _ _
    rw [r_condF]
    show bsW Tryd.prog 31 1 [(0, .int .i64 (numI P (stepC c q)))] w4 _
    refine r_pushRec (x := numI P (stepC c q)) (ty := 31) slt31 iC_len rfl (fun K => bs31 _ _ _ K) (by simp [iC]; rfl) (by omega) (RecAt.kp hO kr4) (by simp; omega) (Kp.trans kr kr4).size fun v' w' o1 c1' _ => ?_
    rw [r_add _ _ (by omega) (by omega)]
    refine ⟨⟨i + 1, by omega, by go_num, by rw [hq]; exact o1, fun j hj => ?_, Kp.of_chg (Kp.trans kr kr4) c1' fun k' hk => (RecAt.lt hO hk).1⟩, by simp only [intOf]; omega⟩
    by_cases e : j = i
    · rw [e, hqd]; exact hm
    · exact hall j (by omega)
  · rw [numF_not hm]
    show condW (.bool true) _ _
    rw [r_condT]
    refine ⟨Kp.trans k0r kr4, .inr ⟨?_, _, rfl⟩⟩
    rw [← hs1 (hlast hm)]; exact hm

set_option maxRecDepth 100000 in
theorem same_calls {v u : Value} {b : Nat} (w : World) (hb : w.cell? ⟨b, 0, none⟩ = some u) (hr : RdC w v (domT 0)) (hu : RdC w u (domT 1)) : Calls Tryd.prog 48 #[v, ptrV b] w fun e w' => e = .returned (.bool false) ∧ Kp w w' := by
  refine lift48 ?_
  unfold S48
  rw [r_ld hb]
  refine r_use fok49 (equal_calls w hr hu) rfl ?_
  rintro _ w1 ⟨rfl, k1⟩
  exact ⟨_, rfl, rfl, k1⟩

set_option maxRecDepth 100000 in
theorem idx72_calls {v u : Value} {L : List Value} {b : Nat} (w : World) (hv : Rd 1 vE w v L) (hl : L.length ≤ 1000) (hb : w.cell? ⟨b, 0, none⟩ = some u) (hL : ∀ x ∈ L, RdC w x (domT 0) ∧ RdC w u (domT 1)) :
    Calls Tryd.prog 72 #[v, .func (.func 48) #[] #[ptrV b]] w fun e w' => e = .returned (.int .i64 (-1)) ∧ Kp w w' := by
  obtain ⟨a, cap, ev, _⟩ := hv.len
  have lnv : ∀ K : Value → Prop, ln1 v K = K (.int .i64 L.length) := fun K => by rw [ev]; rfl
  refine lift72 ?_
  unfold S72
  rw [lnv]
  unfold S72L0
  refine ⟨fun t8 wr => ∃ i : Nat, i ≤ L.length ∧ t8 = .int .i64 i ∧ Kp w wr, fun t8 _ => L.length - (intOf t8).toNat, ⟨0, by omega, rfl, Kp.refl _⟩, ?_⟩
  rintro _ _ wr ⟨i, hi, rfl, kr⟩
  by_cases hlt : i < L.length
  case neg =>
    have hlt' : ¬ (i : Int) < (L.length : Int) := by omega
    rw [r_lss, decide_eq_false hlt', r_condF]
    exact ⟨rfl, kr⟩
  have hlt' : (i : Int) < (L.length : Int) := by omega
  obtain ⟨b', off, cap', e2, _, hc⟩ := (hv.kp kr).at (List.getElem?_eq_getElem hlt)
  have hA := hc 0 _ rfl
  rw [Nat.add_zero] at hA
  have hii : (i : Int).toNat = i := by omega
  rw [r_lss, decide_eq_true hlt', r_condT, e2, r_iaS _ _ _ _ _ _ _ (by omega) (by omega), hii, r_ld hA]
  obtain ⟨g1, g2⟩ := hL L[i] (List.getElem_mem hlt)
  refine r_use fok48 (same_calls wr (cell_later kr hb) (g1.kp kr) (g2.kp kr)) rfl ?_
  rintro _ w2 ⟨rfl, k2⟩
  refine ⟨_, rfl, ?_⟩
  rw [r_condF, r_add _ _ (by omega) (by omega)]
  exact ⟨⟨i + 1, by omega, by go_num, Kp.trans kr k2⟩, by simp only [intOf]; omega⟩

set_option maxRecDepth 100000 in
theorem twice_calls {v u : Value} {L : List Value} {b : Nat} (w : World) (hv : Rd 1 vE w v L) (hl : L.length ≤ 1000) (hb : w.cell? ⟨b, 0, none⟩ = some u) (hL : ∀ x ∈ L, RdC w x (domT 0) ∧ RdC w u (domT 1)) :
    Calls Tryd.prog 47 #[v, .func (.func 48) #[] #[ptrV b]] w fun e w' => e = .returned (.bool false) ∧ Kp w w' := by
  refine lift47 ?_
  unfold S47
  refine r_use fok72 (idx72_calls w hv hl hb hL) rfl ?_
  rintro _ w1 ⟨rfl, k1⟩
  refine ⟨_, rfl, ?_⟩
  rw [r_geq, decide_eq_false (by omega)]
  exact ⟨rfl, k1⟩

end Go.Proofs.YtbekeccfjmoonaaDoor
