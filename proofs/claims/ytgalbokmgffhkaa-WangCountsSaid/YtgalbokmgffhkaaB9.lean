/- Contract: alive of the statements: what every right program knows of two small sets. -/
import Derived.Test.YtgalbokmgffhkaaB8
set_option linter.all false
namespace Go.Proofs.Ytgalbokmgffhkaa
open Go.Lf Go.RowKit Go.Wg

theorem rec_alloc {α : Type} {e : TypeId} {m : Nat} {enc : α → List Value} (he : ∀ x, (enc x).length = m) (P : List α) (hP : P.length ≤ 1000000) (w : World) : RecAt e m enc w.heap.size (w.alloc (.cells (recCells enc P).toArray e)) (.slice (some ⟨w.heap.size, 0, none⟩) P.length P.length) P := by
  have hl := recCells_length he P
  refine ⟨hl, .inr ⟨w.heap.size, P.length, _, rfl, Nat.le_refl _, heap_alloc_new w _, Nat.le_refl _, by unfold maxLen; omega, by simpa using hl, ?_⟩⟩
  rw [← hl]
  simp

theorem IRows.rd {base : Nat} {w : World} {v : Value} {R : List (List Int)} (h : IRows base w v R) (hR : R.length ≤ 1000000) (hr : ∀ r ∈ R, r.length ≤ 1000000) : RdRows w v R := by
  obtain ⟨vs, h1, h2, h3⟩ := h
  obtain ⟨a, cap, rfl, _⟩ := h1.len
  have hrow : ∀ i, i < R.length → ∃ u, vs[i]? = some u ∧ RdInts w u (R.getD i []) := fun i hi => by
    have e1 : vs[i]? = some (vs[i]'(by omega)) := List.getElem?_eq_getElem (by omega)
    have e2 : R[i]? = some (R.getD i []) := by rw [List.getElem?_eq_getElem hi, getD_lt _ _ _ hi]
    exact ⟨_, e1, ((h3 i _ _ e1 e2).rd iC_len).ints (hr _ (getD_mem hi))⟩
  refine ⟨a, cap, fun i => vs.getD i undef, by rw [h2], by omega, fun h0 => ?_, fun i hi => ?_⟩
  · obtain ⟨b, off, _, e, _, _⟩ := (h1.rd vE_len).at (i := 0) (x := vs[0]'(by omega)) (List.getElem?_eq_getElem (by omega))
    cases e
    refine ⟨b, off, rfl, fun i hi => ?_⟩
    obtain ⟨b', off', _, e', _, hc⟩ := (h1.rd vE_len).at (i := i) (x := vs[i]'(by omega)) (List.getElem?_eq_getElem (by omega))
    cases e'
    have := hc 0 _ rfl
    simp only [Nat.mul_one, Nat.add_zero] at this
    dsimp only
    rw [this, getD_lt _ _ _ (by omega)]
  · obtain ⟨u, q1, q2⟩ := hrow i hi
    have : vs.getD i undef = u := by rw [List.getD_eq_getElem?_getD, q1]; rfl
    dsimp only
    rw [this]
    exact q2

def l2 : List Tile := [(0, 0, 0, 0), (1, 0, 1, 0)]
def l1 : List Tile := [(0, 0, 1, 0)]
theorem lines1 : linesL l1 1 = [([0, 0, 0, 0], 0, 1, true)] := by decide
theorem ord1 : ordErr l1 1 2 = 0 := by decide
set_option maxRecDepth 100000 in
theorem count2 : countV l2 2 3 = .tuple #[.int .i64 4, .int .i64 0] := by kernel_rfl
set_option maxRecDepth 100000 in
theorem dead1 : (alvL (linesL l1 (1 : Int).toNat) (8 ^ (1 : Int).toNat) (2 : Int).toNat).any id = false := by kernel_rfl
theorem ok1 : okP 1 2 [[1, 1]] := fun i hi => by
  have : i = 0 := by simp at hi; omega
  subst this
  exact ⟨by decide, by decide⟩
theorem fin1 : finP (linesL l1 1) (deadL [[1, 1]]) := by
  have hd : ∀ c, deadL [[1, 1]] c = if c = 1 then 1 else 0 := fun c => by
    simp [deadL, deadF, code, upd]
  refine ⟨fun x hx => ?_, fun c hc x hx hxc => ?_⟩
  · rw [lines1] at hx
    simp at hx
    subst hx
    rw [hd]; decide
  · rw [lines1] at hx
    simp at hx
    subst hx
    simp at hxc
    subst hxc
    rw [hd] at hc
    exact absurd rfl hc

theorem bd32a (K : Value → Prop) : bdQ Try.prog 32 [] K = K (tlV (0, 0, 0, 0)) := by kernel_rfl
theorem bd32b (K : Value → Prop) : bdQ Try.prog 32 [(0, (.int .i64 1)), (2, (.int .i64 1))] K = K (tlV (1, 0, 1, 0)) := by kernel_rfl
theorem bd32c (K : Value → Prop) : bdQ Try.prog 32 [(2, (.int .i64 1))] K = K (tlV (0, 0, 1, 0)) := by kernel_rfl
theorem bs22b (w : World) (K : Value → World → Prop) : bsW Try.prog 22 2 [(0, tlV (0, 0, 0, 0)), (1, tlV (1, 0, 1, 0))] w K = K (.slice (some ⟨w.heap.size, 0, none⟩) 2 2) (w.alloc (.cells (recCells tlC l2).toArray 32)) := by kernel_rfl
theorem bs22a (w : World) (K : Value → World → Prop) : bsW Try.prog 22 1 [(0, tlV (0, 0, 1, 0))] w K = K (.slice (some ⟨w.heap.size, 0, none⟩) 1 1) (w.alloc (.cells (recCells tlC l1).toArray 32)) := by kernel_rfl
theorem bs30b (w : World) (K : Value → World → Prop) : bsW Try.prog 30 2 [(0, .int .i64 1), (1, .int .i64 1)] w K = K (.slice (some ⟨w.heap.size, 0, none⟩) 2 2) (w.alloc (.cells (recCells iC [1, 1]).toArray 3)) := by kernel_rfl

set_option maxRecDepth 100000 in
theorem law_alive (w : World) : Calls Try.prog 18 #[] w fun e w' => e = .returned (.bool true) ∧ Kp w w' := by
  refine lift18 ?_
  unfold S18
  rw [bd32a, bd32b, bs22b]
  have o1 := rec_alloc (e := 32) tlC_len l2 (by decide) w
  have k1 : Kp w (w.alloc (.cells (recCells tlC l2).toArray 32)) := below_alloc _
  generalize w.alloc (.cells (recCells tlC l2).toArray 32) = w1 at *
  refine r_use fok25 (count_calls 2 3 w1 (o1.rd tlC_len)) rfl ?_
  rintro _ w2 ⟨rfl, k2⟩
  refine ⟨_, rfl, ?_⟩
  rw [count2]
  simp only [r_ex2a, r_ex2b]
  rw [bd32c, bs22a]
  have o3 := rec_alloc (e := 32) tlC_len l1 (by decide) w2
  have k3 : Kp w2 (w2.alloc (.cells (recCells tlC l1).toArray 32)) := below_alloc _
  generalize hs2 : w2.heap.size = sz2 at *
  generalize w2.alloc (.cells (recCells tlC l1).toArray 32) = w3 at *
  rw [bs30b]
  have o4 := rec_alloc (e := 3) iC_len [1, 1] (by decide) w3
  have k4 : Kp w3 (w3.alloc (.cells (recCells iC [1, 1]).toArray 3)) := below_alloc _
  generalize hs3 : w3.heap.size = sz3 at *
  generalize w3.alloc (.cells (recCells iC [1, 1]).toArray 3) = w4 at *
  rw [bs23]
  have o5 := rec_one (e := 30) (enc := vE) (x := .slice (some ⟨sz3, 0, none⟩) 2 2) rfl w4
  have k5 : Kp w4 (w4.alloc (.cells #[.slice (some ⟨sz3, 0, none⟩) 2 2] 30)) := below_alloc _
  have s4 := k4.size
  generalize hs4 : w4.heap.size = sz4 at *
  generalize w4.alloc (.cells #[.slice (some ⟨sz3, 0, none⟩) 2 2] 30) = w5 at *
  have hIR : IRows sz3 w5 (.slice (some ⟨sz4, 0, none⟩) 1 1) [[1, 1]] := by
    refine ⟨[.slice (some ⟨sz3, 0, none⟩) 2 2], o5.down (by omega), rfl, fun i u r hu hr => ?_⟩
    match i with
    | 0 =>
      cases hu
      cases hr
      exact o4.kp k5
    | i + 1 => simp at hu
  have hset : RdT w5 (.slice (some ⟨sz2, 0, none⟩) 1 1) l1 := (o3.rd tlC_len).kp (Kp.trans k4 k5)
  refine r_use fok19 (refutes_calls 1 2 w5 hset (hIR.rd (by decide) (by simp))) rfl ?_
  rintro _ w6 ⟨k6, hpost⟩
  have hv : ∀ e, RefPost l1 1 2 [[1, 1]] e → e = .returned (.tuple #[.bool true, .int .i64 0]) := fun e he => by
    rcases he with ⟨h, _⟩ | ⟨_, h, _⟩ | ⟨_, _, r, rfl, hr⟩
    · exact absurd ord1 h
    · simp at h
    · have : r = true := hr.2 ⟨ok1, fin1⟩
      rw [this]
  have hv' := hv _ hpost
  subst hv'
  refine ⟨_, rfl, ?_⟩
  simp only [r_ex2a, r_ex2b]
  refine r_use fok32 (refute_calls 1 2 w6 (hset.kp k6) (fun _ => by rw [show (1 : Int).toNat = 1 from rfl, lines1]; decide)) rfl ?_
  rintro _ w7 ⟨k7, hpost⟩
  rcases hpost with ⟨h, _⟩ | ⟨_, h, _⟩ | ⟨_, _, ov, out, rfl, hI, kO, new, _, hperm, _, _, hnew, _⟩
  · exact absurd ord1 h
  · rw [dead1] at h; cases h
  refine ⟨_, rfl, ?_⟩
  have hlen : 1 ≤ out.length := by
    rw [hperm.length_eq, List.length_map]
    refine List.length_pos_of_mem (hnew ([0, 0, 0, 0], 0, 1, true) ?_)
    rw [show (1 : Int).toNat = 1 from rfl, lines1]
    simp
  obtain ⟨vs, p1, p2, _⟩ := hI
  obtain ⟨va, vcap, rfl, _⟩ := p1.len
  have hlen' : (1 : Int) ≤ (vs.length : Int) := by omega
  simp (disch := omega) only [r_ln, r_pick, r_pickT, r_pickF, r_condT, r_condF, r_gdTT, r_gdFF, r_gdTF, r_gdFT, r_gqTT, r_gqFF, r_gqTF, r_gqFT, r_not, r_lss, r_leq, r_gtr, r_geq, r_eql, r_neq, r_add, r_sub, r_min2, r_max2, r_min3, r_max3, r_fa, r_iaS, r_iaA, r_ex2a, r_ex2b, r_ex3a, r_ex3b, r_ex3c, r_nc, r_keepE, Nat.zero_add, Nat.add_zero, Nat.mul_one, Int.toNat_natCast, toNat_sub1, toNat_add1, decide_true, decide_false, Bool.not_true, Bool.not_false, if_true, if_false, Bool.false_eq_true, reduceCtorEq, decide_eq_true (rfl : (0 : Int) = 0), decide_eq_true (rfl : (4 : Int) = 4), decide_eq_true hlen']
  exact ⟨by first | rfl | trivial, Kp.trans (Kp.trans k1 k2) (Kp.trans (Kp.trans k3 k4) (Kp.trans k5 (Kp.trans k6 k7)))⟩

end Go.Proofs.Ytgalbokmgffhkaa
