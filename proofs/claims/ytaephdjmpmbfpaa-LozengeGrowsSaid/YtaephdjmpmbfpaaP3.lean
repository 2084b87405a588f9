/- Contracts: boxed; LozengeOrder. -/
import Derived.Test.YtaephdjmpmbfpaaP2
import Derived.Test.YtaephdjmpmbfpaaAlive
set_option linter.all false
namespace Go.Proofs.Ytaephdjmpmbfpaa
open Go.Lf Go.RowKit Go.Hp

def pathsAll : Bool := (List.range 4).all fun a => (List.range 4).all fun b => (List.range 4).all fun c => decide (pathsN (a + 1 : Nat) (b + 1 : Nat) (c + 1 : Nat) = countN (a + 1 : Nat) (b + 1 : Nat) (c + 1 : Nat))
theorem pathsAll_true : pathsAll = true := by decide +kernel

theorem paths_count {a b c : Nat} (ha : 1 ≤ a ∧ a ≤ 4) (hb : 1 ≤ b ∧ b ≤ 4) (hc : 1 ≤ c ∧ c ≤ 4) : pathsN a b c = ((heaps a b c).length : Nat) := by
  have h := pathsAll_true
  simp only [pathsAll, List.all_eq_true, List.mem_range, decide_eq_true_eq] at h
  have := h (a - 1) (by omega) (b - 1) (by omega) (c - 1) (by omega)
  rw [show a - 1 + 1 = a by omega, show b - 1 + 1 = b by omega, show c - 1 + 1 = c by omega] at this
  rw [this, countN, if_pos (by simp [validB]; omega)]
  exact ways_length _ _ _

theorem heaps_pos {a b c : Nat} (hb : 1 ≤ b ∧ b ≤ 4) : 0 < (heaps a b c).length := by
  have := iterN_heaps (A := a) (B := b) (C := c) (by omega) hb.2 (by omega) 0
  have h0 : (heaps a b c)[0]? = some (zeros a b) := by rw [← this]; rfl
  exact (List.getElem?_eq_some_iff.1 h0).1

theorem bd25' (x y z : Int) (K : Value → Prop) : bdQ Try.prog 25 [(0, .int .i64 x), (1, .int .i64 y), (2, .int .i64 z)] K = K (boxV x y z) := by kernel_rfl

/-- A measure of 1 to 4. -/
def side (n : Nat) : Nat := 1 + n % 4
theorem side_range (n : Nat) : 1 ≤ side n ∧ side n ≤ 4 := by unfold side; omega

theorem valid_sides (a b c : Nat) : validB (side a) (side b) (side c) = true := by
  have := side_range a
  have := side_range b
  have := side_range c
  simp [validB]; omega

/-- The place of the heap that boxed chooses. -/
def rankOf (a b c r : Nat) : Nat := r % (heaps (side a) (side b) (side c)).length
theorem rankOf_lt (a b c r : Nat) : rankOf a b c r < (heaps (side a) (side b) (side c)).length := Nat.mod_lt _ (heaps_pos (side_range b))

/-- The heap that boxed chooses. -/
def heapOf (a b c r : Nat) : List (List Int) := (heaps (side a) (side b) (side c)).getD (rankOf a b c r) []
theorem heapOf_get (a b c r : Nat) : (heaps (side a) (side b) (side c))[rankOf a b c r]? = some (heapOf a b c r) := by
  unfold heapOf
  rw [List.getD_eq_getElem?_getD, List.getElem?_eq_getElem (rankOf_lt a b c r)]
  rfl

theorem u8_side (n : Nat) (h : n ≤ 255) (w : World) (K : Value → Prop) : (binQ Try.prog w .rem 5 true (.int .u8 n) (.int .u8 4) fun t => cv1 .i64 t fun t => binQ Try.prog w .add 3 true (.int .i64 1) t K) = K (.int .i64 (side n)) := by
  have e4 : ((4 : Nat) : Int) = 4 := rfl
  have e1 : ((n % 4 : Nat) : Int) = (n : Int) % 4 := by omega
  have h1 := r_remN (P := Try.prog) (w := w) (t := 5) (lit := true) (k := .u8) (K := fun t => cv1 .i64 t fun t => binQ Try.prog w .add 3 true (.int .i64 1) t K) n 4 (by decide)
  rw [e4] at h1
  rw [h1, r_cv, IntWalk.i64_in _ (by omega), r_add _ _ (by omega) (by omega)]
  congr 2

set_option maxRecDepth 100000 in
theorem boxed_calls (a b c r : Nat) (w : World) (ha : a ≤ 255) (hb : b ≤ 255) (hc : c ≤ 255) (hr : r ≤ 4294967295) :
    Calls Try.prog 12 #[.int .u8 a, .int .u8 b, .int .u8 c, .int .u32 r] w fun e w' => ∃ v, e = .returned (.tuple #[boxV (side a) (side b) (side c), v]) ∧ Kp w w' ∧ NewRows w w' v (heapOf a b c r) := by
  refine lift12 ?_
  unfold S12
  refine r_box fun b8 w1 e8 s8 h8 k8 => ?_
  rw [u8_side a ha, u8_side b hb, u8_side c hc, bd25']
  refine r_box fun b10 w2 e10 s10 h10 k10 => ?_
  refine r_stAll (n := 3) (ty := 25) (by kernel_rfl) rfl (by intro u hu; simp [Value.cells] at hu; rcases hu with rfl | rfl | rfl <;> rfl) h10 rfl fun w3 c3 s3 h3 => ?_
  have hk3 : Kp w w3 := Kp.of_chg (Kp.trans k8 k10) c3 fun i e => by omega
  have h83 := c3.at (block_below h8 k10) (by omega)
  rw [r_ldRow (n := 3) h3 rfl]
  refine r_use fok26 (refpaths_calls _ _ _ w3) rfl ?_
  rintro _ w4 ⟨rfl, k4⟩
  refine ⟨_, rfl, ?_⟩
  simp only [r_ex2a, r_ex2b]
  refine r_drew fun w5 k5 _ => ?_
  have hk5 := Kp.trans hk3 (Kp.trans k4 k5)
  have h35 := block_below h3 (Kp.trans k4 k5)
  have hp := paths_count (side_range a) (side_range b) (side_range c)
  have hpos := heaps_pos (a := side a) (c := side c) (side_range b)
  rw [r_ldRow (n := 3) h35 rfl, r_cv, IntWalk.i64_in _ (by omega), hp, r_remN _ _ hpos]
  refine r_use fok34 (refheap_calls _ _ _ ((r % (heaps (side a) (side b) (side c)).length : Nat) : Int) w5 (by have := Nat.mod_le r (heaps (side a) (side b) (side c)).length; omega)) rfl ?_
  rintro _ w6 ⟨v, err, rfl, k6, hres⟩
  refine ⟨_, rfl, ?_⟩
  have h36 := block_below h35 k6
  have h86 := block_below h83 (Kp.trans k4 (Kp.trans k5 k6))
  simp only [r_ex2a, r_ex2b]
  rw [r_ldRow (n := 3) h36 rfl]
  refine r_stAll (n := 3) (ty := 25) (by kernel_rfl) rfl (by intro u hu; simp [Value.cells] at hu; rcases hu with rfl | rfl | rfl <;> rfl) h86 rfl fun w7 c7 s7 h7 => ?_
  rw [r_ldRow (n := 3) h7 rfl]
  refine ⟨v, rfl, Kp.of_chg (Kp.trans hk5 k6) c7 fun i e => by omega, ?_⟩
  have hget := heapOf_get a b c r
  unfold rankOf at hget
  unfold RefHeap at hres
  rw [if_neg (by rw [valid_sides]; decide), if_neg (by omega)] at hres
  simp only [Int.toNat_natCast] at hres
  rw [iterN_heaps (by have := side_range b; omega) (side_range b).2 (by omega), hget] at hres
  obtain ⟨⟨g, bs, ho, hg, hbs⟩, _⟩ := hres
  have s5 := hk5.size
  have hb8 : b8 < w5.heap.size := by have := block_lt (block_below h83 (Kp.trans k4 k5)); exact this
  refine ⟨g, bs, ho.chg c7 (by omega) fun i hi e => ?_, by omega, fun i hi => ?_⟩
  · have := hbs i hi; omega
  · have := hbs i hi; omega

theorem NewRows.own {w w' : World} {v : Value} {h : List (List Int)} (n : NewRows w w' v h) : ∃ g bs, OwnRows w' v g bs h ∧ w.heap.size ≤ g ∧ ∀ i, i < h.length → w.heap.size ≤ bs i := n

theorem heapOf_mem (a b c r : Nat) : heapOf a b c r ∈ heaps (side a) (side b) (side c) := List.mem_of_getElem? (heapOf_get a b c r)
theorem heapOf_ok (a b c r : Nat) : heapOk (side a) (side b) (side c) (heapOf a b c r) = true := (heapOk_mem (by have := side_range b; omega) (side_range b).2).2 (heapOf_mem a b c r)

end Go.Proofs.Ytaephdjmpmbfpaa
