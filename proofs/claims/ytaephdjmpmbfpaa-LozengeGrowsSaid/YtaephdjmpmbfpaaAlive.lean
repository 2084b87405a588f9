/- Contract: alive. -/
import Derived.Test.YtaephdjmpmbfpaaRank
set_option linter.all false
namespace Go.Proofs.Ytaephdjmpmbfpaa
open Go.Lf Go.RowKit Go.Hp

theorem bd25 (x y z : Int) (K : Value → Prop) : bdQ Try.prog 25 [(0, .int .i64 x), (1, .int .i64 y), (2, .int .i64 z)] K = K (boxV x y z) := by kernel_rfl
theorem bs36_2 (x y : Int) (w : World) (K : Value → World → Prop) : bsW Try.prog 36 2 [(0, .int .i64 x), (1, .int .i64 y)] w K = K (.slice (some ⟨w.heap.size, 0, none⟩) 2 2) (w.alloc (.cells #[.int .i64 x, .int .i64 y] 3)) := by kernel_rfl

theorem rd_pair {w : World} {b : Nat} {t : TypeId} {fr : Nat × Nat} {x y : Int} (h : w.heap[b]? = some (.cells #[.int .i64 x, .int .i64 y] t fr)) : RdInts w (.slice (some ⟨b, 0, none⟩) 2 2) [x, y] := by
  refine ⟨_, 2, rfl, by simp, fun _ => ⟨b, 0, rfl, fun i hi => ?_⟩⟩
  rw [Nat.zero_add, cell_row h]
  match i, hi with
  | 0, _ => rfl
  | 1, _ => rfl

theorem known_count : countN 2 2 2 = 20 := by decide +kernel
theorem known_paths : pathsN 2 2 2 = 20 := by decide +kernel
theorem known_err : boxErr 2 2 2 = 0 := by decide +kernel
theorem known_heap : heapErr 2 2 2 [[2, 1], [1, 0]] = 0 := by decide +kernel
theorem known_rank : rankM 2 2 2 [[2, 1], [1, 0]] 2 = 10 := by decide +kernel

set_option maxRecDepth 100000 in
theorem alive_calls (w : World) : Calls Try.prog 17 #[] w fun e w' => e = .returned (.bool true) ∧ Kp w w' := by
  refine lift17 ?_
  unfold S17
  rw [bd25]
  refine r_box fun b w1 e1 s1 h1 k1 => ?_
  refine r_stAll (n := 3) (ty := 25) (by kernel_rfl) rfl (by intro u hu; simp [Value.cells] at hu; rcases hu with rfl | rfl | rfl <;> rfl) h1 rfl fun w2 c2 s2 h2 => ?_
  have k2 : Kp w w2 := Kp.of_chg k1 c2 fun i e => by omega
  rw [r_ldRow (n := 3) h2 rfl]
  refine r_use fok21 (countf_calls 2 2 2 w2) rfl ?_
  rintro _ w3 ⟨rfl, k3⟩
  refine ⟨_, rfl, ?_⟩
  have h3 := block_below h2 k3
  simp only [r_ex2a, r_ex2b, known_count, known_err]
  rw [r_ldRow (n := 3) h3 rfl]
  refine r_use fok25 (paths_calls 2 2 2 w3) rfl ?_
  rintro _ w4 ⟨rfl, k4⟩
  refine ⟨_, rfl, ?_⟩
  have h4 := block_below h3 k4
  simp only [r_ex2a, r_ex2b, known_paths, known_err]
  rw [r_ldRow (n := 3) h4 rfl, bs36_2, bs36_2, bs26_2]
  have n5 := heap_alloc_new w4 (.cells #[.int .i64 2, .int .i64 1] 3)
  have k5 : Kp w4 (w4.alloc (.cells #[.int .i64 2, .int .i64 1] 3)) := below_alloc _
  generalize w4.alloc (.cells #[.int .i64 2, .int .i64 1] 3) = w5 at *
  have n6 := heap_alloc_new w5 (.cells #[.int .i64 1, .int .i64 0] 3)
  have k6 : Kp w5 (w5.alloc (.cells #[.int .i64 1, .int .i64 0] 3)) := below_alloc _
  generalize w5.alloc (.cells #[.int .i64 1, .int .i64 0] 3) = w6 at *
  have hrr := rd_two (rd_pair (block_below n5 k6)) (rd_pair n6) rfl
  refine r_use fok18 (rank_calls 2 2 2 _ [[2, 1], [1, 0]] _ hrr) rfl ?_
  rintro _ w7 ⟨rfl, k7⟩
  refine ⟨_, rfl, ?_⟩
  have e2 : (2 : Int).toNat = 2 := rfl
  simp (disch := omega) only [r_ln, r_pick, r_pickT, r_pickF, r_condT, r_condF, r_gdTT, r_gdFF, r_gdTF, r_gdFT, r_gqTT, r_gqFF, r_gqTF, r_gqFT, r_not, r_lss, r_leq, r_gtr, r_geq, r_eql, r_neq, r_add, r_sub, r_min2, r_max2, r_min3, r_max3, r_fa, r_iaS, r_iaA, r_ex2a, r_ex2b, r_ex3a, r_ex3b, r_ex3c, r_nc, r_keepE, Nat.zero_add, Nat.add_zero, Nat.mul_one, Int.toNat_natCast, toNat_sub1, toNat_add1, decide_true, decide_false, Bool.not_true, Bool.not_false, if_true, if_false, Bool.false_eq_true, reduceCtorEq, known_heap, e2, known_rank]
  exact ⟨trivial, Kp.trans (Kp.trans k2 (Kp.trans k3 k4)) (Kp.trans (Kp.trans k5 k6) (Kp.trans (below_alloc _) k7))⟩

end Go.Proofs.Ytaephdjmpmbfpaa
