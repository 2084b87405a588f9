/- Contracts: both, tiled. -/
import Derived.Test.YtbekeccfjmoonaaDoorTq
set_option linter.all false
namespace Go.Proofs.YtbekeccfjmoonaaDoor
open Go.Lf Go.RowKit Go.Ht

set_option maxRecDepth 100000 in
theorem bs61 (x y : C2) (w : World) (K : Value → World → Prop) : bsW Tryd.prog 61 2 [(0, cV x), (1, cV y)] w K = K (.slice (some ⟨w.heap.size, 0, none⟩) 2 2) (w.alloc (.cells #[.int .i64 x.1, .int .i64 x.2, .int .i64 y.1, .int .i64 y.2] 43)) := by kernel_rfl
set_option maxRecDepth 100000 in
theorem bs28 (a b : Option Addr) (n c m d : Nat) (w : World) (K : Value → World → Prop) : bsW Tryd.prog 28 2 [(0, .slice a n c), (1, .slice b m d)] w K = K (.slice (some ⟨w.heap.size, 0, none⟩) 2 2) (w.alloc (.cells #[.slice a n c, .slice b m d] 61)) := by kernel_rfl
set_option maxRecDepth 100000 in
theorem bs22_3 (x y z : ByteArray) (w : World) (K : Value → World → Prop) : bsW Tryd.prog 22 3 [(0, .string x), (1, .string y), (2, .string z)] w K = K (.slice (some ⟨w.heap.size, 0, none⟩) 3 3) (w.alloc (.cells #[.string x, .string y, .string z] 9)) := by kernel_rfl

set_option maxRecDepth 100000 in
theorem both_calls (w : World) : Calls Tryd.prog 8 #[] w fun e w' => Kp w w' ∧ ∃ tv, e = .returned tv ∧ TilesAt w' tv := by
  refine lift8 ?_
  unfold S8
  simp only [bd43]
  have two : ∀ (x y : C2) (w : World), RdC (w.alloc (.cells #[.int .i64 x.1, .int .i64 x.2, .int .i64 y.1, .int .i64 y.2] 43)) (.slice (some ⟨w.heap.size, 0, none⟩) 2 2) [x, y] := fun x y w => by
    have h := (rec_alloc (e := 43) cC_len [x, y] (by simp) w).rd cC_len
    simp [recCells, cC] at h
    exact h
  rw [bs61, bs61]
  have t1 := two (0, 0) (1, 0) w
  have k1 : Kp w (w.alloc (.cells #[.int .i64 0, .int .i64 0, .int .i64 1, .int .i64 0] 43)) := below_alloc _
  generalize (w.alloc (.cells #[.int .i64 0, .int .i64 0, .int .i64 1, .int .i64 0] 43)) = w1 at *
  have t2 := two (0, 0) (0, 1) w1
  have k2 : Kp w1 (w1.alloc (.cells #[.int .i64 0, .int .i64 0, .int .i64 0, .int .i64 1] 43)) := below_alloc _
  generalize (w1.alloc (.cells #[.int .i64 0, .int .i64 0, .int .i64 0, .int .i64 1] 43)) = w2 at *
  rw [bs28]
  have k3 : Kp w2 (w2.alloc (.cells #[.slice (some ⟨w.heap.size, 0, none⟩) 2 2, .slice (some ⟨w1.heap.size, 0, none⟩) 2 2] 61)) := below_alloc _
  refine ⟨Kp.trans k1 (Kp.trans k2 k3), _, rfl, _, _, ?_, (t1.kp k2).kp k3, t2.kp k3⟩
  have h := (rec_alloc (e := 61) vE_len [Value.slice (some ⟨w.heap.size, 0, none⟩) 2 2, Value.slice (some ⟨w1.heap.size, 0, none⟩) 2 2] (by simp) w2).rd vE_len
  simp [recCells] at h
  exact h

/-- The floor of the closed example. -/
def l9 : List ByteArray := [⟨#[35, 35, 35]⟩, ⟨#[35, 35, 35]⟩, ⟨#[35, 35, 46]⟩]
theorem l9_of : ofB 8 l9 = true := by kernel_rfl
theorem l9_fl : flB l9 = true := by kernel_rfl
theorem l9_cnt : cntF l9 (wd l9 * l9.length) (0, 0) = 4 := by kernel_rfl
theorem l9_til : tilB l9 = 4 := by kernel_rfl
theorem l9_small : ∀ s ∈ l9, s.size ≤ 9223372036854775807 := by
  intro s hs
  simp only [l9, List.mem_cons, List.not_mem_nil, or_false] at hs
  rcases hs with rfl | rfl | rfl <;> decide

set_option maxRecDepth 100000 in
set_option maxHeartbeats 1000000 in
theorem tiled_calls (w : World) : Calls Tryd.prog 6 #[] w fun e w' => e = .returned (.bool true) ∧ Kp w w' := by
  refine lift6 ?_
  unfold S6
  rw [bs22_3]
  have mkR : ∀ w : World, RdB (w.alloc (.cells #[.string ⟨#[35, 35, 35]⟩, .string ⟨#[35, 35, 35]⟩, .string ⟨#[35, 35, 46]⟩] 9)) (.slice (some ⟨w.heap.size, 0, none⟩) 3 3) l9 := fun w => by
    have h := (rec_alloc (e := 9) sC_len l9 (by simp [l9]) w).rd sC_len
    simp [recCells, sC, l9] at h
    exact h
  have h1 := mkR w
  have k1 : Kp w (w.alloc (.cells #[.string ⟨#[35, 35, 35]⟩, .string ⟨#[35, 35, 35]⟩, .string ⟨#[35, 35, 46]⟩] 9)) := below_alloc _
  generalize (w.alloc (.cells #[.string ⟨#[35, 35, 35]⟩, .string ⟨#[35, 35, 35]⟩, .string ⟨#[35, 35, 46]⟩] 9)) = w1 at *
  refine r_use fok9 (Count_calls w1 h1 l9_small (by decide)) rfl ?_
  rintro _ w2 ⟨k2, rfl⟩
  refine ⟨_, rfl, ?_⟩
  rw [r_ex2a, r_ex2b, l9_of, if_pos rfl, if_pos rfl, l9_cnt, bs22_3]
  have h2 := mkR w2
  have k3 : Kp w2 (w2.alloc (.cells #[.string ⟨#[35, 35, 35]⟩, .string ⟨#[35, 35, 35]⟩, .string ⟨#[35, 35, 46]⟩] 9)) := below_alloc _
  generalize (w2.alloc (.cells #[.string ⟨#[35, 35, 35]⟩, .string ⟨#[35, 35, 35]⟩, .string ⟨#[35, 35, 46]⟩] 9)) = w3 at *
  refine r_use fok8 (both_calls w3) rfl ?_
  rintro _ w4 ⟨k4, tv, rfl, hT⟩
  refine ⟨_, rfl, ?_⟩
  refine r_use fok7 (Tilings_calls w4 (h2.kp k4) l9_small hT) rfl ?_
  rintro _ w5 ⟨k5, rfl⟩
  refine ⟨_, rfl, ?_⟩
  rw [r_ex2a, r_ex2b, l9_fl, if_pos rfl, if_pos rfl, l9_til]
  simp only [r_eql, decide_eq_true (show (0 : Int) = 0 from rfl), r_gdTT, decide_eq_true (show ((4 : Nat) : Int) = 4 from rfl), r_pickT]
  exact ⟨by first | rfl | trivial, Kp.trans k1 (Kp.trans k2 (Kp.trans k3 (Kp.trans k4 k5)))⟩

end Go.Proofs.YtbekeccfjmoonaaDoor
