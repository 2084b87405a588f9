/- Contracts: gcd; LozengeMacMahon. -/
import Derived.Test.YtaephdjmpmbfpaaV3
import Derived.Test.YtaephdjmpmbfpaaW1
import Derived.Test.YtaephdjmpmbfpaaSg
import Derived.Test.YtaephdjmpmbfpaaSym
set_option linter.all false
namespace Go.Proofs.Ytaephdjmpmbfpaa
open Go.Lf Go.RowKit Go.Hp

set_option maxRecDepth 100000 in
theorem gcd_calls (a b : Nat) (w : World) (ha : a ≤ 9223372036854775807) : Calls Try.prog 35 #[.int .i64 a, .int .i64 b] w fun e w' => e = .returned (.int .i64 (Nat.gcd a b : Nat)) ∧ Kp w w' := by
  refine lift35 ?_
  unfold S35
  refine ⟨fun t0 t1 wr => ∃ x y : Nat, t0 = .int .i64 x ∧ t1 = .int .i64 y ∧ Nat.gcd x y = Nat.gcd a b ∧ Kp w wr, fun _ t1 _ => (intOf t1).toNat, ⟨a, b, rfl, rfl, rfl, Kp.refl _⟩, ?_⟩
  rintro _ _ _ wr ⟨x, y, rfl, rfl, hg, hk⟩
  by_cases hy : y = 0
  · subst hy
    have h0 : ((0 : Nat) : Int) = 0 := rfl
    simp (disch := omega) only [r_ln, r_pick, r_pickT, r_pickF, r_condT, r_condF, r_gdTT, r_gdFF, r_gdTF, r_gdFT, r_gqTT, r_gqFF, r_gqTF, r_gqFT, r_not, r_lss, r_leq, r_gtr, r_geq, r_eql, r_neq, r_add, r_sub, r_min2, r_max2, r_min3, r_max3, r_fa, r_iaS, r_iaA, r_ex2a, r_ex2b, r_ex3a, r_ex3b, r_ex3c, r_nc, r_keepE, Nat.zero_add, Nat.add_zero, Nat.mul_one, Int.toNat_natCast, toNat_sub1, toNat_add1, decide_true, decide_false, Bool.not_true, Bool.not_false, if_true, if_false, Bool.false_eq_true, reduceCtorEq, h0]
    rw [← hg, Nat.gcd_zero_right]
    exact ⟨rfl, hk⟩
  · have hy' : ¬ (y : Int) = 0 := by omega
    simp (disch := omega) only [r_ln, r_pick, r_pickT, r_pickF, r_condT, r_condF, r_gdTT, r_gdFF, r_gdTF, r_gdFT, r_gqTT, r_gqFF, r_gqTF, r_gqFT, r_not, r_lss, r_leq, r_gtr, r_geq, r_eql, r_neq, r_add, r_sub, r_min2, r_max2, r_min3, r_max3, r_fa, r_iaS, r_iaA, r_ex2a, r_ex2b, r_ex3a, r_ex3b, r_ex3c, r_nc, r_keepE, Nat.zero_add, Nat.add_zero, Nat.mul_one, Int.toNat_natCast, toNat_sub1, toNat_add1, decide_true, decide_false, Bool.not_true, Bool.not_false, if_true, if_false, Bool.false_eq_true, reduceCtorEq, hy']
    refine r_drew fun w2 hk2 _ => ?_
    rw [r_remN _ _ (by omega)]
    have hlt := Nat.mod_lt x (show 0 < y by omega)
    refine ⟨⟨y, x % y, rfl, rfl, ?_, Kp.trans hk hk2⟩, by simp only [intOf]; omega⟩
    rw [← hg, Nat.gcd_comm x y, Nat.gcd_rec y x, Nat.gcd_comm]

/-- One step of the product. -/
def stepM (i j k : Nat) (s : Nat × Nat) : Nat × Nat :=
  let u := s.1 * (i + j + k - 1)
  let d := s.2 * (i + j + k - 2)
  (u / Nat.gcd u d, d / Nat.gcd u d)
def kLoop (i j : Nat) : Nat → Nat × Nat → Nat × Nat
  | 0, s => s
  | n + 1, s => stepM i j (n + 1) (kLoop i j n s)
def jLoop (i C : Nat) : Nat → Nat × Nat → Nat × Nat
  | 0, s => s
  | n + 1, s => kLoop i (n + 1) C (jLoop i C n s)
def iLoop (B C : Nat) : Nat → Nat × Nat → Nat × Nat
  | 0, s => s
  | n + 1, s => jLoop (n + 1) C B (iLoop B C n s)

/-- The state at a place. -/
def stM (B C i j k : Nat) : Nat × Nat := kLoop (i + 1) (j + 1) k (jLoop (i + 1) C j (iLoop B C i (1, 1)))

def macSmall : Bool := (List.range 4).all fun b => (List.range 4).all fun c => (List.range 4).all fun i => (List.range 4).all fun j => (List.range 5).all fun k => let s := stM (b + 1) (c + 1) i j k; decide (s.1 ≤ 1000000000000) && decide (s.2 ≤ 1000000000000) && decide (1 ≤ s.2) && decide (1 ≤ s.1)
theorem macSmall_true : macSmall = true := by decide +kernel

theorem mac_small {B C i j k : Nat} (hB : 1 ≤ B ∧ B ≤ 4) (hC : 1 ≤ C ∧ C ≤ 4) (hi : i < 4) (hj : j < 4) (hk : k ≤ 4) : (stM B C i j k).1 ≤ 1000000000000 ∧ (stM B C i j k).2 ≤ 1000000000000 ∧ 1 ≤ (stM B C i j k).2 ∧ 1 ≤ (stM B C i j k).1 := by
  have h := macSmall_true
  simp only [macSmall, List.all_eq_true, List.mem_range] at h
  have := h (B - 1) (by omega) (C - 1) (by omega) i hi j hj k (by omega)
  simp only [Bool.and_eq_true, decide_eq_true_eq] at this
  rw [show B - 1 + 1 = B by omega, show C - 1 + 1 = C by omega] at this
  omega

def macOne (A B C : Nat) : Bool :=
  let n := (iLoop B C A (1, 1)).1
  decide ((iLoop B C A (1, 1)).2 = 1) && decide (countN A B C = (n : Int)) && decide (countN C A B = (n : Int)) && decide (pathsN A B C = (n : Int)) && decide (pathsN B A C = (n : Int))
def macAll : Bool := (List.range 4).all fun a => (List.range 4).all fun b => (List.range 4).all fun c => macOne (a + 1) (b + 1) (c + 1)
theorem macAll_true : macAll = true := by decide +kernel

theorem mac_one {A B C : Nat} (hA : 1 ≤ A ∧ A ≤ 4) (hB : 1 ≤ B ∧ B ≤ 4) (hC : 1 ≤ C ∧ C ≤ 4) : macOne A B C = true := by
  have h := macAll_true
  simp only [macAll, List.all_eq_true, List.mem_range] at h
  have := h (A - 1) (by omega) (B - 1) (by omega) (C - 1) (by omega)
  rwa [show A - 1 + 1 = A by omega, show B - 1 + 1 = B by omega, show C - 1 + 1 = C by omega] at this

/-! as many heaps of a volume as of what is missing -/

theorem heaps_nodup {A B : Nat} {C : Int} (hB0 : 0 < B) (hB : B ≤ 4) : (heaps A B C).Nodup := by
  refine List.pairwise_iff_getElem.2 fun i j hi hj hij he => ?_
  have h1 := heaps_less (A := A) (C := C) hB0 hB (List.getElem?_eq_getElem hi) (List.getElem?_eq_getElem hj)
  rw [he] at h1
  have h2 : lessB A B (heaps A B C)[j] (heaps A B C)[j] = false := by simp [lessB, cmpL_self]
  rw [h2] at h1
  simp at h1
  omega

theorem comp_mem {A B C : Nat} (hB0 : 0 < B) (hB : B ≤ 4) {h : List (List Int)} (hm : h ∈ heaps A B C) : compM A B C h ∈ heaps A B C :=
  (heapOk_mem (A := A) hB0 hB).1 (heapOk_iff.2 (comp_heap (heapOk_iff.1 ((heapOk_mem (A := A) hB0 hB).2 hm))))

theorem volC_comp {A B C : Nat} (hB0 : 0 < B) (hB : B ≤ 4) (v : Int) : volC (heaps A B C) v = volC (heaps A B C) (((A * B * C : Nat) : Int) - v) := by
  have hp : ((heaps A B (C : Int)).map (compM A B C)).Perm (heaps A B C) := by
    refine (List.perm_ext_iff_of_nodup ?_ (heaps_nodup hB0 hB)).2 fun t => ?_
    · refine List.pairwise_map.2 ((List.Pairwise.and_mem.1 (heaps_nodup (A := A) (C := (C : Int)) hB0 hB)).imp fun {x y} hxy he => hxy.2.2 ?_)
      rw [← comp_comp (C := C) (heaps_sized hB hxy.1), he, comp_comp (heaps_sized hB hxy.2.1)]
    · rw [List.mem_map]
      constructor
      · rintro ⟨x, hx, rfl⟩
        exact comp_mem hB0 hB hx
      · intro ht
        exact ⟨_, comp_mem hB0 hB ht, comp_comp (heaps_sized hB ht)⟩
  unfold volC
  rw [← (hp.filter _).length_eq, List.filter_map, List.length_map]
  congr 2
  refine List.filter_congr fun t ht => ?_
  simp only [Function.comp_def, comp_vol (heaps_sized hB ht)]
  exact decide_eq_decide.2 (by omega)

theorem sumTo_split (f : Nat → Int) (n : Nat) : ∀ m, sumTo f (n + m) = sumTo f n + sumTo (fun j => f (n + j)) m
  | 0 => by simp [sumTo]
  | m + 1 => by rw [← Nat.add_assoc, sumTo, sumTo_split f n m, sumTo]; omega
theorem sumTo_block (f : Nat → Int) (B : Nat) : ∀ A, sumTo (fun i => sumTo (fun j => f (i * B + j)) B) A = sumTo f (A * B)
  | 0 => by simp [sumTo]
  | A + 1 => by rw [sumTo, sumTo_block f B A, Nat.add_mul, Nat.one_mul, sumTo_split]
theorem sumTo_first (r : Nat) : ∀ n, r ≤ n → sumTo (fun p => if p < r then (1 : Int) else 0) n = r
  | 0, h => by have : r = 0 := by omega
               subst this; rfl
  | n + 1, h => by
    rw [sumTo]
    by_cases hr : r ≤ n
    · rw [sumTo_first r n hr, if_neg (by omega)]; omega
    · have : r = n + 1 := by omega
      subst this
      have e : sumTo (fun p => if p < n + 1 then (1 : Int) else 0) n = sumTo (fun _ => 1) n := sumTo_congr fun i hi => if_pos (by omega)
      rw [e, sumTo_const, if_pos (by omega)]; omega

theorem volC_pos {A B C v : Nat} (hA0 : 0 < A) (hB0 : 0 < B) (hB : B ≤ 4) (hv : v ≤ A * B * C) : 1 ≤ volC (heaps A B C) (v : Nat) := by
  have hP : 0 < A * B := Nat.mul_pos hA0 hB0
  have hdm := Nat.div_add_mod v (A * B)
  have hr := Nat.mod_lt v hP
  have hq : v / (A * B) ≤ C := Nat.div_le_of_le_mul hv
  have hqr : 0 < v % (A * B) → v / (A * B) < C := fun h0 => Nat.lt_of_le_of_ne hq fun e => by rw [e] at hdm; omega
  generalize v / (A * B) = q at *
  generalize v % (A * B) = r at *
  have hs := tabM_sized A B fun i j => (q : Int) + if i * B + j < r then 1 else 0
  have hheap : IsHeap A B C (tabM A B fun i j => (q : Int) + if i * B + j < r then 1 else 0) := by
    refine ⟨by rw [hs.1], fun i hi => ?_, fun i j hi hj => ?_, fun i j hi hj => ?_, fun i j hi hj => ?_, fun i j hi hj => ?_⟩
    all_goals rw [hs.1] at hi
    · rw [hs.2 i hi]
    · rw [tabM_hat hi (by omega)]; split <;> omega
    · rw [tabM_hat hi (by omega)]
      split
      · have := hqr (by omega); omega
      · omega
    · rw [tabM_hat hi (by omega), tabM_hat hi (by omega)]
      split <;> split <;> omega
    · rw [tabM_hat hi (by omega), tabM_hat (by omega) (by omega)]
      have e : (i + 1) * B = i * B + B := by rw [Nat.add_mul, Nat.one_mul]
      split <;> split <;> omega
  have hvol : volM (tabM A B fun i j => (q : Int) + if i * B + j < r then 1 else 0) = v := by
    rw [vol_sumTo hs]
    have e1 : sumTo (fun i => sumTo (fun j => hat (tabM A B fun i j => (q : Int) + if i * B + j < r then 1 else 0) i j) B) A = sumTo (fun i => sumTo (fun j => (q : Int) + if i * B + j < r then 1 else 0) B) A :=
      sumTo_congr fun i hi => sumTo_congr fun j hj => tabM_hat hi hj
    rw [e1, sumTo_block (fun p => (q : Int) + if p < r then 1 else 0), sumTo_add, sumTo_const, sumTo_first r _ (by omega), ← hdm]
    have : ((A * B * q : Nat) : Int) = ((A * B : Nat) : Int) * q := by simp
    omega
  have hm := (heapOk_mem (A := A) hB0 hB).1 (heapOk_iff.2 hheap)
  unfold volC
  have : 0 < ((heaps A B (C : Int)).filter fun h => decide (volM h = (v : Nat))).length := List.length_pos_of_mem (List.mem_filter.2 ⟨hm, by simpa using hvol⟩)
  omega

theorem r_quoNN {P : Program} {w : World} {K : Value → Prop} {t : TypeId} {lit : Bool} (x y : Nat) (h1 : 0 < y) (h2 : x ≤ 9223372036854775807) : binQ P w .quo t lit (.int .i64 x) (.int .i64 y) K = K (.int .i64 ((x / y : Nat) : Int)) := r_quoN x y h1 h2

set_option maxRecDepth 100000 in
theorem mac_calls (a b c : Nat) (w : World) (ha : a ≤ 255) (hb : b ≤ 255) (hc : c ≤ 255) : Calls Try.prog 7 #[.int .u8 a, .int .u8 b, .int .u8 c] w fun e w' => e = .returned (.bool true) ∧ Kp w w' := by
  refine lift7 ?_
  unfold S7
  rw [u8_side a ha, u8_side b hb, u8_side c hc, bd25']
  have hA := side_range a
  have hB := side_range b
  have hC := side_range c
  have hvs := valid_sides a b c
  generalize side a = A at *
  generalize side b = B at *
  generalize side c = C at *
  refine r_box fun b7 w1 e7 s7 h7 k7 => ?_
  refine r_stAll (n := 3) (ty := 25) (by kernel_rfl) rfl (by intro u hu; simp [Value.cells] at hu; rcases hu with rfl | rfl | rfl <;> rfl) h7 rfl fun w2 c2 s2 h2 => ?_
  have k2 : Kp w w2 := Kp.of_chg k7 c2 fun i e => by omega
  refine ⟨fun t8 t9 t10 wr => ∃ i : Nat, i ≤ A ∧ t10 = .int .i64 ((i : Int) + 1) ∧ t8 = .int .i64 (iLoop B C i (1, 1)).1 ∧ t9 = .int .i64 (iLoop B C i (1, 1)).2 ∧ Kp w2 wr, fun _ _ t10 _ => A + 1 - (intOf t10).toNat,
    ⟨0, by omega, rfl, rfl, rfl, Kp.refl _⟩, ?_⟩
  rintro _ _ _ _ wr ⟨i, hi, rfl, rfl, rfl, hkr⟩
  have hr2 := block_below h2 hkr
  obtain ⟨d0, d1, d2⟩ := box3 hr2
  by_cases hlt : i < A
  case pos =>
    have hlt' : (i : Int) + 1 ≤ (A : Int) := by omega
    simp (disch := omega) only [r_ln, r_pick, r_pickT, r_pickF, r_condT, r_condF, r_gdTT, r_gdFF, r_gdTF, r_gdFT, r_gqTT, r_gqFF, r_gqTF, r_gqFT, r_not, r_lss, r_leq, r_gtr, r_geq, r_eql, r_neq, r_add, r_sub, r_min2, r_max2, r_min3, r_max3, r_fa, r_iaS, r_iaA, r_ex2a, r_ex2b, r_ex3a, r_ex3b, r_ex3c, r_nc, r_keepE, Nat.zero_add, Nat.add_zero, Nat.mul_one, Int.toNat_natCast, toNat_sub1, toNat_add1, decide_true, decide_false, Bool.not_true, Bool.not_false, if_true, if_false, Bool.false_eq_true, reduceCtorEq, r_ld d0, hlt']
    refine ⟨fun t8 t9 t11 wq => ∃ j : Nat, j ≤ B ∧ t11 = .int .i64 ((j : Int) + 1) ∧ t8 = .int .i64 (jLoop (i + 1) C j (iLoop B C i (1, 1))).1 ∧ t9 = .int .i64 (jLoop (i + 1) C j (iLoop B C i (1, 1))).2 ∧ Kp wr wq, fun _ _ t11 _ => B + 1 - (intOf t11).toNat,
      ⟨0, by omega, rfl, rfl, rfl, Kp.refl _⟩, ?_⟩
    rintro _ _ _ _ wq ⟨j, hj, rfl, rfl, rfl, hkq⟩
    obtain ⟨f0, f1, f2⟩ := box3 (block_below hr2 hkq)
    by_cases hjl : j < B
    case neg =>
      have hjl' : ¬ (j : Int) + 1 ≤ (B : Int) := by omega
      have e : j = B := by omega
      subst e
      simp (disch := omega) only [r_ln, r_pick, r_pickT, r_pickF, r_condT, r_condF, r_gdTT, r_gdFF, r_gdTF, r_gdFT, r_gqTT, r_gqFF, r_gqTF, r_gqFT, r_not, r_lss, r_leq, r_gtr, r_geq, r_eql, r_neq, r_add, r_sub, r_min2, r_max2, r_min3, r_max3, r_fa, r_iaS, r_iaA, r_ex2a, r_ex2b, r_ex3a, r_ex3b, r_ex3c, r_nc, r_keepE, Nat.zero_add, Nat.add_zero, Nat.mul_one, Int.toNat_natCast, toNat_sub1, toNat_add1, decide_true, decide_false, Bool.not_true, Bool.not_false, if_true, if_false, Bool.false_eq_true, reduceCtorEq, r_ld f1, hjl']
      exact ⟨⟨i + 1, by omega, by go_num, rfl, rfl, Kp.trans hkr hkq⟩, by simp only [intOf]; omega⟩
    have hjl' : (j : Int) + 1 ≤ (B : Int) := by omega
    simp (disch := omega) only [r_ln, r_pick, r_pickT, r_pickF, r_condT, r_condF, r_gdTT, r_gdFF, r_gdTF, r_gdFT, r_gqTT, r_gqFF, r_gqTF, r_gqFT, r_not, r_lss, r_leq, r_gtr, r_geq, r_eql, r_neq, r_add, r_sub, r_min2, r_max2, r_min3, r_max3, r_fa, r_iaS, r_iaA, r_ex2a, r_ex2b, r_ex3a, r_ex3b, r_ex3c, r_nc, r_keepE, Nat.zero_add, Nat.add_zero, Nat.mul_one, Int.toNat_natCast, toNat_sub1, toNat_add1, decide_true, decide_false, Bool.not_true, Bool.not_false, if_true, if_false, Bool.false_eq_true, reduceCtorEq, r_ld f1, hjl']
    refine ⟨fun t8 t9 t12 wp => ∃ k : Nat, k ≤ C ∧ t12 = .int .i64 ((k : Int) + 1) ∧ t8 = .int .i64 (stM B C i j k).1 ∧ t9 = .int .i64 (stM B C i j k).2 ∧ Kp wq wp, fun _ _ t12 _ => C + 1 - (intOf t12).toNat,
      ⟨0, by omega, rfl, rfl, rfl, Kp.refl _⟩, ?_⟩
    rintro _ _ _ _ wp ⟨k, hk, rfl, rfl, rfl, hkp⟩
    obtain ⟨g0, g1, g2⟩ := box3 (block_below (block_below hr2 hkq) hkp)
    by_cases hkl : k < C
    case neg =>
      have hkl' : ¬ (k : Int) + 1 ≤ (C : Int) := by omega
      have e : k = C := by omega
      subst e
      simp (disch := omega) only [r_ln, r_pick, r_pickT, r_pickF, r_condT, r_condF, r_gdTT, r_gdFF, r_gdTF, r_gdFT, r_gqTT, r_gqFF, r_gqTF, r_gqFT, r_not, r_lss, r_leq, r_gtr, r_geq, r_eql, r_neq, r_add, r_sub, r_min2, r_max2, r_min3, r_max3, r_fa, r_iaS, r_iaA, r_ex2a, r_ex2b, r_ex3a, r_ex3b, r_ex3c, r_nc, r_keepE, Nat.zero_add, Nat.add_zero, Nat.mul_one, Int.toNat_natCast, toNat_sub1, toNat_add1, decide_true, decide_false, Bool.not_true, Bool.not_false, if_true, if_false, Bool.false_eq_true, reduceCtorEq, r_ld g2, hkl']
      exact ⟨⟨j + 1, by omega, by go_num, rfl, rfl, Kp.trans hkq hkp⟩, by simp only [intOf]; omega⟩
    have hkl' : (k : Int) + 1 ≤ (C : Int) := by omega
    obtain ⟨b1, b2, b3, b4⟩ := mac_small (i := i) (j := j) (k := k) hB hC (by omega) (by omega) (by omega)
    have hst : stM B C i j (k + 1) = stepM (i + 1) (j + 1) (k + 1) (stM B C i j k) := rfl
    generalize stM B C i j k = s at *
    obtain ⟨u, d⟩ := s
    simp only at b1 b2 b3 b4 ⊢
    have eu : ((i : Int) + 1 + ((j : Int) + 1) + ((k : Int) + 1) - 1) = ((i + j + k + 2 : Nat) : Int) := by omega
    have ed : ((i : Int) + 1 + ((j : Int) + 1) + ((k : Int) + 1) - 2) = ((i + j + k + 1 : Nat) : Int) := by omega
    have hu : u * (i + j + k + 2) ≤ 1000000000000 * 12 := Nat.mul_le_mul b1 (by omega)
    have hd : d * (i + j + k + 1) ≤ 1000000000000 * 12 := Nat.mul_le_mul b2 (by omega)
    simp (disch := omega) only [r_ln, r_pick, r_pickT, r_pickF, r_condT, r_condF, r_gdTT, r_gdFF, r_gdTF, r_gdFT, r_gqTT, r_gqFF, r_gqTF, r_gqFT, r_not, r_lss, r_leq, r_gtr, r_geq, r_eql, r_neq, r_add, r_sub, r_min2, r_max2, r_min3, r_max3, r_fa, r_iaS, r_iaA, r_ex2a, r_ex2b, r_ex3a, r_ex3b, r_ex3c, r_nc, r_keepE, Nat.zero_add, Nat.add_zero, Nat.mul_one, Int.toNat_natCast, toNat_sub1, toNat_add1, decide_true, decide_false, Bool.not_true, Bool.not_false, if_true, if_false, Bool.false_eq_true, reduceCtorEq, r_ld g2, hkl', eu, ed, r_mulN]
    refine r_use fok35 (gcd_calls (u * (i + j + k + 2)) (d * (i + j + k + 1)) wp (by omega)) rfl ?_
    rintro _ w3 ⟨rfl, k3⟩
    refine ⟨_, rfl, ?_⟩
    have hgp : 0 < Nat.gcd (u * (i + j + k + 2)) (d * (i + j + k + 1)) := Nat.gcd_pos_of_pos_left _ (Nat.mul_pos b4 (by omega))
    rw [r_quoNN _ _ hgp (by omega), r_quoNN _ _ hgp (by omega)]
    try simp (disch := omega) only [r_ln, r_pick, r_pickT, r_pickF, r_condT, r_condF, r_gdTT, r_gdFF, r_gdTF, r_gdFT, r_gqTT, r_gqFF, r_gqTF, r_gqFT, r_not, r_lss, r_leq, r_gtr, r_geq, r_eql, r_neq, r_add, r_sub, r_min2, r_max2, r_min3, r_max3, r_fa, r_iaS, r_iaA, r_ex2a, r_ex2b, r_ex3a, r_ex3b, r_ex3c, r_nc, r_keepE, Nat.zero_add, Nat.add_zero, Nat.mul_one, Int.toNat_natCast, toNat_sub1, toNat_add1, decide_true, decide_false, Bool.not_true, Bool.not_false, if_true, if_false, Bool.false_eq_true, reduceCtorEq]
    refine ⟨⟨k + 1, by omega, by go_num, ?_, ?_, Kp.trans hkp k3⟩, by simp only [intOf]; omega⟩
    · rw [hst]
      have e1 : i + 1 + (j + 1) + (k + 1) - 1 = i + j + k + 2 := by omega
      have e2 : i + 1 + (j + 1) + (k + 1) - 2 = i + j + k + 1 := by omega
      simp only [stepM, e1, e2]
    · rw [hst]
      have e1 : i + 1 + (j + 1) + (k + 1) - 1 = i + j + k + 2 := by omega
      have e2 : i + 1 + (j + 1) + (k + 1) - 2 = i + j + k + 1 := by omega
      simp only [stepM, e1, e2]
  have hlt' : ¬ (i : Int) + 1 ≤ (A : Int) := by omega
  have e : i = A := by omega
  subst e
  have hone := mac_one hA hB hC
  simp only [macOne, Bool.and_eq_true, decide_eq_true_eq] at hone
  obtain ⟨⟨⟨⟨m1, m2⟩, m3⟩, m4⟩, m5⟩ := hone
  rw [m1]
  generalize (iLoop B C i (1, 1)).1 = N at *
  simp (disch := omega) only [r_ln, r_pick, r_pickT, r_pickF, r_condT, r_condF, r_gdTT, r_gdFF, r_gdTF, r_gdFT, r_gqTT, r_gqFF, r_gqTF, r_gqFT, r_not, r_lss, r_leq, r_gtr, r_geq, r_eql, r_neq, r_add, r_sub, r_min2, r_max2, r_min3, r_max3, r_fa, r_iaS, r_iaA, r_ex2a, r_ex2b, r_ex3a, r_ex3b, r_ex3c, r_nc, r_keepE, Nat.zero_add, Nat.add_zero, Nat.mul_one, Int.toNat_natCast, toNat_sub1, toNat_add1, decide_true, decide_false, Bool.not_true, Bool.not_false, if_true, if_false, Bool.false_eq_true, reduceCtorEq, r_ld d0, hlt', r_ldRow (n := 3) hr2 rfl]
  refine r_use fok21 (countf_calls i B C wr) rfl ?_
  rintro _ x1 ⟨rfl, y1⟩
  refine ⟨_, rfl, ?_⟩
  have p1 := block_below hr2 y1
  simp only [r_ex2a, r_ex2b]
  rw [r_ldRow (n := 3) p1 rfl]
  refine r_use fok25 (paths_calls i B C x1) rfl ?_
  rintro _ x2 ⟨rfl, y2⟩
  refine ⟨_, rfl, ?_⟩
  have p2 := block_below p1 y2
  simp only [r_ex2a, r_ex2b]
  rw [r_ldRow (n := 3) p2 rfl]
  refine r_use fok27 (volumes_calls i B C x2) rfl ?_
  rintro _ x3 ⟨v3, err3, rfl, y3, hres3⟩
  refine ⟨_, rfl, ?_⟩
  have p3 := block_below p2 y3
  obtain ⟨q0, q1, q2⟩ := box3 p3
  simp only [r_ln, r_pick, r_pickT, r_pickF, r_condT, r_condF, r_gdTT, r_gdFF, r_gdTF, r_gdFT, r_gqTT, r_gqFF, r_gqTF, r_gqFT, r_not, r_lss, r_leq, r_gtr, r_geq, r_eql, r_neq, r_add, r_sub, r_min2, r_max2, r_min3, r_max3, r_fa, r_iaS, r_iaA, r_ex2a, r_ex2b, r_ex3a, r_ex3b, r_ex3c, r_nc, r_keepE, Nat.zero_add, Nat.add_zero, Nat.mul_one, Int.toNat_natCast, toNat_sub1, toNat_add1, decide_true, decide_false, Bool.not_true, Bool.not_false, if_true, if_false, Bool.false_eq_true, reduceCtorEq, r_ld q0, r_ld q1, r_ld q2, bd25']
  refine r_use fok21 (countf_calls C i B x3) rfl ?_
  rintro _ x4 ⟨rfl, y4⟩
  refine ⟨_, rfl, ?_⟩
  have p4 := block_below p3 y4
  obtain ⟨z0, z1, z2⟩ := box3 p4
  simp only [r_ln, r_pick, r_pickT, r_pickF, r_condT, r_condF, r_gdTT, r_gdFF, r_gdTF, r_gdFT, r_gqTT, r_gqFF, r_gqTF, r_gqFT, r_not, r_lss, r_leq, r_gtr, r_geq, r_eql, r_neq, r_add, r_sub, r_min2, r_max2, r_min3, r_max3, r_fa, r_iaS, r_iaA, r_ex2a, r_ex2b, r_ex3a, r_ex3b, r_ex3c, r_nc, r_keepE, Nat.zero_add, Nat.add_zero, Nat.mul_one, Int.toNat_natCast, toNat_sub1, toNat_add1, decide_true, decide_false, Bool.not_true, Bool.not_false, if_true, if_false, Bool.false_eq_true, reduceCtorEq, r_ld z0, r_ld z1, r_ld z2, bd25']
  refine r_use fok25 (paths_calls B i C x4) rfl ?_
  rintro _ x5 ⟨rfl, y5⟩
  refine ⟨_, rfl, ?_⟩
  have p5 := block_below p4 y5
  have hbe : ∀ A B C : Nat, (1 ≤ A ∧ A ≤ 4) → (1 ≤ B ∧ B ≤ 4) → (1 ≤ C ∧ C ≤ 4) → boxErr A B C = 0 := fun A B C h1 h2 h3 => (heaps_count (A := A) (B := B) (C := C) h1 h2 (by omega)).2
  unfold VolRes at hres3
  rw [if_pos hvs] at hres3
  obtain ⟨hr3, rfl⟩ := hres3
  simp only [Int.toNat_natCast] at hr3
  have hvl : volL (i * B * C + 1) (heaps i B (C : Int)) = sizedM B C i (topRow B C) := (sized_volL hB.2 i _ (top_good hB.2 (by omega))).symm
  have hlen := sized_length B C hB.2 i _ (top_good (C := (C : Int)) hB.2 (by omega))
  have hbd := sized_bound hB.2 i hA.2 _ (top_good (C := (C : Int)) hB.2 (by omega)) hC.2
  have m6 : ∀ k, k < (sizedM B C i (topRow B C)).length → (sizedM B C i (topRow B C)).getD k 0 = (sizedM B C i (topRow B C)).getD ((sizedM B C i (topRow B C)).length - 1 - k) 0 ∧ 1 ≤ (sizedM B C i (topRow B C)).getD k 0 := fun k hk => by
    rw [hlen] at hk ⊢
    rw [← hvl, volL_getD hk, volL_getD (by omega), volC_comp (by omega) hB.2]
    refine ⟨?_, ?_⟩
    · congr 1; omega
    · rw [← volC_comp (by omega) hB.2]; exact volC_pos (by omega) (by omega) hB.2 (by omega)
  have m8 : (sizedM B C i (topRow B C)).sum = (N : Int) := by
    rw [← hvl, volC_sum fun t ht => heaps_vol hB.2 ht, ← m2]
    exact (heaps_count (A := i) (B := B) (C := C) hA hB (by omega)).1.symm
  rw [hvl] at hr3
  generalize sizedM B C i (topRow B C) = l at *
  have e11 : ((1 : Nat) : Int) = 1 := rfl
  simp (disch := omega) only [e11, r_ln, r_pick, r_pickT, r_pickF, r_condT, r_condF, r_gdTT, r_gdFF, r_gdTF, r_gdFT, r_gqTT, r_gqFF, r_gqTF, r_gqFT, r_not, r_lss, r_leq, r_gtr, r_geq, r_eql, r_neq, r_add, r_sub, r_min2, r_max2, r_min3, r_max3, r_fa, r_iaS, r_iaA, r_ex2a, r_ex2b, r_ex3a, r_ex3b, r_ex3c, r_nc, r_keepE, Nat.zero_add, Nat.add_zero, Nat.mul_one, Int.toNat_natCast, toNat_sub1, toNat_add1, decide_true, decide_false, Bool.not_true, Bool.not_false, if_true, if_false, Bool.false_eq_true, reduceCtorEq, hbe _ _ _ hA hB hC, hbe _ _ _ hC hA hB, hbe _ _ _ hB hA hC, m2, m3, m4, m5]
  have hr5 := hr3.below (Kp.trans y4 y5)
  have hab1 : i * B ≤ 16 := Nat.mul_le_mul hA.2 hB.2
  have hab : i * B * C ≤ 64 := Nat.mul_le_mul hab1 hC.2
  obtain ⟨va, vc, rfl, _⟩ := hr5.len
  have hk05 : Kp w x5 := Kp.trans k2 (Kp.trans hkr (Kp.trans (Kp.trans y1 y2) (Kp.trans y3 (Kp.trans y4 y5))))
  refine ⟨fun t24 t25 wq => ∃ k : Nat, k ≤ l.length ∧ t25 = .int .i64 k ∧ t24 = .int .i64 (l.take k).sum ∧ Kp x5 wq, fun _ t25 _ => l.length - (intOf t25).toNat, ⟨0, by omega, rfl, by simp, Kp.refl _⟩, ?_⟩
  rintro _ _ _ wq ⟨k, hk, rfl, rfl, hkq⟩
  have hts : ∀ i, 0 ≤ (l.take i).sum ∧ (l.take i).sum ≤ 15258789062500 := fun i => by
    have := sum_le (M := 152587890625) (l.take i) fun x hx => by
      obtain ⟨q, hq, e⟩ := List.getElem_of_mem (List.mem_of_mem_take hx)
      have := hbd q
      rw [getD_lt _ _ _ hq, e] at this
      exact this
    have h3 : (l.take i).length ≤ 65 := by rw [List.length_take]; omega
    omega
  by_cases hkl : k < l.length
  case neg =>
    have hkl' : ¬ (k : Int) < (l.length : Int) := by omega
    have e : k = l.length := by omega
    subst e
    obtain ⟨z0, z1, z2⟩ := box3 (block_below p5 hkq)
    have e2 : ((i * B * C : Nat) : Int) + 1 = (l.length : Int) := by omega
    rw [List.take_length, m8]
    simp (disch := omega) only [r_ln, r_pick, r_pickT, r_pickF, r_condT, r_condF, r_gdTT, r_gdFF, r_gdTF, r_gdFT, r_gqTT, r_gqFF, r_gqTF, r_gqFT, r_not, r_lss, r_leq, r_gtr, r_geq, r_eql, r_neq, r_add, r_sub, r_min2, r_max2, r_min3, r_max3, r_fa, r_iaS, r_iaA, r_ex2a, r_ex2b, r_ex3a, r_ex3b, r_ex3c, r_nc, r_keepE, Nat.zero_add, Nat.add_zero, Nat.mul_one, Int.toNat_natCast, toNat_sub1, toNat_add1, decide_true, decide_false, Bool.not_true, Bool.not_false, if_true, if_false, Bool.false_eq_true, reduceCtorEq, hkl', r_ld z0, r_ld z1, r_ld z2, r_mulN, e2]
    refine r_use fok17 (alive_calls wq) rfl ?_
    rintro _ w9 ⟨rfl, k9⟩
    refine ⟨_, rfl, ?_⟩
    simp (disch := omega) only [r_ln, r_pick, r_pickT, r_pickF, r_condT, r_condF, r_gdTT, r_gdFF, r_gdTF, r_gdFT, r_gqTT, r_gqFF, r_gqTF, r_gqFT, r_not, r_lss, r_leq, r_gtr, r_geq, r_eql, r_neq, r_add, r_sub, r_min2, r_max2, r_min3, r_max3, r_fa, r_iaS, r_iaA, r_ex2a, r_ex2b, r_ex3a, r_ex3b, r_ex3c, r_nc, r_keepE, Nat.zero_add, Nat.add_zero, Nat.mul_one, Int.toNat_natCast, toNat_sub1, toNat_add1, decide_true, decide_false, Bool.not_true, Bool.not_false, if_true, if_false, Bool.false_eq_true, reduceCtorEq]
    exact ⟨trivial, Kp.trans hk05 (Kp.trans hkq k9)⟩
  have hkl' : (k : Int) < (l.length : Int) := by omega
  obtain ⟨bb, oo, _, e1, hx1⟩ := (hr5.below hkq).at hkl
  cases e1
  have s0 := hts k
  have s1 := hts (k + 1)
  rw [sum_takeI_succ hkl] at s1
  simp (disch := omega) only [r_ln, r_pick, r_pickT, r_pickF, r_condT, r_condF, r_gdTT, r_gdFF, r_gdTF, r_gdFT, r_gqTT, r_gqFF, r_gqTF, r_gqFT, r_not, r_lss, r_leq, r_gtr, r_geq, r_eql, r_neq, r_add, r_sub, r_min2, r_max2, r_min3, r_max3, r_fa, r_iaS, r_iaA, r_ex2a, r_ex2b, r_ex3a, r_ex3b, r_ex3c, r_nc, r_keepE, Nat.zero_add, Nat.add_zero, Nat.mul_one, Int.toNat_natCast, toNat_sub1, toNat_add1, decide_true, decide_false, Bool.not_true, Bool.not_false, if_true, if_false, Bool.false_eq_true, reduceCtorEq, hkl', r_ld hx1]
  refine r_drew fun w6 k6 _ => ?_
  have hx2 := cell_later k6 hx1
  obtain ⟨_, _, _, e2, hx3⟩ := (hr5.below (Kp.trans hkq k6)).at (j := l.length - 1 - k) (by omega)
  cases e2
  obtain ⟨hpal, hge⟩ := m6 k hkl
  have hge1 : ¬ (l.getD k 0 < 1) := by omega
  have ei : ((l.length : Int) - 1 - k).toNat = l.length - 1 - k := by omega
  rw [← hpal] at hx3
  simp (disch := omega) only [r_ln, r_pick, r_pickT, r_pickF, r_condT, r_condF, r_gdTT, r_gdFF, r_gdTF, r_gdFT, r_gqTT, r_gqFF, r_gqTF, r_gqFT, r_not, r_lss, r_leq, r_gtr, r_geq, r_eql, r_neq, r_add, r_sub, r_min2, r_max2, r_min3, r_max3, r_fa, r_iaS, r_iaA, r_ex2a, r_ex2b, r_ex3a, r_ex3b, r_ex3c, r_nc, r_keepE, Nat.zero_add, Nat.add_zero, Nat.mul_one, Int.toNat_natCast, toNat_sub1, toNat_add1, decide_true, decide_false, Bool.not_true, Bool.not_false, if_true, if_false, Bool.false_eq_true, reduceCtorEq, hkl', r_ld hx2, ei, r_ld hx3, hge1]
  exact ⟨⟨k + 1, by omega, by go_num, by rw [sum_takeI_succ hkl], Kp.trans hkq k6⟩, by simp only [intOf]; omega⟩

end Go.Proofs.Ytaephdjmpmbfpaa
