/- Contract of the statement SquareKirchhoff: determinant (by its first row). -/
import Derived.Test.YtkdcldbedbagjaaDoorXf
set_option linter.all false
namespace Go.Proofs.YtkdcldbedbagjaaDoor
open Go.Lf Go.RowKit Go.Dt

theorem Rd.from {α : Type} {m : Nat} {enc : α → List Value} {w : World} {v : Value} {l : List α} (h : Rd m enc w v l) {j : Nat} (hj : j ≤ l.length) :
    ∃ u, (∀ K : Value → Prop, slS m v (some (.int .i64 j)) none K = K u) ∧ Rd m enc w u (l.drop j) := by
  obtain ⟨a, c, rfl, hlc, hh⟩ := h
  have hjj : (j : Int).toNat = j := by omega
  refine ⟨_, fun K => by rw [r_slFrom (by omega) (by omega), hjj], ?_⟩
  have hl : (l.drop j).length = l.length - j := List.length_drop
  refine ⟨_, _, by rw [hl], by rw [hl]; omega, fun h0 => ?_⟩
  rw [hl] at h0
  obtain ⟨b, off, rfl, hcell⟩ := hh (by omega)
  rw [if_neg (by omega)]
  refine ⟨b, off + j * m, by simp [r_addr], fun i x hi j' u hu => ?_⟩
  rw [List.getElem?_drop] at hi
  have := hcell (j + i) x hi j' u hu
  rw [Nat.add_mul] at this
  rw [show off + j * m + i * m + j' = off + (j * m + i * m) + j' by omega]
  exact this

/-- The matrix without the first row and the column j. -/
def minorL (j : Nat) (m : List (List Int)) : List (List Int) := (m.drop 1).map fun r => r.take j ++ r.drop (j + 1)
theorem minorL_row {j i : Nat} {m : List (List Int)} (hi : i + 1 < m.length) : (minorL j m).getD i [] = (m.getD (i + 1) []).take j ++ (m.getD (i + 1) []).drop (j + 1) := by
  unfold minorL
  rw [List.getD_eq_getElem?_getD, List.getElem?_map, List.getElem?_drop, show 1 + i = i + 1 by omega, List.getElem?_eq_getElem hi, getD_lt _ _ _ hi]
  rfl
theorem minorL_take {j i n : Nat} {m : List (List Int)} (hs : Sized (n + 1) (n + 1) m) (hi : i < n) : (minorL j m).take (i + 1) = (minorL j m).take i ++ [(m.getD (i + 1) []).take j ++ (m.getD (i + 1) []).drop (j + 1)] := by
  have hm := hs.1
  have hl : (minorL j m).length = n := by simp [minorL, hs.1]
  rw [List.take_succ_eq_append_getElem (by omega), ← getD_lt _ _ [] (by omega), minorL_row (by omega)]
theorem minorL_sized {n j : Nat} {m : List (List Int)} (hs : Sized (n + 1) (n + 1) m) (hj : j < n + 1) : Sized n n (minorL j m) := by
  have hm := hs.1
  refine ⟨by simp [minorL, hs.1], fun i hi => ?_⟩
  have := hs.2 (i + 1) (by omega)
  rw [minorL_row (by omega), List.length_append, List.length_take, List.length_drop]
  omega
theorem minorL_hat {n j i k : Nat} {m : List (List Int)} (hs : Sized (n + 1) (n + 1) m) (hj : j < n + 1) (hi : i < n) (hk : k < n) : hat (minorL j m) i k = hat m (i + 1) (sk j k) := by
  have hm := hs.1
  have hr := hs.2 (i + 1) (by omega)
  unfold hat
  rw [minorL_row (by omega)]
  generalize m.getD (i + 1) [] = r at *
  by_cases h : k < j
  · rw [sk_lt h, List.getD_eq_getElem?_getD, List.getElem?_append_left (by rw [List.length_take]; omega), List.getElem?_take, if_pos h, ← List.getD_eq_getElem?_getD]
  · have e : j + 1 + (k - min j r.length) = k + 1 := by omega
    rw [sk_ge (by omega), List.getD_eq_getElem?_getD, List.getElem?_append_right (by rw [List.length_take]; omega), List.length_take, List.getElem?_drop, e, ← List.getD_eq_getElem?_getD]

def dB : Nat → Nat
  | 0 => 1
  | n + 1 => (n + 1) * (16 * dB n)
theorem sum_bound {f : Nat → Int} {b : Nat} : ∀ {n : Nat}, (∀ j, j < n → (f j).natAbs ≤ b) → (sumN f n).natAbs ≤ n * b
  | 0, _ => by simp [sumN]
  | n + 1, h => by
    have h1 := sum_bound fun j (hj : j < n) => h j (by omega)
    have h2 := h n (by omega)
    simp only [sumN]
    rw [Nat.add_mul, Nat.one_mul]
    omega
theorem det_term {n j : Nat} {m : Nat → Nat → Int} {x : Int} (h : (m 0 j).natAbs ≤ 16) (hx : x.natAbs ≤ dB n) : (sgn j * m 0 j * x).natAbs ≤ 16 * dB n := by
  rw [Int.natAbs_mul, Int.natAbs_mul, sgn_abs, Nat.one_mul]
  exact Nat.mul_le_mul h hx
theorem det_bound : ∀ {n : Nat} {m : Nat → Nat → Int}, (∀ i j, i < n → j < n → (m i j).natAbs ≤ 16) → (det n m).natAbs ≤ dB n
  | 0, _, _ => by simp [det, dB]
  | n + 1, m, h => by
    unfold det dB
    refine sum_bound fun j hj => det_term (h 0 j (by omega) hj) (det_bound fun i k hi hk => h (i + 1) (sk j k) (by omega) (by have := sk_le j k; omega))
theorem dB_small {n : Nat} (h : n ≤ 6) : dB n ≤ 12079595520 := by
  have : ∀ n, n < 7 → dB n ≤ 12079595520 := by decide
  exact this n (by omega)

set_option maxRecDepth 100000 in
set_option maxHeartbeats 2000000 in
theorem rdet_calls : ∀ (n : Nat) {m : List (List Int)} {v : Value} {base : Nat} (w : World), n ≤ 7 → Sized n n m → (∀ i j, i < n → j < n → (hat m i j).natAbs ≤ 16) → IMat base w v m →
    Calls Tryd.prog 32 #[v] w fun e w' => e = .returned (.int .i64 (det n (hat m))) ∧ Kp w w'
  | 0, m, v, base, w, hn, hs, hB, hM => by
    obtain ⟨a, cap, rfl, _⟩ := hM.len
    have h0 := hs.1
    refine lift32 ?_
    unfold S32
    simp (disch := omega) only [r_ln, r_pick, r_pickT, r_pickF, r_condT, r_condF, r_gdTT, r_gdFF, r_gdTF, r_gdFT, r_gqTT, r_gqFF, r_gqTF, r_gqFT, r_not, r_lss, r_leq, r_gtr, r_geq, r_eql, r_neq, r_add, r_sub, r_min2, r_max2, r_min3, r_max3, r_fa, r_iaS, r_iaA, r_ex2a, r_ex2b, r_ex3a, r_ex3b, r_ex3c, r_nc, r_keepE, Nat.zero_add, Nat.add_zero, Nat.mul_one, Int.toNat_natCast, toNat_sub1, toNat_add1, decide_true, decide_false, Bool.not_true, Bool.not_false, if_true, if_false, Bool.false_eq_true, reduceCtorEq, h0]
    exact ⟨by first | rfl | trivial, Kp.refl _⟩
  | n + 1, m, v, base, w, hn, hs, hB, hM => by
    obtain ⟨a, cap, ev, _⟩ := hM.len
    have hm := hs.1
    have lnv : ∀ K : Value → Prop, ln1 v K = K (.int .i64 (n + 1 : Nat)) := fun K => by rw [ev, hm]; rfl
    have hne : ¬ ((n + 1 : Nat) : Int) = 0 := by omega
    refine lift32 ?_
    unfold S32
    simp (disch := omega) only [r_ln, r_pick, r_pickT, r_pickF, r_condT, r_condF, r_gdTT, r_gdFF, r_gdTF, r_gdFT, r_gqTT, r_gqFF, r_gqTF, r_gqFT, r_not, r_lss, r_leq, r_gtr, r_geq, r_eql, r_neq, r_add, r_sub, r_min2, r_max2, r_min3, r_max3, r_fa, r_iaS, r_iaA, r_ex2a, r_ex2b, r_ex3a, r_ex3b, r_ex3c, r_nc, r_keepE, Nat.zero_add, Nat.add_zero, Nat.mul_one, Int.toNat_natCast, toNat_sub1, toNat_add1, decide_true, decide_false, Bool.not_true, Bool.not_false, if_true, if_false, Bool.false_eq_true, reduceCtorEq, lnv, hne]
    unfold S32L0
    -- a term of the sum
    have term : ∀ j, sgn j * hat m 0 j * det n (fun i k => hat m (i + 1) (sk j k)) = (fun j => sgn j * hat m 0 j * det n (fun i k => hat m (i + 1) (sk j k))) j := fun _ => rfl
    generalize hf : (fun j => sgn j * hat m 0 j * det n (fun i k => hat m (i + 1) (sk j k))) = f at term
    have hfb : ∀ j, j < n + 1 → (f j).natAbs ≤ 16 * dB n := fun j hj => by
      rw [← term]
      exact det_term (hB 0 j (by omega) hj) (det_bound fun i k hi hk => hB (i + 1) (sk j k) (by omega) (by have := sk_le j k; omega))
    have hdet : det (n + 1) (hat m) = sumN f (n + 1) := by rw [← hf]; rfl
    have hd := dB_small (n := n) (by omega)
    refine ⟨fun t3 t4 t5 wr => ∃ j : Nat, j ≤ n + 1 ∧ t5 = .int .i64 j ∧ t3 = .int .i64 (sumN f j) ∧ t4 = .int .i64 (sgn j) ∧ Kp w wr, fun _ _ t5 _ => n + 1 - (intOf t5).toNat, ⟨0, by omega, rfl, rfl, rfl, Kp.refl _⟩, ?_⟩
    rintro _ _ _ _ wr ⟨j, hj, rfl, rfl, rfl, kr⟩
    have hMr := hM.kp kr
    rw [lnv]
    by_cases hlt : j < n + 1
    case neg =>
      have hlt' : ¬ (j : Int) < ((n + 1 : Nat) : Int) := by omega
      obtain rfl : j = n + 1 := by omega
      simp only [r_lss, decide_eq_false hlt', r_condF]
      exact ⟨by rw [hdet], kr⟩
    have hlt' : (j : Int) < ((n + 1 : Nat) : Int) := by omega
    simp only [r_lss, decide_eq_true hlt', r_condT]
    have row0 : ∀ (w' : World), Kp wr w' → ∀ K : Value → Prop, (iaS 1 v (.int .i64 0) fun p => ld1 w' p fun r => iaS 1 r (.int .i64 j) fun p => ld1 w' p K) = K (.int .i64 (hat m 0 j)) := fun w' k K => by
      obtain ⟨u, Iu, ldu⟩ := (hMr.kp k).ldK (i := 0) (by omega)
      have := ldu (fun r => iaS 1 r (.int .i64 j) fun p => ld1 w' p K)
      rw [show (((0 : Nat) : Int)) = 0 from rfl] at this
      rw [this, own_ldK Iu (by rw [hs.2 0 (by omega)]; exact hlt)]
      rfl
    rw [row0 wr (Kp.refl _)]
    have hfj : (f j).natAbs ≤ 16 * dB n := hfb j hlt
    have hsum := sum_bound (f := f) (n := j) fun i hi => hfb i (by omega)
    have hsum1 := sum_bound (f := f) (n := j + 1) fun i hi => hfb i (by omega)
    have hjb : j * (16 * dB n) ≤ 7 * (16 * 12079595520) := Nat.mul_le_mul (by omega) (Nat.mul_le_mul_left _ hd)
    have hjb1 : (j + 1) * (16 * dB n) ≤ 7 * (16 * 12079595520) := Nat.mul_le_mul (by omega) (Nat.mul_le_mul_left _ hd)
    have hss : sumN f (j + 1) = sumN f j + f j := rfl
    have hsg := sgn_abs j
    rw [r_neq]
    refine r_join1 (fun t w' => t = .int .i64 (sumN f (j + 1)) ∧ Kp w w') ?_ fun kk hkk => ?_
    · rintro _ w' ⟨rfl, k⟩
      rw [r_neg _ (by omega) (by omega), r_add _ _ (by omega) (by omega)]
      exact ⟨⟨j + 1, by omega, by go_num, rfl, by rw [sgn_succ], k⟩, by simp only [intOf]; omega⟩
    by_cases hz : hat m 0 j = 0
    · rw [decide_eq_true hz]
      simp only [Bool.not_true, r_condF]
      refine hkk _ _ ⟨?_, kr⟩
      rw [hss, ← term, hz, Int.mul_zero, Int.zero_mul, Int.add_zero]
    rw [decide_eq_false hz]
    simp only [Bool.not_false, r_condT]
    unfold S32L1
    refine ⟨fun t6 t7 w2 => ∃ i : Nat, i ≤ n ∧ t7 = .int .i64 ((i + 1 : Nat) : Int) ∧ Kp wr w2 ∧ IMat wr.heap.size w2 t6 ((minorL j m).take i), fun _ t7 _ => n + 1 - (intOf t7).toNat, ⟨0, by omega, rfl, Kp.refl _, by rw [List.take_zero]; exact IMat.nil⟩, ?_⟩
    rintro _ t6 _ w2 ⟨i, hi, rfl, k2, hP⟩
    rw [lnv]
    by_cases hin : i < n
    case neg =>
      obtain rfl : i = n := by omega
      have hin' : ¬ ((i + 1 : Nat) : Int) < ((i + 1 : Nat) : Int) := by omega
      simp only [r_lss, decide_eq_false hin', r_condF]
      have hml : (minorL j m).length = i := by simp [minorL, hm]
      rw [List.take_of_length_le (by omega)] at hP
      refine r_drew fun w3 k3 _ => ?_
      rw [row0 w3 (Kp.trans k2 k3)]
      have hb0 := hB 0 j (by omega) hlt
      have hmul : sgn j * hat m 0 j ≤ 16 ∧ -16 ≤ sgn j * hat m 0 j := by
        have : (sgn j * hat m 0 j).natAbs ≤ 16 := by rw [Int.natAbs_mul, hsg]; omega
        omega
      rw [r_mul _ _ (by omega) (by omega)]
      refine r_use fok32 (rdet_calls i w3 (by omega) (minorL_sized hs hlt) (fun a b ha hb => ?_) (hP.kp k3)) rfl ?_
      · rw [minorL_hat hs hlt ha hb]
        exact hB (a + 1) (sk j b) (by omega) (by have := sk_le j b; omega)
      rintro _ w4 ⟨rfl, k4⟩
      refine ⟨_, rfl, r_keep k4 ?_⟩
      have hde : det i (hat (minorL j m)) = det i (fun a b => hat m (a + 1) (sk j b)) := det_congr fun a b ha hb => minorL_hat hs hlt ha hb
      have hfe : sgn j * hat m 0 j * det i (hat (minorL j m)) = f j := by rw [hde, term]
      rw [r_mul _ _ (by rw [hfe]; omega) (by rw [hfe]; omega), hfe, r_add _ _ (by omega) (by omega), ← hss]
      exact hkk _ _ ⟨rfl, Kp.trans kr (Kp.trans k2 (Kp.trans k3 k4))⟩
    have hin' : ((i + 1 : Nat) : Int) < ((n + 1 : Nat) : Int) := by omega
    simp only [r_lss, decide_eq_true hin', r_condT]
    obtain ⟨u, Iu, ldu⟩ := (hMr.kp k2).ldK (i := i + 1) (by omega)
    have hul := hs.2 (i + 1) (by omega)
    have Ru := Iu.rd iC_len
    obtain ⟨x, sx, _, Rx⟩ := Ru.to (i := j) (by omega)
    obtain ⟨y, sy, Ry⟩ := Ru.from (j := j + 1) (by omega)
    have iC1 : ∀ (z : Int), ∀ q ∈ iC z, q.oneCell' = true := fun z q hq => by simp [iC] at hq; rw [hq]; rfl
    rw [ldu, sx]
    have sz2 := k2.size
    have szr := kr.size
    refine r_apRec (base := w2.heap.size) (P := []) slt34 iC_len iC1 (by omega) RecAt.nil Rx (by simp only [List.length_nil, List.length_take]; omega) (Nat.le_refl _) fun v4 w4 o4 c4 _ => ?_
    have k4 : Kp w2 w4 := Kp.of_chg (Kp.refl _) c4 fun q hq => by cases hq
    obtain ⟨u', Iu', ldu'⟩ := (hMr.kp (Kp.trans k2 k4)).ldK (i := i + 1) (by omega)
    have Ru' := Iu'.rd iC_len
    obtain ⟨y', sy', Ry'⟩ := Ru'.from (j := j + 1) (by omega)
    have ej : ((j : Int) + 1) = ((j + 1 : Nat) : Int) := by omega
    rw [ldu', r_add _ _ (by omega) (by omega), ej, sy']
    refine r_apRec slt34 iC_len iC1 (by omega) o4 Ry' (by simp only [List.length_append, List.length_nil, List.length_take, List.length_drop]; omega) k4.size fun v5 w5 o5 c5 _ => ?_
    have k5 : Kp w2 w5 := Kp.of_chg k4 c5 fun q hq => (o4.lt hq).1
    obtain ⟨pa, pc, ep, _⟩ := o5.len
    rw [ep]
    rw [ep] at o5
    have hml : (minorL j m).length = n := by simp [minorL, hm]
    refine r_pushMat hP k5 o5 (Nat.le_refl _) (by rw [List.length_take]; omega) k2.size fun v6 w6 o6 c6 _ => ?_
    rw [r_add _ _ (by omega) (by omega)]
    obtain ⟨vs, hv1, _⟩ := hP
    refine ⟨⟨i + 1, by omega, by go_num, Kp.of_chg (Kp.trans k2 k5) c6 fun q hq => (hv1.lt hq).1, ?_⟩, by simp only [intOf]; omega⟩
    rw [minorL_take hs hin]
    rw [List.nil_append] at o6
    exact o6

end Go.Proofs.YtkdcldbedbagjaaDoor
