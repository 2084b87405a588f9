/- Counting heaps by volume. Plain; no program. -/
import Derived.Test.YtaephdjmpmbfpaaP4
set_option linter.all false
namespace Go.Proofs.Ytaephdjmpmbfpaa
open Go.Hp

/-- How many of the heaps have volume v. -/
def volC (L : List (List (List Int))) (v : Int) : Int := ((L.filter fun h => decide (volM h = v)).length : Nat)

theorem volC_append (L M : List (List (List Int))) (v : Int) : volC (L ++ M) v = volC L v + volC M v := by simp [volC, List.filter_append]
theorem volC_nil (v : Int) : volC [] v = 0 := rfl
theorem volC_flat {α : Type} {f : α → List (List (List Int))} (v : Int) : ∀ l : List α, volC (l.flatMap f) v = (l.map fun x => volC (f x) v).sum
  | [] => rfl
  | x :: l => by rw [List.flatMap_cons, volC_append, volC_flat v l]; simp
theorem volM_cons (r : List Int) (h : List (List Int)) : volM (r :: h) = r.sum + volM h := by simp [volM]
theorem volC_cons (r : List Int) (L : List (List (List Int))) (v : Int) : volC (L.map (r :: ·)) v = volC L (v - r.sum) := by
  unfold volC
  rw [List.filter_map, List.length_map]
  congr 2
  refine List.filter_congr fun t _ => ?_
  simp only [Function.comp_def, volM_cons]
  exact decide_eq_decide.2 (by omega)
theorem volC_nonneg (L : List (List (List Int))) (v : Int) : 0 ≤ volC L v := by unfold volC; omega
theorem volC_le (L : List (List (List Int))) (v : Int) : volC L v ≤ L.length := by
  unfold volC
  have := List.length_filter_le (fun h => decide (volM h = v)) L
  omega
theorem volC_zero {L : List (List (List Int))} {v : Int} (h : ∀ t ∈ L, volM t ≠ v) : volC L v = 0 := by
  unfold volC
  rw [List.filter_eq_nil_iff.2 fun t ht => by simpa using h t ht]
  rfl

/-- A row under which the others lie. -/
def GoodR (B : Nat) (C : Int) (ab : List Int) : Prop := ab.length = 4 ∧ (∀ k, 0 ≤ ab.getD k 0 ∧ ab.getD k 0 ≤ C) ∧ ∀ k, B ≤ k → ab.getD k 0 = 0

theorem bel_rest {ab : List Int} : ∀ (n j : Nat) (r : List Int), ∀ q ∈ bel ab n j r, ∀ k, j + n ≤ k → q.getD k 0 = r.getD k 0
  | 0, j, r, q, hq, k, _ => by simp [bel] at hq; rw [hq]
  | n + 1, j, r, q, hq, k, hk => by
    simp only [bel, List.mem_flatMap, List.mem_range] at hq
    obtain ⟨x, _, hq⟩ := hq
    rw [bel_rest n (j + 1) _ q hq k (by omega)]
    simp only [List.getD_eq_getElem?_getD]
    rw [List.getElem?_set_ne (by omega)]

theorem below_good {B : Nat} {C : Int} {ab : List Int} (h0 : 0 ≤ C) (hg : GoodR B C ab) : ∀ r ∈ belowM B ab, GoodR B C r := fun r hr => by
  obtain ⟨h1, h2⟩ := belowM_fine h0 (fun k => (hg.2.1 k).2) r hr
  refine ⟨h1, h2, fun k hk => ?_⟩
  rw [bel_rest B 0 _ r hr k (by omega)]
  match k with
  | 0 => rfl
  | 1 => rfl
  | 2 => rfl
  | 3 => rfl
  | k + 4 => rfl

theorem row_sum {B : Nat} {C : Int} {r : List Int} (hB : B ≤ 4) (h : GoodR B C r) : (r.take B).sum = r.sum ∧ 0 ≤ r.sum ∧ r.sum ≤ B * C := by
  obtain ⟨hl, hr, hz⟩ := h
  match r, hl with
  | [a, b, c, d], _ =>
    have r0 := hr 0
    have r1 := hr 1
    have r2 := hr 2
    have r3 := hr 3
    have z0 := hz 0
    have z1 := hz 1
    have z2 := hz 2
    have z3 := hz 3
    simp at r0 r1 r2 r3 z0 z1 z2 z3
    match B, hB with
    | 0, _ => simp at *; omega
    | 1, _ => simp at *; omega
    | 2, _ => simp at *; omega
    | 3, _ => simp at *; omega
    | 4, _ => simp at *; omega

theorem top_good {B : Nat} {C : Int} (hB : B ≤ 4) (hC : 0 ≤ C) : GoodR B C (topRow B C) := by
  obtain ⟨_, h1, h2, h3, _, _⟩ := above_top (C := C) hB
  refine ⟨h1, fun k => ?_, h2⟩
  unfold topRow
  rw [List.getD_eq_getElem?_getD, List.getElem?_append]
  simp only [List.length_replicate, List.getElem?_replicate]
  split
  · simp [*]
  · split <;> simp [hC]

theorem vol_range {B C : Nat} (hB : B ≤ 4) : ∀ (n : Nat) (ab : List Int), GoodR B C ab → ∀ t ∈ allE B n ab, 0 ≤ volM t ∧ volM t ≤ ((n * B * C : Nat) : Int)
  | 0, ab, _, t, ht => by simp [allE] at ht; subst ht; simp [volM]
  | n + 1, ab, hg, t, ht => by
    simp only [allE, List.mem_flatMap, List.mem_map] at ht
    obtain ⟨r, hr, t, ht, rfl⟩ := ht
    have hgr := below_good (by omega) hg r hr
    have h1 := row_sum hB hgr
    have h2 := vol_range hB n r hgr t ht
    rw [volM_cons, h1.1]
    have e : (n + 1) * B * C = n * B * C + B * C := by rw [Nat.add_mul, Nat.add_mul, Nat.one_mul]
    have e2 : ((B * C : Nat) : Int) = (B : Int) * C := by simp
    omega

/-- out with the first m numbers of l added from place s on. -/
def addTo (out : List Int) (s : Nat) (l : List Int) : Nat → List Int
  | 0 => out
  | m + 1 => (addTo out s l m).set (m + s) ((addTo out s l m).getD (m + s) 0 + l.getD m 0)

theorem addTo_length (out : List Int) (s : Nat) (l : List Int) : ∀ m, (addTo out s l m).length = out.length
  | 0 => rfl
  | m + 1 => by simp [addTo, addTo_length out s l m]

theorem addTo_getD {out : List Int} {s : Nat} {l : List Int} : ∀ m, s + m ≤ out.length → ∀ k, (addTo out s l m).getD k 0 = out.getD k 0 + if s ≤ k ∧ k < s + m then l.getD (k - s) 0 else 0
  | 0, _, k => by rw [if_neg (by omega)]; simp [addTo]
  | m + 1, hm, k => by
    have ih := addTo_getD (out := out) (s := s) (l := l) m (by omega)
    have hl := addTo_length out s l m
    rw [addTo, List.getD_eq_getElem?_getD, List.getElem?_set]
    by_cases hk : m + s = k
    · subst hk
      rw [if_pos rfl, if_pos (by omega), ih (m + s), if_neg (by omega), if_pos (by omega), Nat.add_sub_cancel]
      simp
    · rw [if_neg hk, ← List.getD_eq_getElem?_getD, ih k]
      by_cases h : s ≤ k ∧ k < s + m
      · rw [if_pos h, if_pos (by omega)]
      · rw [if_neg h, if_neg (by omega)]

/-- How many ways there are to go on, by volume. -/
def sizedM (B C : Nat) : Nat → List Int → List Int
  | 0, _ => [1]
  | n + 1, ab => (belowM B ab).foldl (fun o r => addTo o r.sum.toNat (sizedM B C n r) (n * B * C + 1)) (List.replicate ((n + 1) * B * C + 1) 0)

theorem foldl_add {f : List Int → List Int} {m len : Nat} : ∀ (rs : List (List Int)) (out : List Int), out.length = len → (∀ r ∈ rs, 0 ≤ r.sum ∧ r.sum.toNat + m ≤ len) →
    (rs.foldl (fun o r => addTo o r.sum.toNat (f r) m) out).length = len ∧
    ∀ k : Nat, (rs.foldl (fun o r => addTo o r.sum.toNat (f r) m) out).getD k 0 = out.getD k 0 + (rs.map fun (r : List Int) => if r.sum ≤ (k : Int) ∧ (k : Int) < r.sum + (m : Int) then (f r).getD (k - r.sum.toNat) 0 else 0).sum
  | [], out, hl, _ => ⟨hl, fun k => by simp⟩
  | r :: rs, out, hl, h => by
    have h1 := h r (by simp)
    obtain ⟨g1, g2⟩ := foldl_add (f := f) rs (addTo out r.sum.toNat (f r) m) ((addTo_length _ _ _ _).trans hl) fun q hq => h q (by simp [hq])
    refine ⟨g1, fun k => ?_⟩
    rw [List.foldl_cons, g2 k, addTo_getD m (by omega), List.map_cons, List.sum_cons]
    have : (r.sum.toNat ≤ k ∧ k < r.sum.toNat + m) ↔ (r.sum ≤ (k : Int) ∧ (k : Int) < r.sum + (m : Int)) := by omega
    simp only [this]
    omega

/-- The numbers of heaps of each volume, as a list. -/
def volL (len : Nat) (L : List (List (List Int))) : List Int := (List.range len).map fun v => volC L (v : Nat)
theorem volL_length (len : Nat) (L : List (List (List Int))) : (volL len L).length = len := by simp [volL]
theorem volL_getD {len k : Nat} {L : List (List (List Int))} (h : k < len) : (volL len L).getD k 0 = volC L (k : Nat) := by simp [volL, List.getD_eq_getElem?_getD, h]

theorem sized_volL {B C : Nat} (hB : B ≤ 4) : ∀ (n : Nat) (ab : List Int), GoodR B C ab → sizedM B C n ab = volL (n * B * C + 1) (allE B n ab)
  | 0, ab, _ => by simp [sizedM, volL, allE, volC, volM]
  | n + 1, ab, hg => by
    have e : (n + 1) * B * C = n * B * C + B * C := by rw [Nat.add_mul, Nat.add_mul, Nat.one_mul]
    have e2 : ((B * C : Nat) : Int) = (B : Int) * C := by simp
    have hgood := below_good (by omega) hg
    have hrow : ∀ r ∈ belowM B ab, (r.take B).sum = r.sum ∧ 0 ≤ r.sum ∧ r.sum ≤ B * C := fun r hr => row_sum hB (hgood r hr)
    obtain ⟨g1, g2⟩ := foldl_add (f := sizedM B C n) (m := n * B * C + 1) (len := (n + 1) * B * C + 1) (belowM B ab) (List.replicate ((n + 1) * B * C + 1) 0) (by simp) fun r hr => by
      have := hrow r hr
      omega
    refine List.ext_getElem (by rw [volL_length]; exact g1) fun k h1 h2 => ?_
    have hk : k < (n + 1) * B * C + 1 := by rw [← volL_length ((n + 1) * B * C + 1) (allE B (n + 1) ab)]; exact h2
    rw [← getD_lt _ _ 0 h1, ← getD_lt _ _ 0 h2, volL_getD hk]
    have g := g2 k
    rw [show sizedM B C (n + 1) ab = (belowM B ab).foldl (fun o r => addTo o r.sum.toNat (sizedM B C n r) (n * B * C + 1)) (List.replicate ((n + 1) * B * C + 1) 0) from rfl, g, allE, volC_flat]
    have e0 : (List.replicate ((n + 1) * B * C + 1) (0 : Int)).getD k 0 = 0 := by simp [List.getD_eq_getElem?_getD, hk]
    rw [e0, Int.zero_add]
    congr 1
    refine List.map_congr_left fun r hr => ?_
    have hs := hrow r hr
    have hv := vol_range hB n r (hgood r hr)
    rw [volC_cons, hs.1]
    by_cases hc : r.sum ≤ (k : Int) ∧ (k : Int) < r.sum + ((n * B * C + 1 : Nat) : Int)
    · rw [if_pos hc, sized_volL hB n r (hgood r hr), volL_getD (by omega)]
      congr 1
      omega
    · rw [if_neg hc, volC_zero]
      intro t ht
      have := hv t ht
      omega

theorem volC_sum {len : Nat} {L : List (List (List Int))} (h : ∀ t ∈ L, 0 ≤ volM t ∧ volM t < len) : (volL len L).sum = L.length := by
  induction L with
  | nil =>
    have : ∀ n, (volL n []).sum = 0 := fun n => by
      induction n with
      | zero => rfl
      | succ n ih => rw [volL, List.range_succ, List.map_append, List.sum_append]; rw [volL] at ih; rw [ih]; simp [volC_nil]
    simpa using this len
  | cons t L ih =>
    have h1 := h t (by simp)
    have h2 := ih fun q hq => h q (by simp [hq])
    have key : ∀ n : Nat, (volL n (t :: L)).sum = (volL n L).sum + if volM t < n then 1 else 0 := by
      intro n
      induction n with
      | zero => simp [volL]; omega
      | succ n ihn =>
        have s1 : ∀ M, (volL (n + 1) M).sum = (volL n M).sum + volC M (n : Nat) := fun M => by rw [volL, List.range_succ, List.map_append, List.sum_append]; simp [volL]
        rw [s1, s1, ihn]
        have : volC (t :: L) (n : Nat) = volC L (n : Nat) + if volM t = n then 1 else 0 := by
          unfold volC
          rw [List.filter_cons]
          by_cases hv : volM t = n <;> simp [hv]
        rw [this]
        by_cases c1 : volM t < n
        · rw [if_pos c1, if_neg (by omega), if_pos (by omega)]; omega
        · rw [if_neg c1]
          by_cases c2 : volM t = n
          · rw [if_pos c2, if_pos (by omega)]; omega
          · rw [if_neg c2, if_neg (by omega)]; omega
    rw [key, h2, if_pos h1.2]
    simp

theorem volL_push {len : Nat} {L : List (List (List Int))} {t : List (List Int)} (h : 0 ≤ volM t ∧ volM t < len) : (volL len L).set (volM t).toNat ((volL len L).getD (volM t).toNat 0 + 1) = volL len (L ++ [t]) := by
  refine List.ext_getElem (by simp [volL]) fun k h1 h2 => ?_
  have hk : k < len := by simpa [volL] using h2
  rw [← getD_lt _ _ 0 h2, volL_getD hk, List.getElem_set, volC_append]
  have e : volC [t] (k : Nat) = if volM t = k then 1 else 0 := by
    unfold volC
    by_cases hv : volM t = k <;> simp [hv]
  rw [e]
  by_cases hv : (volM t).toNat = k
  · rw [if_pos hv, hv, volL_getD hk, if_pos (by omega)]
  · rw [if_neg hv, if_neg (by omega), ← getD_lt _ _ 0 (by simpa [volL] using hk), volL_getD hk]; omega

end Go.Proofs.Ytaephdjmpmbfpaa
