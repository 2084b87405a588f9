/- What Next, counting, ranking and being a heap are in the list of all heaps. Plain; no program. -/
import Derived.Test.YtaephdjmpmbfpaaEnum
import Derived.Test.YtaephdjmpmbfpaaRank
set_option linter.all false
namespace Go.Proofs.Ytaephdjmpmbfpaa
open Go.Hp

theorem above_top {B : Nat} {C : Int} (hB : B ≤ 4) : Above B C 0 [] (topRow B C) := by
  have g : ∀ j, j < B → (topRow B C).getD j 0 = C := fun j hj => by
    unfold topRow
    rw [List.getD_eq_getElem?_getD, List.getElem?_append_left (by simpa using hj), List.getElem?_replicate, if_pos hj]; rfl
  refine ⟨by simp, topRow_length hB, fun k hk => ?_, fun j hj => by rw [g j hj]; exact Int.le_refl _, fun h => by omega, fun _ => g⟩
  unfold topRow
  rw [List.getD_eq_getElem?_getD, List.getElem?_append_right (by simpa using hk), List.getElem?_replicate]
  split <;> rfl

def heaps (A B : Nat) (C : Int) : List (List (List Int)) := allE B A (topRow B C)

theorem heaps_enum {A B : Nat} {C : Int} (hB : B ≤ 4) : heaps A B C = (enumO (mxF B C) (A * B) []).map (unflat A B) := allE_enum hB A 0 [] _ (above_top hB)

theorem unflat_zeros (A B : Nat) : unflat A B (List.replicate (A * B) 0) = zeros A B :=
  heap_ext (unflat_sized (by simp)) (zeros_sized A B) fun i j hi hj => by
    rw [unflat_hat hi hj, zeros_hat, List.getD_eq_getElem?_getD, List.getElem?_replicate]
    split <;> rfl

theorem iterN_heaps {A B : Nat} {C : Int} (hB0 : 0 < B) (hB : B ≤ 4) (hC : 0 ≤ C) : ∀ k, iterN A B C k = (heaps A B C)[k]? := by
  have H : ∀ pre : List Int, (∀ x ∈ pre, 0 ≤ x) → 0 ≤ mxF B C pre := fun pre h => mxF_nonneg hC pre h
  have h0 := enumO_head H (A * B) [] (by simp)
  have hch := enumO_chain H (A * B) [] (by simp)
  rw [heaps_enum hB]
  intro k
  induction k with
  | zero => rw [List.getElem?_map, h0]; simp [iterN, unflat_zeros]
  | succ k ih =>
    rw [iterN, ih, List.getElem?_map, List.getElem?_map]
    cases hk : (enumO (mxF B C) (A * B) [])[k]? with
    | none =>
      have := List.getElem?_eq_none_iff.1 hk
      rw [List.getElem?_eq_none (by omega)]; rfl
    | some s =>
      have hl := (enumO_good (A * B) [] s (List.mem_of_getElem? hk)).1
      have hc := hch k s hk
      have hlt := (List.getElem?_eq_some_iff.1 hk).1
      simp only [Option.map_some, Option.bind_some]
      rw [nextM_nxt hl hB0, hc]
      by_cases he : k + 1 = (enumO (mxF B C) (A * B) []).length
      · rw [if_pos he, List.getElem?_eq_none (by omega)]
      · rw [if_neg he]

theorem cast_sum {α : Type} (f : α → Nat) : ∀ l : List α, (((l.map f).sum : Nat) : Int) = (l.map fun x => (f x : Int)).sum
  | [] => rfl
  | x :: l => by simp [cast_sum f l]

theorem ways_length (B : Nat) : ∀ (n : Nat) (ab : List Int), waysM B n ab = (allE B n ab).length
  | 0, ab => rfl
  | n + 1, ab => by
    rw [waysM, allE, List.length_flatMap, cast_sum]
    congr 1
    refine List.map_congr_left fun r _ => ?_
    rw [ways_length B n r, List.length_map]

theorem cmpI_neg (x y : Int) : cmpI x y = - cmpI y x := by unfold cmpI; split <;> split <;> (try split) <;> omega
theorem cmpL_neg : ∀ a b : List Int, cmpL a b = - cmpL b a
  | [], [] => rfl
  | [], _ :: _ => rfl
  | _ :: _, [] => rfl
  | x :: a, y :: b => by
    have h1 := cmpL_neg a b
    have h2 := cmpI_neg x y
    simp only [cmpL]
    split <;> split <;> omega
theorem cmpL_self : ∀ a : List Int, cmpL a a = 0
  | [] => rfl
  | x :: a => by simp [cmpL, cmpI, cmpL_self a]

theorem enumO_sorted (mx : List Int → Int) : ∀ (n : Nat) (pre : List Int), (enumO mx n pre).Pairwise fun s t => ∀ z, cmpL (s ++ z) (t ++ z) < 0
  | 0, pre => by simp [enumO]
  | n + 1, pre => by
    rw [enumO, List.pairwise_flatMap]
    refine ⟨fun x _ => ?_, ?_⟩
    · rw [List.pairwise_map]
      refine (enumO_sorted mx n _).imp fun {s t} h z => ?_
      have := h z
      simpa [cmpL, cmpI] using this
    · refine List.pairwise_lt_range.imp fun {x y} hxy s hs t ht z => ?_
      simp only [List.mem_map] at hs ht
      obtain ⟨s, _, rfl⟩ := hs
      obtain ⟨t, _, rfl⟩ := ht
      have : cmpI (x : Int) (y : Int) = -1 := by simp [cmpI]; omega
      simp [cmpL, this]

theorem below_sorted {B : Nat} {C : Int} {i : Nat} {pre ab : List Int} (ha : Above B C i pre ab) (hB : B ≤ 4) : (belowM B ab).Pairwise fun s t => cmpL s t < 0 := by
  rw [below_enum ha hB, List.pairwise_map]
  exact (enumO_sorted _ B pre).imp fun h => h _

theorem below_mem {B : Nat} {C : Int} {i : Nat} {pre ab r : List Int} (ha : Above B C i pre ab) (hB : B ≤ 4) (hr : r ∈ belowM B ab) : row4 (r.take B) = r ∧ (r.take B).length = B ∧ Above B C (i + 1) (pre ++ r.take B) r := by
  rw [below_enum ha hB] at hr
  obtain ⟨s, hs, rfl⟩ := List.mem_map.1 hr
  have hl := (enumO_good B pre s hs).1
  have e : (s ++ List.replicate (4 - B) (0 : Int)).take B = s := by rw [List.take_append_of_le_length (by omega), List.take_of_length_le (by omega)]
  rw [e]
  exact ⟨by rw [row4, hl], hl, above_next hB ha hs⟩

theorem flatMap_get {α β : Type} {f : α → List β} : ∀ (l : List α) (k : Nat) (b : β), (l.flatMap f)[k]? = some b → ∃ l1 a l2 k', l = l1 ++ a :: l2 ∧ (f a)[k']? = some b ∧ k = (l1.map fun x => (f x).length).sum + k'
  | [], k, b, h => by simp at h
  | a :: l, k, b, h => by
    rw [List.flatMap_cons] at h
    by_cases hk : k < (f a).length
    · rw [List.getElem?_append_left hk] at h
      exact ⟨[], a, l, k, rfl, h, by simp⟩
    · rw [List.getElem?_append_right (by omega)] at h
      obtain ⟨l1, a', l2, k', h1, h2, h3⟩ := flatMap_get l _ b h
      exact ⟨a :: l1, a', l2, k', by rw [h1]; rfl, h2, by simp only [List.map_cons, List.sum_cons]; omega⟩

def rankR (B : Nat) : Nat → List Int → List (List Int) → Int
  | n + 1, ab, r :: h => rankRow B n ab (row4 r) + rankR B n (row4 r) h
  | _, _, _ => 0

theorem rankRow_split {B n : Nat} {ab : List Int} {l1 l2 : List (List Int)} {a : List Int} (e : belowM B ab = l1 ++ a :: l2) (hs : (belowM B ab).Pairwise fun s t => cmpL s t < 0) : rankRow B n ab a = (l1.map (waysM B n)).sum := by
  unfold rankRow
  rw [e] at hs ⊢
  rw [List.pairwise_append, List.pairwise_cons] at hs
  obtain ⟨_, ⟨h2, _⟩, h1⟩ := hs
  rw [List.map_append, List.sum_append, List.map_cons, List.sum_cons]
  have e1 : l1.map (lessF B n a) = l1.map (waysM B n) := List.map_congr_left fun r hr => by
    unfold lessF; rw [if_pos (h1 r hr a (by simp))]
  have e2 : (l2.map (lessF B n a)).sum = 0 := by
    have : ∀ r ∈ l2, lessF B n a r = 0 := fun r hr => by
      have := h2 r hr
      have h3 := cmpL_neg a r
      unfold lessF; rw [if_neg (by omega)]
    have key : ∀ l : List (List Int), (∀ r ∈ l, lessF B n a r = 0) → (l.map (lessF B n a)).sum = 0 := by
      intro l
      induction l with
      | nil => intro _; rfl
      | cons x l ih =>
        intro h
        simp only [List.map_cons, List.sum_cons, h x (by simp), ih fun r hr => h r (by simp [hr])]
        rfl
    exact key l2 this
  have e3 : lessF B n a a = 0 := by unfold lessF; rw [cmpL_self, if_neg (by omega)]
  rw [e1, e2, e3]; omega

theorem rank_index {B : Nat} {C : Int} (hB : B ≤ 4) : ∀ (n i : Nat) (pre ab : List Int) (k : Nat) (h : List (List Int)), Above B C i pre ab → (allE B n ab)[k]? = some h → rankR B n ab h = k
  | 0, i, pre, ab, k, h, _, hk => by
    cases k with
    | zero => simp [rankR]
    | succ k => simp [allE] at hk
  | n + 1, i, pre, ab, k, h, ha, hk => by
    rw [allE] at hk
    obtain ⟨l1, a, l2, k', h1, h2, h3⟩ := flatMap_get _ _ _ hk
    rw [List.getElem?_map] at h2
    obtain ⟨t, ht, rfl⟩ := Option.map_eq_some_iff.1 h2
    have hm : a ∈ belowM B ab := by rw [h1]; simp
    obtain ⟨g1, g2, g3⟩ := below_mem ha hB hm
    rw [rankR, g1, rankRow_split h1 (below_sorted ha hB), rank_index hB n _ _ _ _ _ g3 ht, h3]
    simp only [List.length_map]
    rw [Int.natCast_add, cast_sum]
    congr 2
    exact List.map_congr_left fun r _ => ways_length B n r

theorem sumTo_front (f : Nat → Int) : ∀ n, sumTo f (n + 1) = f 0 + sumTo (fun i => f (i + 1)) n
  | 0 => by simp [sumTo]
  | n + 1 => by rw [sumTo, sumTo_front f n, sumTo]; omega

def lastG (ab : List Int) (h : List (List Int)) (i : Nat) : List Int := if i = 0 then ab else row4 (h.getD (i - 1) [])

theorem rankR_sum (B : Nat) : ∀ (n : Nat) (ab : List Int) (h : List (List Int)), h.length = n → sumTo (fun i => rankRow B (n - 1 - i) (lastG ab h i) (row4 (h.getD i []))) n = rankR B n ab h
  | 0, ab, h, _ => by simp [sumTo, rankR]
  | n + 1, ab, [], hl => by simp at hl
  | n + 1, ab, r :: h, hl => by
    rw [sumTo_front, rankR, ← rankR_sum B n (row4 r) h (by simpa using hl)]
    have e : (fun i => rankRow B (n + 1 - 1 - (i + 1)) (lastG ab (r :: h) (i + 1)) (row4 ((r :: h).getD (i + 1) []))) = fun i => rankRow B (n - 1 - i) (lastG (row4 r) h i) (row4 (h.getD i [])) := by
      funext i
      have e1 : n + 1 - 1 - (i + 1) = n - 1 - i := by omega
      have e2 : lastG ab (r :: h) (i + 1) = lastG (row4 r) h i := by
        cases i <;> simp [lastG]
      rw [e1, e2]; simp
    rw [e]
    simp [lastG]

theorem rank_heaps {A B : Nat} {C : Int} (hB : B ≤ 4) {k : Nat} {h : List (List Int)} (hk : (heaps A B C)[k]? = some h) : rankM A B C h A = k := by
  have hl : h.length = A := by
    rw [heaps_enum hB, List.getElem?_map] at hk
    obtain ⟨s, _, rfl⟩ := Option.map_eq_some_iff.1 hk
    simp [unflat]
  have e : rankM A B C h A = sumTo (fun i => rankRow B (A - 1 - i) (lastG (topRow B C) h i) (row4 (h.getD i []))) A := rfl
  rw [e, rankR_sum B A _ h hl]
  exact rank_index hB A 0 [] _ k h (above_top hB) hk

/-- The numbers of a heap in reading order. -/
def flat (A B : Nat) (h : List (List Int)) : List Int := (List.range (A * B)).map fun p => hat h (p / B) (p % B)

theorem flat_getD {A B p : Nat} {h : List (List Int)} (hp : p < A * B) : (flat A B h).getD p 0 = hat h (p / B) (p % B) := by
  simp [flat, List.getD_eq_getElem?_getD, hp]

theorem unflat_flat {A B : Nat} {h : List (List Int)} (hs : Sized A B h) : unflat A B (flat A B h) = h :=
  heap_ext (unflat_sized (by simp [flat])) hs fun i j hi hj => by
    rw [unflat_hat hi hj, flat_getD (place_lt hi hj), Nat.add_comm, Nat.add_mul_div_right _ _ (by omega), Nat.add_mul_mod_self_right, Nat.div_eq_of_lt hj, Nat.mod_eq_of_lt hj, Nat.zero_add]

theorem heapOk_mem {A B : Nat} {C : Int} {h : List (List Int)} (hB0 : 0 < B) (hB : B ≤ 4) : heapOk A B C h = true ↔ h ∈ heaps A B C := by
  rw [heaps_enum hB, List.mem_map]
  constructor
  · intro e
    simp only [heapOk, Bool.and_eq_true, decide_eq_true_eq, List.all_eq_true, List.mem_range] at e
    obtain ⟨e1, e2⟩ := e
    have hs : Sized A B h := ⟨by omega, fun i hi => by have := rowOk_len (e2 i (by omega)); omega⟩
    refine ⟨flat A B h, enumO_mem _ _ _ (by simp [flat]) fun q hq => ?_, unflat_flat hs⟩
    have hi := div_lt_of hB0 hq
    have hj := Nat.mod_lt q hB0
    have hr := e2 (q / B) (by omega)
    simp only [rowOk, Bool.and_eq_true, decide_eq_true_eq, List.all_eq_true, List.mem_range] at hr
    have ho := hr.2 (q % B) (by rw [hs.2 _ hi]; exact hj)
    simp only [okAt, decide_eq_true_eq] at ho
    rw [flat_getD hq, List.nil_append, ← most_mx (s := flat A B h) (by simp [flat]) hB0 hq, unflat_flat hs]
    exact ho
  · rintro ⟨s, hs, rfl⟩
    obtain ⟨hl, hg⟩ := enumO_good _ _ s hs
    have hsz := unflat_sized (A := A) (B := B) hl
    refine heapOk_true (by rw [hsz.1]) fun i hi => ?_
    have hi' : i < A := by rw [← hsz.1]; exact hi
    refine rowOk_true (by rw [hsz.2 i hi']) fun j hj => ?_
    have hj' : j < B := by rw [← hsz.2 i hi']; exact hj
    have hp := place_lt hi' hj'
    have := hg _ hp
    have hm := most_mx (C := C) hl hB0 hp
    rw [Nat.add_comm (i * B) j, Nat.add_mul_div_right _ _ hB0, Nat.add_mul_mod_self_right, Nat.div_eq_of_lt hj', Nat.mod_eq_of_lt hj', Nat.zero_add, Nat.add_comm j] at hm
    simp only [okAt, decide_eq_true_eq]
    rw [hm, unflat_hat hi' hj']
    simpa using this

theorem heaps_sized {A B : Nat} {C : Int} (hB : B ≤ 4) {h : List (List Int)} (hm : h ∈ heaps A B C) : Sized A B h := by
  rw [heaps_enum hB, List.mem_map] at hm
  obtain ⟨s, hs, rfl⟩ := hm
  exact unflat_sized (enumO_good _ _ s hs).1

end Go.Proofs.Ytaephdjmpmbfpaa
