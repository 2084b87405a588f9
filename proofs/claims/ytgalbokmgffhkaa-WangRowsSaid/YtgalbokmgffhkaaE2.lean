/- What a proof says, plainly: the program's numbers and the specification's lists. -/
import Derived.Test.YtgalbokmgffhkaaE1
import Derived.Test.YtgalbokmgffhkaaB3
set_option linter.all false
namespace Go.Proofs.Ytgalbokmgffhkaa
open Go.Wg

def standsB (proof : List (List Int)) (s : List Int) (k : Int) : Bool := proof.any fun p => decide (p.getD 0 0 < k) && decide (p.drop 1 = s)
theorem stands_iff {proof : List (List Int)} {s : List Int} {k : Int} : standsB proof s k = true ↔ ∃ p ∈ proof, p.getD 0 0 < k ∧ p.drop 1 = s := by
  simp only [standsB, List.any_eq_true, Bool.and_eq_true, decide_eq_true_eq]

theorem dead_inv : ∀ rev : List (List Int), (∀ p ∈ rev, 1 ≤ p.getD 0 0) → rev.Pairwise (fun q p => p.getD 0 0 ≤ q.getD 0 0) →
    (∀ c, deadL rev.reverse c ≠ 0 → ∃ p ∈ rev, code (p.drop 1) = c ∧ deadL rev.reverse c = p.getD 0 0) ∧ ∀ p ∈ rev, deadL rev.reverse (code (p.drop 1)) ≠ 0 ∧ deadL rev.reverse (code (p.drop 1)) ≤ p.getD 0 0
  | [], _, _ => ⟨fun c h => absurd rfl h, by simp⟩
  | q :: rev, h1, h2 => by
    obtain ⟨i1, i2⟩ := dead_inv rev (fun p hp => h1 p (by simp [hp])) (List.pairwise_cons.1 h2).2
    have hq := (List.pairwise_cons.1 h2).1
    have hq1 := h1 q (by simp)
    have e : deadL (q :: rev).reverse = deadF (deadL rev.reverse) q := by
      rw [List.reverse_cons, deadL, List.foldl_append]; rfl
    rw [e]
    by_cases h0 : deadL rev.reverse (code (q.drop 1)) = 0
    · rw [deadF, if_pos h0]
      refine ⟨fun c hc => ?_, fun p hp => ?_⟩
      · by_cases hcq : c = code (q.drop 1)
        · subst hcq
          exact ⟨q, by simp, rfl, if_pos rfl⟩
        · have eu : upd (deadL rev.reverse) (code (q.drop 1)) (q.getD 0 0) c = deadL rev.reverse c := if_neg hcq
          rw [eu] at hc ⊢
          obtain ⟨p, hp, h⟩ := i1 c hc
          exact ⟨p, by simp [hp], h⟩
      · by_cases hcq : code (p.drop 1) = code (q.drop 1)
        · have eu : upd (deadL rev.reverse) (code (q.drop 1)) (q.getD 0 0) (code (p.drop 1)) = q.getD 0 0 := if_pos hcq
          rw [eu]
          rcases List.mem_cons.1 hp with rfl | hp
          · exact ⟨by omega, Int.le_refl _⟩
          · have := (i2 p hp).1
            rw [hcq] at this
            exact absurd h0 this
        · have eu : upd (deadL rev.reverse) (code (q.drop 1)) (q.getD 0 0) (code (p.drop 1)) = deadL rev.reverse (code (p.drop 1)) := if_neg hcq
          rw [eu]
          rcases List.mem_cons.1 hp with rfl | hp
          · exact absurd rfl hcq
          · exact i2 p hp
    · rw [deadF, if_neg h0]
      refine ⟨fun c hc => ?_, fun p hp => ?_⟩
      · obtain ⟨p, hp, h⟩ := i1 c hc
        exact ⟨p, by simp [hp], h⟩
      · rcases List.mem_cons.1 hp with rfl | hp
        · refine ⟨h0, ?_⟩
          obtain ⟨p', hp', _, e'⟩ := i1 _ h0
          rw [e']
          exact hq p' hp'
        · exact i2 p hp

theorem cmp_head {a b : List Int} (ha : 0 < a.length) (hb : 0 < b.length) (h : cmpL a b < 0) : a.getD 0 0 ≤ b.getD 0 0 := by
  match a, b, ha, hb with
  | x :: a, y :: b, _, _ =>
    simp only [cmpL] at h
    simp only [List.getD_cons_zero]
    split at h
    · omega
    · split at h
      · simp at h
      · omega

theorem okP.row {W H : Nat} {proof : List (List Int)} (h : okP W H proof) {p : List Int} (hp : p ∈ proof) : p.length = W + 1 ∧ 1 ≤ p.getD 0 0 ∧ p.getD 0 0 < H ∧ ∀ x ∈ p.drop 1, 0 ≤ x ∧ x ≤ 7 := by
  obtain ⟨i, hi, rfl⟩ := List.getElem_of_mem hp
  have := (h i hi).1
  rw [getD_lt _ _ _ hi] at this
  simp only [rowB, Bool.and_eq_true, decide_eq_true_eq, List.all_eq_true, colB] at this
  exact ⟨this.1.1.1, this.1.1.2, this.1.2, this.2⟩

theorem okP.heads {W H : Nat} {proof : List (List Int)} (h : okP W H proof) : ∀ j i, i < j → j < proof.length → (proof.getD i []).getD 0 0 ≤ (proof.getD j []).getD 0 0
  | 0, i, hij, _ => absurd hij (by omega)
  | j + 1, i, hij, hj => by
    have h1 := (h (j + 1) hj).2
    simp only [upB, Bool.or_eq_true, decide_eq_true_eq] at h1
    have h2 : cmpL (proof.getD j []) (proof.getD (j + 1) []) < 0 := by
      rcases h1 with h1 | h1
      · omega
      · exact h1
    have l1 := (h.row (getD_mem (d := []) (show j < proof.length by omega))).1
    have l2 := (h.row (getD_mem (d := []) hj)).1
    have h3 := cmp_head (by omega) (by omega) h2
    by_cases e : i = j
    · subst e; exact h3
    · exact Int.le_trans (okP.heads h j i (by omega) (by omega)) h3

theorem dead_ok {W H : Nat} {proof : List (List Int)} (h : okP W H proof) :
    (∀ c, deadL proof c ≠ 0 → ∃ p ∈ proof, code (p.drop 1) = c ∧ deadL proof c = p.getD 0 0) ∧ ∀ p ∈ proof, deadL proof (code (p.drop 1)) ≠ 0 ∧ deadL proof (code (p.drop 1)) ≤ p.getD 0 0 := by
  have hpw : proof.reverse.Pairwise (fun q p => p.getD 0 0 ≤ q.getD 0 0) := by
    rw [List.pairwise_reverse, List.pairwise_iff_getElem]
    intro i j hi hj hij
    have := h.heads j i hij hj
    rwa [getD_lt _ _ _ hi, getD_lt _ _ _ hj] at this
  have := dead_inv proof.reverse (fun p hp => (h.row (List.mem_reverse.1 hp)).2.1) hpw
  simpa using this

theorem dead_stands {W H : Nat} {proof : List (List Int)} (h : okP W H proof) {s : List Int} (hs : s.length = W) (hc : ∀ x ∈ s, 0 ≤ x ∧ x ≤ 7) {k : Int} : standsB proof s k = true ↔ deadL proof (code s) ≠ 0 ∧ deadL proof (code s) < k := by
  obtain ⟨d1, d2⟩ := dead_ok h
  rw [stands_iff]
  constructor
  · rintro ⟨p, hp, hk, rfl⟩
    have := d2 p hp
    exact ⟨this.1, by omega⟩
  · rintro ⟨h0, hk⟩
    obtain ⟨p, hp, e1, e2⟩ := d1 _ h0
    have hr := h.row hp
    refine ⟨p, hp, by omega, code_inj (by simp; omega) hr.2.2.2 hc e1⟩

/-- A row's colours. -/
theorem row_cols {l : List Tile} (hl : ∀ t ∈ l, colsB t = true) {r : List Nat} (hr : ∀ i ∈ r, i < l.length) : (∀ x ∈ norths l r, 0 ≤ x ∧ x ≤ 7) ∧ ∀ x ∈ souths l r, 0 ≤ x ∧ x ≤ 7 := by
  constructor
  · intro x hx
    simp only [norths, List.mem_map] at hx
    obtain ⟨i, hi, rfl⟩ := hx
    exact (cols_range (hl (tl l i) (by unfold tl; exact getD_mem (hr i hi)))).1
  · intro x hx
    simp only [souths, List.mem_map] at hx
    obtain ⟨i, hi, rfl⟩ := hx
    exact (cols_range (hl (tl l i) (by unfold tl; exact getD_mem (hr i hi)))).2.2.1

/-- The program's numbers say what the specification's lists say. -/
theorem fin_iff {l : List Tile} {W H : Nat} {proof : List (List Int)} (hl : ∀ t ∈ l, colsB t = true) (h : okP W H proof) :
    finP (linesL l W) (deadL proof) ↔ (∀ p ∈ proof, ∀ s ∈ rfrom l (some (p.drop 1)) W [] 255, standsB proof s (p.getD 0 0) = true) ∧ ∀ s ∈ rfrom l none W [] 255, standsB proof s H = true := by
  obtain ⟨d1, d2⟩ := dead_ok h
  have under : ∀ p ∈ proof, ∀ s, s ∈ rfrom l (some (p.drop 1)) W [] 255 ↔ ∃ r ∈ rowsL l W, norths l r = p.drop 1 ∧ souths l r = s := fun p hp s => by
    have := (h.row hp).1
    have hlen : (p.drop 1).length = W := by simp; omega
    have hm := mem_under hl (n := p.drop 1) (s := s)
    rw [hlen] at hm
    exact hm
  have rowOk : ∀ r ∈ rowsL l W, (souths l r).length = W ∧ (∀ x ∈ norths l r, 0 ≤ x ∧ x ≤ 7) ∧ (∀ x ∈ souths l r, 0 ≤ x ∧ x ≤ 7) := fun r hr => by
    obtain ⟨h1, h2, _⟩ := mem_rowsL.1 hr
    exact ⟨by simp [souths, h1], row_cols hl h2⟩
  constructor
  · rintro ⟨hA, hB⟩
    constructor
    · intro p hp s hs
      obtain ⟨r, hr, e1, rfl⟩ := (under p hp s).1 hs
      obtain ⟨g1, _, g2⟩ := rowOk r hr
      rw [dead_stands h g1 g2]
      have hx : lineOf l r ∈ linesL l W := List.mem_map.2 ⟨r, hr, rfl⟩
      have hB' := hB (code (p.drop 1)) (d2 p hp).1 _ hx (by show code (norths l r) = _; rw [e1])
      refine ⟨hA _ hx, ?_⟩
      have : deadL proof (code (souths l r)) < deadL proof (code (p.drop 1)) := hB'
      have := (d2 p hp).2
      omega
    · intro s hs
      obtain ⟨r, hr, rfl⟩ := (mem_firsts hl).1 hs
      obtain ⟨g1, _, g2⟩ := rowOk r hr
      have hx : lineOf l r ∈ linesL l W := List.mem_map.2 ⟨r, hr, rfl⟩
      have h0 := hA _ hx
      obtain ⟨p, hp, e1, e2⟩ := d1 _ h0
      rw [dead_stands h g1 g2]
      refine ⟨h0, ?_⟩
      have := (h.row hp).2.2.1
      have e2' : deadL proof (code (souths l r)) = p.getD 0 0 := e2
      omega
  · rintro ⟨hA, hB⟩
    have south : ∀ r ∈ rowsL l W, deadL proof (code (souths l r)) ≠ 0 := fun r hr => by
      obtain ⟨g1, _, g2⟩ := rowOk r hr
      exact ((dead_stands h g1 g2).1 (hB _ ((mem_firsts hl).2 ⟨r, hr, rfl⟩))).1
    constructor
    · intro x hx
      obtain ⟨r, hr, rfl⟩ := List.mem_map.1 hx
      exact south r hr
    · intro c hc x hx hxc
      obtain ⟨r, hr, rfl⟩ := List.mem_map.1 hx
      obtain ⟨g1, g0, g2⟩ := rowOk r hr
      obtain ⟨p, hp, e1, e2⟩ := d1 c hc
      have hrow := h.row hp
      have hn : norths l r = p.drop 1 := by
        obtain ⟨h1, _, _⟩ := mem_rowsL.1 hr
        refine code_inj (by simp [norths, h1]; omega) g0 hrow.2.2.2 ?_
        rw [e1]; exact hxc
      have := hA p hp _ ((under p hp _).2 ⟨r, hr, hn, rfl⟩)
      have := ((dead_stands h g1 g2).1 this).2
      rw [e2]
      exact this

end Go.Proofs.Ytgalbokmgffhkaa
