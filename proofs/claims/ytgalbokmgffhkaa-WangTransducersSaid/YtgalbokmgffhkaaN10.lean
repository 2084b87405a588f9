/- Texts of my own, merged by program: E2 B6 B7. -/
import Derived.Test.YtgalbokmgffhkaaN00
import Derived.Test.YtgalbokmgffhkaaN08
import Derived.Test.YtgalbokmgffhkaaN09
import Derived.Shelf.SlSortCmp.Whole1
set_option linter.all false
/- What a proof says, plainly: the program's numbers and the specification's lists. -/
namespace Go.Proofs.Ytgalbokmgffhkaa
open Go.Wg

def standsB (proof : List (List Int)) (s : List Int) (k : Int) : Bool := proof.any fun p => decide (p.getD 0 0 < k) && decide (p.drop 1 = s)
theorem stands_iff {proof : List (List Int)} {s : List Int} {k : Int} : standsB proof s k = true ↔ ∃ p ∈ proof, p.getD 0 0 < k ∧ p.drop 1 = s := by
  simp only [standsB, List.any_eq_true, Bool.and_eq_true, decide_eq_true_eq]

theorem dead_inv : ∀ rev : List (List Int), (∀ p ∈ rev, 1 ≤ p.getD 0 0) → rev.Pairwise (fun q p => p.getD 0 0 ≤ q.getD 0 0) →
    (∀ c, deadL rev.reverse c ≠ 0 → ∃ p ∈ rev, code (p.drop 1) = c ∧ deadL rev.reverse c = p.getD 0 0) ∧ ∀ p ∈ rev, deadL rev.reverse (code (p.drop 1)) ≠ 0 ∧ deadL rev.reverse (code (p.drop 1)) ≤ p.getD 0 0
  | [], _, _ => ⟨fun c h => absurd rfl h, by simp⟩
  | q :: rev, h1, h2 => by
    obtain ⟨i1, i2⟩ := dead_inv rev (fun p hp => h1 p (by simp [hp])) (List.pairwise_cons.1 h2).2
    have hq := (List.pairwise_cons.1 h2).1
    have hq1 := h1 q (by simp)
    have e : deadL (q :: rev).reverse = deadF (deadL rev.reverse) q := by
      rw [List.reverse_cons, deadL, List.foldl_append]; rfl
    rw [e]
    by_cases h0 : deadL rev.reverse (code (q.drop 1)) = 0
    · rw [deadF, if_pos h0]
      refine ⟨fun c hc => ?_, fun p hp => ?_⟩
      · by_cases hcq : c = code (q.drop 1)
        · subst hcq
          exact ⟨q, by simp, rfl, if_pos rfl⟩
        · have eu : upd (deadL rev.reverse) (code (q.drop 1)) (q.getD 0 0) c = deadL rev.reverse c := if_neg hcq
          rw [eu] at hc ⊢
          obtain ⟨p, hp, h⟩ := i1 c hc
          exact ⟨p, by simp [hp], h⟩
      · by_cases hcq : code (p.drop 1) = code (q.drop 1)
        · have eu : upd (deadL rev.reverse) (code (q.drop 1)) (q.getD 0 0) (code (p.drop 1)) = q.getD 0 0 := if_pos hcq
          rw [eu]
          rcases List.mem_cons.1 hp with rfl | hp
          · exact ⟨by omega, Int.le_refl _⟩
          · have := (i2 p hp).1
            rw [hcq] at this
            exact absurd h0 this
        · have eu : upd (deadL rev.reverse) (code (q.drop 1)) (q.getD 0 0) (code (p.drop 1)) = deadL rev.reverse (code (p.drop 1)) := if_neg hcq
          rw [eu]
          rcases List.mem_cons.1 hp with rfl | hp
          · exact absurd rfl hcq
          · exact i2 p hp
    · rw [deadF, if_neg h0]
      refine ⟨fun c hc => ?_, fun p hp => ?_⟩
      · obtain ⟨p, hp, h⟩ := i1 c hc
        exact ⟨p, by simp [hp], h⟩
      · rcases List.mem_cons.1 hp with rfl | hp
        · refine ⟨h0, ?_⟩
          obtain ⟨p', hp', _, e'⟩ := i1 _ h0
          rw [e']
          exact hq p' hp'
        · exact i2 p hp

theorem cmp_head {a b : List Int} (ha : 0 < a.length) (hb : 0 < b.length) (h : cmpL a b < 0) : a.getD 0 0 ≤ b.getD 0 0 := by
  match a, b, ha, hb with
  | x :: a, y :: b, _, _ =>
    simp only [cmpL] at h
    simp only [List.getD_cons_zero]
    split at h
    · omega
    · split at h
      · simp at h
      · omega

theorem okP.row {W H : Nat} {proof : List (List Int)} (h : okP W H proof) {p : List Int} (hp : p ∈ proof) : p.length = W + 1 ∧ 1 ≤ p.getD 0 0 ∧ p.getD 0 0 < H ∧ ∀ x ∈ p.drop 1, 0 ≤ x ∧ x ≤ 7 := by
  obtain ⟨i, hi, rfl⟩ := List.getElem_of_mem hp
  have := (h i hi).1
  rw [getD_lt _ _ _ hi] at this
  simp only [rowB, Bool.and_eq_true, decide_eq_true_eq, List.all_eq_true, colB] at this
  exact ⟨this.1.1.1, this.1.1.2, this.1.2, this.2⟩

theorem okP.heads {W H : Nat} {proof : List (List Int)} (h : okP W H proof) : ∀ j i, i < j → j < proof.length → (proof.getD i []).getD 0 0 ≤ (proof.getD j []).getD 0 0
  | 0, i, hij, _ => absurd hij (by omega)
  | j + 1, i, hij, hj => by
    have h1 := (h (j + 1) hj).2
    simp only [upB, Bool.or_eq_true, decide_eq_true_eq] at h1
    have h2 : cmpL (proof.getD j []) (proof.getD (j + 1) []) < 0 := by
      rcases h1 with h1 | h1
      · omega
      · exact h1
    have l1 := (h.row (getD_mem (d := []) (show j < proof.length by omega))).1
    have l2 := (h.row (getD_mem (d := []) hj)).1
    have h3 := cmp_head (by omega) (by omega) h2
    by_cases e : i = j
    · subst e; exact h3
    · exact Int.le_trans (okP.heads h j i (by omega) (by omega)) h3

theorem dead_ok {W H : Nat} {proof : List (List Int)} (h : okP W H proof) :
    (∀ c, deadL proof c ≠ 0 → ∃ p ∈ proof, code (p.drop 1) = c ∧ deadL proof c = p.getD 0 0) ∧ ∀ p ∈ proof, deadL proof (code (p.drop 1)) ≠ 0 ∧ deadL proof (code (p.drop 1)) ≤ p.getD 0 0 := by
  have hpw : proof.reverse.Pairwise (fun q p => p.getD 0 0 ≤ q.getD 0 0) := by
    rw [List.pairwise_reverse, List.pairwise_iff_getElem]
    intro i j hi hj hij
    have := h.heads j i hij hj
    rwa [getD_lt _ _ _ hi, getD_lt _ _ _ hj] at this
  have := dead_inv proof.reverse (fun p hp => (h.row (List.mem_reverse.1 hp)).2.1) hpw
  simpa using this

theorem dead_stands {W H : Nat} {proof : List (List Int)} (h : okP W H proof) {s : List Int} (hs : s.length = W) (hc : ∀ x ∈ s, 0 ≤ x ∧ x ≤ 7) {k : Int} : standsB proof s k = true ↔ deadL proof (code s) ≠ 0 ∧ deadL proof (code s) < k := by
  obtain ⟨d1, d2⟩ := dead_ok h
  rw [stands_iff]
  constructor
  · rintro ⟨p, hp, hk, rfl⟩
    have := d2 p hp
    exact ⟨this.1, by omega⟩
  · rintro ⟨h0, hk⟩
    obtain ⟨p, hp, e1, e2⟩ := d1 _ h0
    have hr := h.row hp
    refine ⟨p, hp, by omega, code_inj (by simp; omega) hr.2.2.2 hc e1⟩

/-- A row's colours. -/
theorem row_cols {l : List Tile} (hl : ∀ t ∈ l, colsB t = true) {r : List Nat} (hr : ∀ i ∈ r, i < l.length) : (∀ x ∈ norths l r, 0 ≤ x ∧ x ≤ 7) ∧ ∀ x ∈ souths l r, 0 ≤ x ∧ x ≤ 7 := by
  constructor
  · intro x hx
    simp only [norths, List.mem_map] at hx
    obtain ⟨i, hi, rfl⟩ := hx
    exact (cols_range (hl (tl l i) (by unfold tl; exact getD_mem (hr i hi)))).1
  · intro x hx
    simp only [souths, List.mem_map] at hx
    obtain ⟨i, hi, rfl⟩ := hx
    exact (cols_range (hl (tl l i) (by unfold tl; exact getD_mem (hr i hi)))).2.2.1

/-- The program's numbers say what the specification's lists say. -/
theorem fin_iff {l : List Tile} {W H : Nat} {proof : List (List Int)} (hl : ∀ t ∈ l, colsB t = true) (h : okP W H proof) :
    finP (linesL l W) (deadL proof) ↔ (∀ p ∈ proof, ∀ s ∈ rfrom l (some (p.drop 1)) W [] 255, standsB proof s (p.getD 0 0) = true) ∧ ∀ s ∈ rfrom l none W [] 255, standsB proof s H = true := by
  obtain ⟨d1, d2⟩ := dead_ok h
  have under : ∀ p ∈ proof, ∀ s, s ∈ rfrom l (some (p.drop 1)) W [] 255 ↔ ∃ r ∈ rowsL l W, norths l r = p.drop 1 ∧ souths l r = s := fun p hp s => by
    have := (h.row hp).1
    have hlen : (p.drop 1).length = W := by simp; omega
    have hm := mem_under hl (n := p.drop 1) (s := s)
    rw [hlen] at hm
    exact hm
  have rowOk : ∀ r ∈ rowsL l W, (souths l r).length = W ∧ (∀ x ∈ norths l r, 0 ≤ x ∧ x ≤ 7) ∧ (∀ x ∈ souths l r, 0 ≤ x ∧ x ≤ 7) := fun r hr => by
    obtain ⟨h1, h2, _⟩ := mem_rowsL.1 hr
    exact ⟨by simp [souths, h1], row_cols hl h2⟩
  constructor
  · rintro ⟨hA, hB⟩
    constructor
    · intro p hp s hs
      obtain ⟨r, hr, e1, rfl⟩ := (under p hp s).1 hs
      obtain ⟨g1, _, g2⟩ := rowOk r hr
      rw [dead_stands h g1 g2]
      have hx : lineOf l r ∈ linesL l W := List.mem_map.2 ⟨r, hr, rfl⟩
      have hB' := hB (code (p.drop 1)) (d2 p hp).1 _ hx (by show code (norths l r) = _; rw [e1])
      refine ⟨hA _ hx, ?_⟩
      have : deadL proof (code (souths l r)) < deadL proof (code (p.drop 1)) := hB'
      have := (d2 p hp).2
      omega
    · intro s hs
      obtain ⟨r, hr, rfl⟩ := (mem_firsts hl).1 hs
      obtain ⟨g1, _, g2⟩ := rowOk r hr
      have hx : lineOf l r ∈ linesL l W := List.mem_map.2 ⟨r, hr, rfl⟩
      have h0 := hA _ hx
      obtain ⟨p, hp, e1, e2⟩ := d1 _ h0
      rw [dead_stands h g1 g2]
      refine ⟨h0, ?_⟩
      have := (h.row hp).2.2.1
      have e2' : deadL proof (code (souths l r)) = p.getD 0 0 := e2
      omega
  · rintro ⟨hA, hB⟩
    have south : ∀ r ∈ rowsL l W, deadL proof (code (souths l r)) ≠ 0 := fun r hr => by
      obtain ⟨g1, _, g2⟩ := rowOk r hr
      exact ((dead_stands h g1 g2).1 (hB _ ((mem_firsts hl).2 ⟨r, hr, rfl⟩))).1
    constructor
    · intro x hx
      obtain ⟨r, hr, rfl⟩ := List.mem_map.1 hx
      exact south r hr
    · intro c hc x hx hxc
      obtain ⟨r, hr, rfl⟩ := List.mem_map.1 hx
      obtain ⟨g1, g0, g2⟩ := rowOk r hr
      obtain ⟨p, hp, e1, e2⟩ := d1 c hc
      have hrow := h.row hp
      have hn : norths l r = p.drop 1 := by
        obtain ⟨h1, _, _⟩ := mem_rowsL.1 hr
        refine code_inj (by simp [norths, h1]; omega) g0 hrow.2.2.2 ?_
        rw [e1]; exact hxc
      have := hA p hp _ ((under p hp _).2 ⟨r, hr, hn, rfl⟩)
      have := ((dead_stands h g1 g2).1 this).2
      rw [e2]
      exact this

end Go.Proofs.Ytgalbokmgffhkaa

/- Contract: the closure by which Refute names what is dead. -/
namespace Go.Proofs.Ytgalbokmgffhkaa
open Go.Lf Go.RowKit Go.Wg

/-- Lists of integers, each in memory of its own. -/
def IRows (base : Nat) (w : World) (v : Value) (R : List (List Int)) : Prop :=
  ∃ vs : List Value, RecAt 30 1 vE base w v vs ∧ vs.length = R.length ∧ ∀ (i : Nat) (u : Value) (r : List Int), vs[i]? = some u → R[i]? = some r → IntsAt base w u r
theorem IRows.kp {base : Nat} {w w' : World} {v : Value} {R : List (List Int)} (h : IRows base w v R) (hk : Kp w w') : IRows base w' v R :=
  let ⟨vs, h1, h2, h3⟩ := h; ⟨vs, h1.kp hk, h2, fun i u r hu hr => (h3 i u r hu hr).kp hk⟩

theorem st23 {w : World} {a : Addr} {x : Option Addr} {n c : Nat} {v : Value} {K : World → Prop} (hc : w.cell? a = some v) (hf : w.frozen? a = false) : stW Try.prog 23 (.pointer (some a)) (.slice x n c) w K = K (w.setCell a (.slice x n c)) := by
  have e : stW Try.prog 23 (.pointer (some a)) (.slice x n c) w K = ((w.cell? (a.add 0)).isSome = true ∧ w.frozen? (a.add 0) = false ∧ true = true ∧ K (w.setCell (a.add 0) (.slice x n c))) := by kernel_rfl
  rw [e]
  have ha : a.add 0 = a := rfl
  simp [ha, hc, hf]

theorem IRows.chg {S : Nat → Prop} {base : Nat} {w w' : World} {v : Value} {R : List (List Int)} (h : IRows base w v R) (hc : Chg S w w') (hs : ∀ k, base ≤ k → k < w.heap.size → ¬ S k) : IRows base w' v R :=
  let ⟨vs, h1, h2, h3⟩ := h; ⟨vs, h1.chg hc fun k hk => hs k (h1.lt hk).1 (h1.lt hk).2, h2, fun i u r hu hr => (h3 i u r hu hr).chg hc fun k hk => hs k ((h3 i u r hu hr).lt hk).1 ((h3 i u r hu hr).lt hk).2⟩

/-- What was owned in w stays while blocks that came later turn. -/
theorem IRows.later {S : Nat → Prop} {base : Nat} {w w1 w2 : World} {v : Value} {R : List (List Int)} (h : IRows base w v R) (hk : Kp w w1) (hc : Chg S w1 w2) (hs : ∀ k, k < w.heap.size → ¬ S k) : IRows base w2 v R :=
  let ⟨vs, h1, h2, h3⟩ := h; ⟨vs, (h1.kp hk).chg hc fun k hk' => hs k (h1.lt hk').2, h2, fun i u r hu hr => ((h3 i u r hu hr).kp hk).chg hc fun k hk' => hs k ((h3 i u r hu hr).lt hk').2⟩

set_option maxRecDepth 100000 in
/-- append(out, row) -/
theorem r_pushRow {base : Nat} {w : World} {v : Value} {R : List (List Int)} {a : Option Addr} {n c : Nat} {r : List Int} {K : Value → World → Prop} (h : IRows base w v R) (hr : IntsAt base w (.slice a n c) r) (hn : R.length + 1 ≤ 1000000) (hb : base ≤ w.heap.size)
    (hk : ∀ v' w', IRows base w' v' (R ++ [r]) → Chg (fun k => v.ownBlock = some k) w w' → (∃ a n c, v' = .slice a n c) → K v' w') :
    bsW Try.prog 23 1 [(0, .slice a n c)] w fun s w => semW Try.prog (apS [23, 23] 23 [v, s]) w K := by
  obtain ⟨vs, h1, h2, h3⟩ := h
  refine r_pushRec (x := .slice a n c) slt23 vE_len rfl (bs23 _ _ _ _) (by intro u hu; simp at hu; subst hu; rfl) (by omega) h1 (by omega) hb fun v' w' p1 p2 p3 => ?_
  refine hk v' w' ⟨_, p1, by simp [h2], fun j u r' hu hr' => ?_⟩ p2 ?_
  · have key : ∀ u r, IntsAt base w u r → IntsAt base w' u r := fun u r hb => hb.chg p2 fun q hq => rec_ne hb h1 (by decide) q hq
    by_cases hj : j < vs.length
    · rw [List.getElem?_append_left hj] at hu
      rw [List.getElem?_append_left (by rw [← h2]; exact hj)] at hr'
      exact key u r' (h3 j u r' hu hr')
    · rw [List.getElem?_append_right (by omega)] at hu
      rw [List.getElem?_append_right (by rw [← h2]; omega), ← h2] at hr'
      match hjj : j - vs.length with
      | 0 =>
        rw [hjj] at hu hr'
        cases hu
        cases hr'
        exact key _ _ hr
      | n + 1 => rw [hjj] at hu; simp at hu
  · obtain ⟨a, c, e, _⟩ := p1.len
    exact ⟨_, _, _, e⟩

theorem own_type {α : Type} {e : TypeId} {m : Nat} {enc : α → List Value} {base : Nat} {w : World} {v : Value} {P : List α} (h : RecAt e m enc base w v P) {k : Nat} (hk : v.ownBlock = some k) : ∃ cur, w.heap[k]? = some (.cells cur e (0, 0)) := by
  rcases h.2 with ⟨rfl, _⟩ | ⟨g, cap, cur, rfl, _, hg, _⟩
  · cases hk
  · cases hk
    exact ⟨cur, hg⟩

set_option maxRecDepth 100000 in
/-- append(out, row), the row's slice already in a block of its own. -/
theorem r_pushRow2 {base : Nat} {w : World} {v : Value} {R : List (List Int)} {a : Option Addr} {n c q : Nat} {r : List Int} {K : Value → World → Prop} (h : IRows base w v R) (hr : IntsAt base w (.slice a n c) r) (hn : R.length + 1 ≤ 1000000) (hb : base ≤ w.heap.size)
    (hq : w.heap[q]? = some (.cells #[.slice a n c] 30 (0, 0)))
    (hk : ∀ v' w', IRows base w' v' (R ++ [r]) → Chg (fun k => v.ownBlock = some k) w w' → (∃ a n c, v' = .slice a n c) → K v' w') :
    semW Try.prog (apS [23, 23] 23 [v, .slice (some ⟨q, 0, none⟩) 1 1]) w K := by
  obtain ⟨vs, h1, h2, h3⟩ := h
  refine r_apAt (news := [.slice a n c]) slt23 h1 rfl (cells_at_row hq) (by intro u hu; simp at hu; subst hu; rfl) (by omega) (by omega) hb fun v' w' ho p2 _ => ?_
  have p1 : RecAt 30 1 vE base w' v' (vs ++ [.slice a n c]) := by
    unfold RecAt
    rw [recCells_append, List.length_append]
    exact ho
  refine hk v' w' ⟨_, p1, by simp [h2], fun j u r' hu hr' => ?_⟩ p2 ?_
  · have key : ∀ u r, IntsAt base w u r → IntsAt base w' u r := fun u r hb => hb.chg p2 fun q hq => rec_ne hb h1 (by decide) q hq
    by_cases hj : j < vs.length
    · rw [List.getElem?_append_left hj] at hu
      rw [List.getElem?_append_left (by rw [← h2]; exact hj)] at hr'
      exact key u r' (h3 j u r' hu hr')
    · rw [List.getElem?_append_right (by omega)] at hu
      rw [List.getElem?_append_right (by rw [← h2]; omega), ← h2] at hr'
      match hjj : j - vs.length with
      | 0 =>
        rw [hjj] at hu hr'
        cases hu
        cases hr'
        exact key _ _ hr
      | n + 1 => rw [hjj] at hu; simp at hu
  · obtain ⟨a, c, e, _⟩ := p1.len
    exact ⟨_, _, _, e⟩

abbrev ptrV (b : Nat) : Value := .pointer (some ⟨b, 0, none⟩)
abbrev nameF (b15 b10 b11 b4 b12 b16 : Nat) : Value := .func (.func 82) #[] #[ptrV b15, ptrV b10, ptrV b11, ptrV b4, ptrV b12, ptrV b16]

section
variable {L : List Line} {a h N : Nat} {kO : Nat → Nat} {w0 : World} {b15 b10 b11 b4 b12 b16 bm base0 : Nat} {nv av : Value}

/-- What stays while dead lists are named. -/
structure NmCtx (L : List Line) (a h N : Nat) (kO : Nat → Nat) (w0 : World) (b15 b10 b11 b4 b12 b16 bm base0 : Nat) (nv av : Value) : Prop where
  ha : 1 ≤ a ∧ a ≤ 4
  hN : N = 8 ^ a
  ok : LnOk N L
  len : L.length ≤ 65536
  hh : h ≤ 100
  h4 : w0.heap[b4]? = some (.cells #[.int .i64 a] 3 (0, 0))
  h10 : w0.heap[b10]? = some (.cells #[av] 88 (0, 0))
  rows : BRows base0 w0 av ((List.range (h + 1)).map (alvL L N))
  h12 : w0.heap[b12]? = some (.cells #[.map (some bm)] 75 (0, 0))
  grp : ∃ bG, GrpAt bG w0 bm (grpL L)
  ne4 : b4 ≠ b11
  ne10 : b10 ≠ b11
  ne12 : b12 ≠ b11
  nem : bm ≠ b11
  h11 : ∃ cs, w0.heap[b11]? = some (.cells cs 23 (0, 0))
  kO1 : ∀ i, i < N → 1 ≤ kO i ∧ kO i ≤ h ∧ (alvL L N (kO i)).getD i false = false ∧ ∀ j, 1 ≤ j → j < kO i → (alvL L N j).getD i false = true

def rowOf (kO : Nat → Nat) (a i : Nat) : List Int := (kO i : Int) :: colsL a i

structure NmSt (L : List Line) (a N : Nat) (kO : Nat → Nat) (w0 : World) (b15 b10 b11 b4 b12 b16 : Nat) (nv : Value) (w : World) (nm : List Bool) (ov : Value) (out : List (List Int)) : Prop where
  c0 : Chg (fun k => k = b11) w0 w
  h15 : w.heap[b15]? = some (.cells #[nv] 91 (0, 0))
  h16 : w.heap[b16]? = some (.cells #[nameF b15 b10 b11 b4 b12 b16] 96 (0, 0))
  nms : BoolsAt w0.heap.size w nv nm
  nlen : nm.length = N
  h11 : w.heap[b11]? = some (.cells #[ov] 23 (0, 0))
  outs : IRows w0.heap.size w ov out
  ne15 : b15 ≠ b11
  ne16 : b16 ≠ b11

def nF (nm : List Bool) : Nat := nm.countP (fun b => !b)
theorem nF_set {nm : List Bool} {c : Nat} (hc : c < nm.length) (hf : nm.getD c false = false) : nF (nm.set c true) < nF nm := by
  unfold nF
  have e : nm = nm.take c ++ nm[c] :: nm.drop (c + 1) := by rw [← List.drop_eq_getElem_cons hc, List.take_append_drop]
  have e2 : nm.set c true = nm.take c ++ true :: nm.drop (c + 1) := by rw [List.set_eq_take_append_cons_drop, if_pos hc]
  have hf' : nm[c] = false := by rw [← getD_lt nm c false hc]; exact hf
  rw [e2]
  conv => rhs; rw [e]
  simp [List.countP_append, List.countP_cons, hf']
theorem nF_le : ∀ {nm nm' : List Bool}, nm.length = nm'.length → (∀ i, nm.getD i false = true → nm'.getD i false = true) → nF nm' ≤ nF nm
  | [], [], _, _ => Nat.le_refl _
  | b :: nm, b' :: nm', hl, hm => by
    have ih := nF_le (nm := nm) (nm' := nm') (by simpa using hl) fun i hi => by simpa using hm (i + 1) (by simpa using hi)
    have h0 := hm 0
    simp only [List.getD_cons_zero] at h0
    unfold nF at *
    simp only [List.countP_cons]
    cases b <;> cases b' <;> simp at h0 ⊢ <;> omega

theorem NmCtx.grpk (C : NmCtx L a h N kO w0 b15 b10 b11 b4 b12 b16 bm base0 nv av) {c s : Int} (hs : s ∈ grpL L c) : ∃ k : Nat, s = k ∧ k < N ∧ ∃ x ∈ L, x.2.2.1 = s := by
  obtain ⟨x, hx, _, rfl⟩ := mem_grp.1 hs
  obtain ⟨_, x3, x4⟩ := C.ok x hx
  exact ⟨x.2.2.1.toNat, by omega, by omega, x, hx, rfl⟩

theorem not_box {α : Type} {e : TypeId} {m : Nat} {enc : α → List Value} {base : Nat} {w : World} {v : Value} {P : List α} {b : Nat} (h : RecAt e m enc base w v P) (hne : e ≠ 23) (hb : ∃ cs, w.heap[b]? = some (.cells cs 23 (0, 0))) (hk : v.ownBlock = some b) : False := by
  obtain ⟨cur, hcur⟩ := own_type h hk
  obtain ⟨cs, hcs⟩ := hb
  rw [hcs] at hcur
  injection hcur with hcur
  injection hcur with _ h3 _
  exact hne h3.symm

theorem BRows.kp0 {base : Nat} {w w' : World} {v : Value} {R : List (List Bool)} (h : BRows base w v R) (hc : Chg (fun k => k = b11) w w') (hb : ∃ cs, w.heap[b11]? = some (.cells cs 23 (0, 0))) : BRows base w' v R :=
  let ⟨vs, h1, h2, h3⟩ := h; ⟨vs, h1.chg hc fun k hk e => not_box h1 (by decide) hb (e ▸ hk), h2, fun i u r hu hr => (h3 i u r hu hr).chg hc fun k hk e => not_box (h3 i u r hu hr) (by decide) hb (e ▸ hk)⟩

theorem NmSt.kp {w w' : World} {nm : List Bool} {ov : Value} {out : List (List Int)} (S : NmSt L a N kO w0 b15 b10 b11 b4 b12 b16 nv w nm ov out) (hk : Kp w w') : NmSt L a N kO w0 b15 b10 b11 b4 b12 b16 nv w' nm ov out :=
  ⟨S.c0.trans (Chg.of_kp hk), block_below S.h15 hk, block_below S.h16 hk, S.nms.kp hk, S.nlen, block_below S.h11 hk, S.outs.kp hk, S.ne15, S.ne16⟩

set_option maxRecDepth 100000 in
set_option maxHeartbeats 1000000 in
theorem name_calls (C : NmCtx L a h N kO w0 b15 b10 b11 b4 b12 b16 bm base0 nv av) : ∀ (m : Nat) (c : Nat) (w : World) (nm : List Bool) (ov : Value) (out : List (List Int)), nF nm ≤ m → c < N → NmSt L a N kO w0 b15 b10 b11 b4 b12 b16 nv w nm ov out → out.length + nF nm ≤ 10000 →
    Calls Try.prog 82 #[.int .i64 c, ptrV b15, ptrV b10, ptrV b11, ptrV b4, ptrV b12, ptrV b16] w fun e w' => e = .returned (.tuple #[]) ∧ ∃ (nm' : List Bool) (ov' : Value) (new : List Nat), NmSt L a N kO w0 b15 b10 b11 b4 b12 b16 nv w' nm' ov' (out ++ new.map (rowOf kO a)) ∧
      (∀ i, nm.getD i false = true → nm'.getD i false = true) ∧ nm'.getD c false = true ∧ new.Nodup ∧ (∀ i, i ∈ new ↔ nm'.getD i false = true ∧ nm.getD i false = false) ∧ (∀ i ∈ new, i = c ∨ ∃ x ∈ L, x.2.2.1 = (i : Nat)) ∧ (∀ i ∈ new, ∀ s ∈ grpL L (i : Nat), nm'.getD s.toNat false = true) ∧ new.length + nF nm' ≤ nF nm := by
  have done : ∀ (c : Nat) (w : World) (nm : List Bool) (ov : Value) (out : List (List Int)), c < N → NmSt L a N kO w0 b15 b10 b11 b4 b12 b16 nv w nm ov out → nm.getD c false = true →
      Calls Try.prog 82 #[.int .i64 c, ptrV b15, ptrV b10, ptrV b11, ptrV b4, ptrV b12, ptrV b16] w fun e w' => e = .returned (.tuple #[]) ∧ ∃ (nm' : List Bool) (ov' : Value) (new : List Nat), NmSt L a N kO w0 b15 b10 b11 b4 b12 b16 nv w' nm' ov' (out ++ new.map (rowOf kO a)) ∧
      (∀ i, nm.getD i false = true → nm'.getD i false = true) ∧ nm'.getD c false = true ∧ new.Nodup ∧ (∀ i, i ∈ new ↔ nm'.getD i false = true ∧ nm.getD i false = false) ∧ (∀ i ∈ new, i = c ∨ ∃ x ∈ L, x.2.2.1 = (i : Nat)) ∧ (∀ i ∈ new, ∀ s ∈ grpL L (i : Nat), nm'.getD s.toNat false = true) ∧ new.length + nF nm' ≤ nF nm := by
    intro c w nm ov out hc S hnc
    have hcl : c < nm.length := by rw [S.nlen]; exact hc
    obtain ⟨g, cap, ev, _, gc, _, _⟩ := BoolsAt.put S.nms hcl true
    have c15 : w.cell? ⟨b15, 0, none⟩ = some nv := by rw [cell_row S.h15]; rfl
    refine lift82 ?_
    unfold S82
    rw [hnc] at gc
    rw [ev] at c15
    simp (disch := omega) only [r_ln, r_pick, r_pickT, r_pickF, r_condT, r_condF, r_gdTT, r_gdFF, r_gdTF, r_gdFT, r_gqTT, r_gqFF, r_gqTF, r_gqFT, r_not, r_lss, r_leq, r_gtr, r_geq, r_eql, r_neq, r_add, r_sub, r_min2, r_max2, r_min3, r_max3, r_fa, r_iaS, r_iaA, r_ex2a, r_ex2b, r_ex3a, r_ex3b, r_ex3c, r_nc, r_keepE, Nat.zero_add, Nat.add_zero, Nat.mul_one, Int.toNat_natCast, toNat_sub1, toNat_add1, decide_true, decide_false, Bool.not_true, Bool.not_false, if_true, if_false, Bool.false_eq_true, reduceCtorEq, r_ld c15, r_ld gc]
    refine ⟨by first | rfl | trivial, nm, ov, [], by simpa using S, fun i h => h, hnc, by simp, fun i => ⟨fun h => by simp at h, fun h => by rw [h.1] at h; exact absurd h.2 (by decide)⟩, by simp, by simp, by simp⟩
  intro m
  induction m with
  | zero =>
    intro c w nm ov out hm hc S hlen
    have hcl : c < nm.length := by rw [S.nlen]; exact hc
    cases hnc : nm.getD c false with
    | false =>
      have := nF_set hcl hnc
      omega
    | true => exact done c w nm ov out hc S hnc
  | succ m ih =>
    intro c w nm ov out hm hc S hlen
    have hcl : c < nm.length := by rw [S.nlen]; exact hc
    cases hnc : nm.getD c false with
    | true => exact done c w nm ov out hc S hnc
    | false =>
    obtain ⟨g, cap, ev, hgb, gc, gf, gset⟩ := BoolsAt.put S.nms hcl true
    have c15 : w.cell? ⟨b15, 0, none⟩ = some nv := by rw [cell_row S.h15]; rfl
    have hset := nF_set hcl hnc
    refine lift82 ?_
    unfold S82
    rw [hnc] at gc
    rw [ev] at c15
    simp (disch := omega) only [r_ln, r_pick, r_pickT, r_pickF, r_condT, r_condF, r_gdTT, r_gdFF, r_gdTF, r_gdFT, r_gqTT, r_gqFF, r_gqTF, r_gqFT, r_not, r_lss, r_leq, r_gtr, r_geq, r_eql, r_neq, r_add, r_sub, r_min2, r_max2, r_min3, r_max3, r_fa, r_iaS, r_iaA, r_ex2a, r_ex2b, r_ex3a, r_ex3b, r_ex3c, r_nc, r_keepE, Nat.zero_add, Nat.add_zero, Nat.mul_one, Int.toNat_natCast, toNat_sub1, toNat_add1, decide_true, decide_false, Bool.not_true, Bool.not_false, if_true, if_false, Bool.false_eq_true, reduceCtorEq, r_ld c15, r_ld gc]
    rw [st4 gc gf]
    have gty : ∃ cur, w.heap[g]? = some (.cells cur 4 (0, 0)) := by
      obtain ⟨g', _, cur, e', _, hg', _⟩ := S.nms.blk (by omega)
      rw [ev] at e'
      cases e'
      exact ⟨_, hg'⟩
    obtain ⟨gcur, gty⟩ := gty
    have s0 := S.c0.size
    have nb : ∀ {b : Nat} {o : Obj}, w.heap[b]? = some o → (∀ cur, o ≠ .cells cur 4 (0, 0)) → b ≠ g := fun hb ho e => by
      subst e
      rw [gty] at hb
      exact ho _ (Option.some.inj hb).symm
    have cs : Chg (fun k => k = g) w (w.setCell ⟨g, c, none⟩ (.bool true)) := Chg.setCell _ _ rfl
    have S1 : NmSt L a N kO w0 b15 b10 b11 b4 b12 b16 nv (w.setCell ⟨g, c, none⟩ (.bool true)) (nm.set c true) ov out := by
      refine ⟨?_, cs.at S.h15 (nb S.h15 fun cur h => by cases h), cs.at S.h16 (nb S.h16 fun cur h => by cases h), gset, by rw [List.length_set]; exact S.nlen, cs.at S.h11 (nb S.h11 fun cur h => by cases h), ?_, S.ne15, S.ne16⟩
      · have t : Chg (fun k => k = b11 ∨ w0.heap.size ≤ k) w0 (w.setCell ⟨g, c, none⟩ (.bool true)) := (S.c0.mono fun k _ e => .inl e).trans (cs.mono fun k _ e => .inr (by omega))
        exact t.mono fun k hk e => by
          rcases e with e | e
          · exact e
          · omega
      · obtain ⟨vs, o1, o2, o3⟩ := S.outs
        have outer := rec_ne o1 S.nms (by decide)
        refine ⟨vs, o1.chg cs fun k hk e => outer k hk (by rw [e, ev]; rfl), o2, fun i u r hu hr => (o3 i u r hu hr).chg cs fun k hk e => ?_⟩
        exact rec_ne (o3 i u r hu hr) S.nms (by decide) k hk (by rw [e, ev]; rfl)
    have k1 : Chg (fun k => w0.heap.size ≤ k) w (w.setCell ⟨g, c, none⟩ (.bool true)) := cs.mono fun k _ e => by omega
    generalize w.setCell ⟨g, c, none⟩ (.bool true) = w1 at *
    obtain ⟨kk1, kk2, kk3, kk4⟩ := C.kO1 c hc
    have hget1 : ∀ i, (nm.set c true).getD i false = true ↔ i = c ∨ nm.getD i false = true := fun i => by
      by_cases hi : i = c
      · subst hi
        simp [List.getD_eq_getElem?_getD, hcl]
      · simp [List.getD_eq_getElem?_getD, List.getElem?_set_ne (Ne.symm hi), hi]
    have R1 := C.rows.kp0 S1.c0 C.h11
    have hrl : ((List.range (h + 1)).map (alvL L N)).length = h + 1 := by simp
    have hh100 := C.hh
    refine ⟨fun t8 wr => ∃ k : Nat, 1 ≤ k ∧ k ≤ kO c ∧ t8 = .int .i64 k ∧ w1 = wr, fun t8 _ => kO c - (intOf t8).toNat, ⟨1, by omega, kk1, rfl, rfl⟩, ?_⟩
    rintro _ _ _ ⟨k, hk1, hk2, rfl, rfl⟩
    have c10 : w1.cell? ⟨b10, 0, none⟩ = some av := by rw [cell_row (S1.c0.at C.h10 C.ne10)]; rfl
    obtain ⟨ob, oo, ocap, u, eo, ocell, hu⟩ := R1.row (i := k) (r := alvL L N k) (by rw [List.getElem?_map, List.getElem?_range (by omega)]; rfl)
    have hpl := alvL_len L N k
    obtain ⟨ub, uo, uc, eu, _, hus⟩ := (hu.rd bC_len).at (i := c) (x := (alvL L N k).getD c false) (by rw [List.getElem?_eq_getElem (by omega), getD_lt _ _ _ (by omega)])
    have hus0 := hus 0 _ rfl
    simp only [Nat.mul_one, Nat.add_zero] at hus0
    rw [eo] at c10
    rw [eu] at ocell
    rw [hrl] at c10
    by_cases hkk : k < kO c
    · rw [kk4 k hk1 hkk] at hus0
      simp (disch := omega) only [r_ln, r_pick, r_pickT, r_pickF, r_condT, r_condF, r_gdTT, r_gdFF, r_gdTF, r_gdFT, r_gqTT, r_gqFF, r_gqTF, r_gqFT, r_not, r_lss, r_leq, r_gtr, r_geq, r_eql, r_neq, r_add, r_sub, r_min2, r_max2, r_min3, r_max3, r_fa, r_iaS, r_iaA, r_ex2a, r_ex2b, r_ex3a, r_ex3b, r_ex3c, r_nc, r_keepE, Nat.zero_add, Nat.add_zero, Nat.mul_one, Int.toNat_natCast, toNat_sub1, toNat_add1, decide_true, decide_false, Bool.not_true, Bool.not_false, if_true, if_false, Bool.false_eq_true, reduceCtorEq, r_ld c10, r_ld ocell, r_ld hus0]
      exact ⟨⟨k + 1, by omega, by omega, by go_num, by first | rfl | trivial⟩, by simp only [intOf]; omega⟩
    have ek : k = kO c := by omega
    rw [ek, kk3] at hus0
    rw [ek] at ocell hpl
    subst ek
    simp (disch := omega) only [r_ln, r_pick, r_pickT, r_pickF, r_condT, r_condF, r_gdTT, r_gdFF, r_gdTF, r_gdFT, r_gqTT, r_gqFF, r_gqTF, r_gqFT, r_not, r_lss, r_leq, r_gtr, r_geq, r_eql, r_neq, r_add, r_sub, r_min2, r_max2, r_min3, r_max3, r_fa, r_iaS, r_iaA, r_ex2a, r_ex2b, r_ex3a, r_ex3b, r_ex3c, r_nc, r_keepE, Nat.zero_add, Nat.add_zero, Nat.mul_one, Int.toNat_natCast, toNat_sub1, toNat_add1, decide_true, decide_false, Bool.not_true, Bool.not_false, if_true, if_false, Bool.false_eq_true, reduceCtorEq, r_ld c10, r_ld ocell, r_ld hus0]
    refine r_drew fun w2 y2 _ => ?_
    have S2 := S1.kp y2
    have c11 : w2.cell? ⟨b11, 0, none⟩ = some ov := by rw [cell_row S2.h11]; rfl
    have c4 : w2.cell? ⟨b4, 0, none⟩ = some (.int .i64 a) := by rw [cell_row (S2.c0.at C.h4 C.ne4)]; rfl
    have l11 := block_lt S2.h11
    have l4 := block_lt (S2.c0.at C.h4 C.ne4)
    have s02 := S2.c0.size
    have h8 := pow8N_le C.ha.2
    have hcN : (c : Int) ≤ 4096 := by have := C.hN; omega
    refine r_join0 (fun x => ∃ ov2, NmSt L a N kO w0 b15 b10 b11 b4 b12 b16 nv x (nm.set c true) ov2 (out ++ [rowOf kO a c])) ?_ ?_
    rotate_left
    · intro kk hkk
      have n11 : ¬ (fun k => w2.heap.size ≤ k) b11 := by dsimp only; omega
      have n4 : ¬ (fun k => w2.heap.size ≤ k) b4 := by dsimp only; omega
      refine ⟨fun k => w2.heap.size ≤ k, ?_⟩
      simp only [r_ln, r_pick, r_pickT, r_pickF, r_condT, r_condF, r_gdTT, r_gdFF, r_gdTF, r_gdFT, r_gqTT, r_gqFF, r_gqTF, r_gqFT, r_not, r_lss, r_leq, r_gtr, r_geq, r_eql, r_neq, r_add, r_sub, r_min2, r_max2, r_min3, r_max3, r_fa, r_iaS, r_iaA, r_ex2a, r_ex2b, r_ex3a, r_ex3b, r_ex3c, r_nc, r_keepE, Nat.zero_add, Nat.add_zero, Nat.mul_one, Int.toNat_natCast, toNat_sub1, toNat_add1, decide_true, decide_false, Bool.not_true, Bool.not_false, if_true, if_false, Bool.false_eq_true, reduceCtorEq, r_tx, r_txl (X := fun k => w2.heap.size ≤ k) c11 n11, r_txl (X := fun k => w2.heap.size ≤ k) c4 n4]
      have tail : ∀ (wz : World) (p : Nat) (v32 : Value), Kp w2 wz → w2.heap.size ≤ p → IntsAt w2.heap.size wz (.slice (some ⟨p, 0, none⟩) 1 1) [(kO c : Int)] → IntsAt w2.heap.size wz v32 (colsL a c) →
          semW Try.prog (apS [30, 30] 30 [.slice (some ⟨p, 0, none⟩) 1 1, v32]) wz (keepX (fun k => w2.heap.size ≤ k) wz fun t33 w => bsW Try.prog 23 1 [(0, t33)] w (keepX (fun k => w2.heap.size ≤ k) w fun t34 w => semW Try.prog (apS [23, 23] 23 [ov, t34]) w fun t35 w => stW Try.prog 23 (ptrV b11) t35 w fun w => kk w)) := fun wz p v32 kz hp ho1 ho2 => by
        have hcl2 := colsL_len a c
        have ha4 := C.ha
        obtain ⟨vg, vcap, vcur, rfl, hvb, hvg, _, _, _, hvt⟩ := ho2.blk (by omega)
        have sz := kz.size
        have hnews : ∀ j u, ((colsL a c).map (Value.int .i64))[j]? = some u → wz.cell? ((⟨vg, 0, none⟩ : Addr).add j) = some u := fun j u hj => by
          have h1 := (ho2.rd iC_len).ints (by omega)
          rw [List.getElem?_map] at hj
          cases hx : (colsL a c)[j]? with
          | none => rw [hx] at hj; cases hj
          | some x =>
            rw [hx] at hj
            cases hj
            have hjl : j < (colsL a c).length := (List.getElem?_eq_some_iff.1 hx).1
            obtain ⟨b', o', _, e', hc'⟩ := h1.at hjl
            cases e'
            rw [r_addr, hc', getD_lt _ _ _ hjl, (List.getElem?_eq_some_iff.1 hx).2]
        refine r_apAt (news := (colsL a c).map (.int .i64)) slt30 ho1 (by simp) hnews (by intro u hu; simp at hu; obtain ⟨x, _, rfl⟩ := hu; rfl) (by simp; omega) (by omega) sz fun v33 w5 ho5 c5 hv5 => ?_
        have c5p : Chg (fun k => k = p) wz w5 := c5.mono fun k _ e => by injection e with e; exact e.symm
        refine ⟨BX.of_chg (c5p.mono fun k _ e => by rw [e]; exact hp), ?_⟩
        have o33 : IntsAt w2.heap.size w5 v33 (rowOf kO a c) := by
          have e1 : recCells iC (rowOf kO a c) = recCells iC [(kO c : Int)] ++ (colsL a c).map (.int .i64) := by
            rw [rec_ints, rec_ints]; rfl
          unfold IntsAt RecAt
          rw [e1]
          have e2 : (rowOf kO a c).length = [(kO c : Int)].length + (colsL a c).length := by simp [rowOf]; omega
          rw [e2]
          exact ho5
        obtain ⟨ra, rcap, rfl, _⟩ := o33.len
        dsimp only
        rw [bs23]
        refine ⟨BX.of_below (below_alloc _), ?_⟩
        have y6 : Kp w5 (w5.alloc (.cells #[.slice ra (rowOf kO a c).length rcap] 30)) := below_alloc _
        have n6 := heap_alloc_new w5 (.cells #[.slice ra (rowOf kO a c).length rcap] 30)
        generalize w5.alloc (.cells #[.slice ra (rowOf kO a c).length rcap] 30) = w6 at *
        have s5 := c5.size
        have s6 := y6.size
        have h11z : wz.heap[b11]? = some (.cells #[ov] 23 (0, 0)) := block_below S2.h11 kz
        have h116 : w6.heap[b11]? = some (.cells #[ov] 23 (0, 0)) := block_below (c5p.at h11z (by omega)) y6
        have outs6 : IRows w0.heap.size w6 ov out := (S2.outs.later kz c5p fun k hk e => by omega).kp y6
        refine r_pushRow2 outs6 ((o33.down s02).kp y6) (by omega) (by omega) n6 fun ov2 w7 o7 c7 hsl => ?_
        obtain ⟨sa, sn, sc, rfl⟩ := hsl
        obtain ⟨vs6, q6, _, _⟩ := outs6
        have nob : ∀ {b : Nat} {o : Obj}, w6.heap[b]? = some o → (∀ cur, o ≠ .cells cur 30 (0, 0)) → ¬ ov.ownBlock = some b := fun hb ho e => by
          obtain ⟨cur, hcur⟩ := own_type q6 e
          rw [hcur] at hb
          exact ho _ (Option.some.inj hb).symm
        have h117 : w7.heap[b11]? = some (.cells #[ov] 23 (0, 0)) := c7.at h116 (nob h116 fun cur h => by cases h)
        have c117 : w7.cell? ⟨b11, 0, none⟩ = some ov := by rw [cell_row h117]; rfl
        rw [st23 c117 (frozen_row h117)]
        have h118 := setCell_block (o := 0) (v := .slice sa sn sc) h117 rfl
        have c8 : Chg (fun k => k = b11) w7 (w7.setCell ⟨b11, 0, none⟩ (.slice sa sn sc)) := Chg.setCell _ _ rfl
        generalize w7.setCell ⟨b11, 0, none⟩ (.slice sa sn sc) = w8 at *
        have s7 := c7.size
        have carry : ∀ {b : Nat} {o : Obj}, w2.heap[b]? = some o → b ≠ b11 → (∀ cur, o ≠ .cells cur 30 (0, 0)) → w8.heap[b]? = some o := fun {b o} hb hne ho => by
          have lb := block_lt hb
          have h6 : w6.heap[b]? = some o := block_below (c5p.at (block_below hb kz) (by omega)) y6
          exact c8.at (c7.at h6 (nob h6 ho)) hne
        refine hkk w8 ⟨_, ?_, carry S2.h15 S2.ne15 (fun cur h => by cases h), carry S2.h16 S2.ne16 (fun cur h => by cases h), ?_, S2.nlen, h118, ?_, S2.ne15, S2.ne16⟩
        · have t : Chg (fun k => k = b11 ∨ w0.heap.size ≤ k) w0 w8 :=
            (((((S2.c0.mono fun k _ e => .inl e).trans (Chg.of_kp kz)).trans (c5p.mono fun k _ e => .inr (by omega))).trans (Chg.of_kp y6)).trans (c7.mono fun k _ e => .inr (q6.lt e).1)).trans (c8.mono fun k _ e => .inl e)
          exact t.mono fun k hk e => by
            rcases e with e | e
            · exact e
            · omega
        · have m6 : BoolsAt w0.heap.size w6 nv (nm.set c true) := ((S2.nms.kp kz).chg c5p fun k hk e => by have := (S2.nms.lt hk).2; omega).kp y6
          have m7 : BoolsAt w0.heap.size w7 nv (nm.set c true) := m6.chg c7 fun k hk => rec_ne m6 q6 (by decide) k hk
          refine m7.chg c8 fun k hk e => ?_
          obtain ⟨cur, hcur⟩ := own_type m7 hk
          rw [e, h117] at hcur
          cases hcur
        · obtain ⟨vs7, q7, q8, q9⟩ := o7
          have nc : ∀ {α : Type} {e : TypeId} {m : Nat} {enc : α → List Value} {u : Value} {P : List α}, RecAt e m enc w0.heap.size w7 u P → e ≠ 23 → ∀ k, u.ownBlock = some k → ¬ k = b11 := fun hR hne k hk e => by
            obtain ⟨cur, hcur⟩ := own_type hR hk
            rw [e, h117] at hcur
            injection hcur with hcur
            injection hcur with _ h3 _
            exact hne h3.symm
          exact ⟨vs7, q7.chg c8 (nc q7 (by decide)), q8, fun i u r hu hr => (q9 i u r hu hr).chg c8 (nc (q9 i u r hu hr) (by decide))⟩
      have w2base : ∀ {wy : World}, Kp w2 wy → w2.heap.size ≤ wy.heap.size := fun k => k.size
      refine ⟨?_, ?_, trivial⟩
      · rw [bs30]
        refine ⟨BX.of_below (below_alloc _), ?_⟩
        have o3 := rec_one (e := 3) (enc := iC) (x := (kO c : Int)) rfl w2
        have y3 : Kp w2 (w2.alloc (.cells #[.int .i64 (kO c : Int)] 3)) := below_alloc _
        generalize w2.alloc (.cells #[.int .i64 (kO c : Int)] 3) = w3 at *
        refine r_use fok83 (colours_calls (c := (c : Int)) w3 C.ha.2 (by omega) hcN) rfl ?_
        rintro _ w4 ⟨v32, rfl, y4, ho4⟩
        refine ⟨_, rfl, BX.of_below y4, ?_⟩
        exact tail w4 _ v32 (Kp.trans y3 y4) (Nat.le_refl _) (o3.kp y4) (ho4.down y3.size)
      · refine r_use fok83 (colours_calls (c := (c : Int)) w2 C.ha.2 (by omega) hcN) rfl ?_
        rintro _ w3 ⟨v32, rfl, y3, ho3⟩
        refine ⟨_, rfl, BX.of_below y3, ?_⟩
        dsimp only
        rw [bs30]
        refine ⟨BX.of_below (below_alloc _), ?_⟩
        have o4 := rec_one (e := 3) (enc := iC) (x := (kO c : Int)) rfl w3
        have y4 : Kp w3 (w3.alloc (.cells #[.int .i64 (kO c : Int)] 3)) := below_alloc _
        generalize w3.alloc (.cells #[.int .i64 (kO c : Int)] 3) = w4 at *
        exact tail w4 _ v32 (Kp.trans y3 y4) y3.size (o4.down y3.size) (ho3.kp y4)
    rintro x ⟨ov2, Sx⟩
    obtain ⟨bG, f, gf1, gf2, _⟩ := C.grp
    have fx : ∀ {wy : World} {nm : List Bool} {ov : Value} {out : List (List Int)}, NmSt L a N kO w0 b15 b10 b11 b4 b12 b16 nv wy nm ov out → wy.heap[b12]? = some (.cells #[.map (some bm)] 75 (0, 0)) ∧ MapF wy bm nilS f ∧ ∀ c, IntsAt bG wy (f c) (grpL L c) := fun Sy =>
      ⟨Sy.c0.at C.h12 C.ne12, gf1.chg Sy.c0 C.nem, fun c => (gf2 c).chg Sy.c0 fun k hk e => not_box (gf2 c) (by decide) C.h11 (e ▸ hk)⟩
    obtain ⟨x12, xm, xi⟩ := fx Sx
    have c12 : x.cell? ⟨b12, 0, none⟩ = some (.map (some bm)) := by rw [cell_row x12]; rfl
    have ikc : IKey (c : Int) := ⟨by omega, by omega⟩
    obtain ⟨fa, fcap, fe, _⟩ := (xi c).len
    rw [r_ld c12, r_lkF und75 zero30 xm ikc, fe]
    simp only [r_ln, r_pick, r_pickT, r_pickF, r_condT, r_condF, r_gdTT, r_gdFF, r_gdTF, r_gdFT, r_gqTT, r_gqFF, r_gqTF, r_gqFT, r_not, r_lss, r_leq, r_gtr, r_geq, r_eql, r_neq, r_add, r_sub, r_min2, r_max2, r_min3, r_max3, r_fa, r_iaS, r_iaA, r_ex2a, r_ex2b, r_ex3a, r_ex3b, r_ex3c, r_nc, r_keepE, Nat.zero_add, Nat.add_zero, Nat.mul_one, Int.toNat_natCast, toNat_sub1, toNat_add1, decide_true, decide_false, Bool.not_true, Bool.not_false, if_true, if_false, Bool.false_eq_true, reduceCtorEq]
    have hgl := grp_len L (c : Int)
    have hLl := C.len
    refine ⟨fun t40 wr => ∃ (q : Nat) (nq : List Bool) (oq : Value) (new : List Nat), q ≤ (grpL L (c : Int)).length ∧ t40 = .int .i64 q ∧ NmSt L a N kO w0 b15 b10 b11 b4 b12 b16 nv wr nq oq (out ++ (c :: new).map (rowOf kO a)) ∧
        (∀ i, (nm.set c true).getD i false = true → nq.getD i false = true) ∧ (c :: new).Nodup ∧ (∀ i, i ∈ c :: new ↔ nq.getD i false = true ∧ nm.getD i false = false) ∧ (∀ i ∈ new, ∃ x ∈ L, x.2.2.1 = (i : Nat)) ∧ (∀ i ∈ new, ∀ s ∈ grpL L (i : Nat), nq.getD s.toNat false = true) ∧
        (∀ s ∈ (grpL L (c : Int)).take q, nq.getD s.toNat false = true) ∧ new.length + nF nq ≤ nF (nm.set c true), fun t40 _ => (grpL L (c : Int)).length - (intOf t40).toNat,
      ⟨0, nm.set c true, ov2, [], by omega, rfl, Sx, fun i h => h, by simp, fun i => ?_, by simp, by simp, by simp, by simp⟩, ?_⟩
    · rw [hget1 i, List.mem_singleton]
      constructor
      · rintro rfl
        exact ⟨.inl rfl, hnc⟩
      · rintro ⟨h1 | h1, h2⟩
        · exact h1
        · rw [h1] at h2; cases h2
    rintro _ _ wr ⟨q, nq, oq, new, hq, rfl, Sq, hmono, hnd, hiff, hsrc, hsucc, hfirst, hcnt⟩
    by_cases hql : q < (grpL L (c : Int)).length
    case neg =>
      have hql' : ¬ (q : Int) < ((grpL L (c : Int)).length : Int) := by omega
      rw [List.take_of_length_le (by omega)] at hfirst
      simp (disch := omega) only [r_ln, r_pick, r_pickT, r_pickF, r_condT, r_condF, r_gdTT, r_gdFF, r_gdTF, r_gdFT, r_gqTT, r_gqFF, r_gqTF, r_gqFT, r_not, r_lss, r_leq, r_gtr, r_geq, r_eql, r_neq, r_add, r_sub, r_min2, r_max2, r_min3, r_max3, r_fa, r_iaS, r_iaA, r_ex2a, r_ex2b, r_ex3a, r_ex3b, r_ex3c, r_nc, r_keepE, Nat.zero_add, Nat.add_zero, Nat.mul_one, Int.toNat_natCast, toNat_sub1, toNat_add1, decide_true, decide_false, Bool.not_true, Bool.not_false, if_true, if_false, Bool.false_eq_true, reduceCtorEq, hql']
      refine ⟨by first | rfl | trivial, nq, oq, c :: new, Sq, fun i h => hmono i ((hget1 i).2 (.inr h)), hmono c ((hget1 c).2 (.inl rfl)), hnd, hiff, fun i hi => ?_, fun i hi => ?_, by simp; omega⟩
      · rcases List.mem_cons.1 hi with h | h
        · exact .inl h
        · exact .inr (hsrc i h)
      · rcases List.mem_cons.1 hi with h | h
        · rw [h]; exact hfirst
        · exact hsucc i h
    have hql' : (q : Int) < ((grpL L (c : Int)).length : Int) := by omega
    obtain ⟨s, hs, hsN, hsx⟩ := C.grpk (c := (c : Int)) (s := (grpL L (c : Int)).getD q 0) (getD_mem hql)
    obtain ⟨_, _, xr⟩ := fx Sq
    obtain ⟨rb, ro, _, re, rcell⟩ := (((xr c).rd iC_len).ints (by omega)).at hql
    rw [fe] at re
    cases re
    rw [hs] at rcell
    have c16 : wr.cell? ⟨b16, 0, none⟩ = some (nameF b15 b10 b11 b4 b12 b16) := by rw [cell_row Sq.h16]; rfl
    simp (disch := omega) only [r_ln, r_pick, r_pickT, r_pickF, r_condT, r_condF, r_gdTT, r_gdFF, r_gdTF, r_gdFT, r_gqTT, r_gqFF, r_gqTF, r_gqFT, r_not, r_lss, r_leq, r_gtr, r_geq, r_eql, r_neq, r_add, r_sub, r_min2, r_max2, r_min3, r_max3, r_fa, r_iaS, r_iaA, r_ex2a, r_ex2b, r_ex3a, r_ex3b, r_ex3c, r_nc, r_keepE, Nat.zero_add, Nat.add_zero, Nat.mul_one, Int.toNat_natCast, toNat_sub1, toNat_add1, decide_true, decide_false, Bool.not_true, Bool.not_false, if_true, if_false, Bool.false_eq_true, reduceCtorEq, decide_eq_true hql', r_ld rcell, r_ld c16]
    refine r_use fok82 (ih s wr nq oq _ (by omega) hsN Sq (by simp; omega)) rfl ?_
    rintro _ w9 ⟨rfl, nm9, ov9, new9, S9, m9, d9, nd9, if9, src9, suc9, cnt9⟩
    refine ⟨_, rfl, ?_⟩
    try simp (disch := omega) only [r_ln, r_pick, r_pickT, r_pickF, r_condT, r_condF, r_gdTT, r_gdFF, r_gdTF, r_gdFT, r_gqTT, r_gqFF, r_gqTF, r_gqFT, r_not, r_lss, r_leq, r_gtr, r_geq, r_eql, r_neq, r_add, r_sub, r_min2, r_max2, r_min3, r_max3, r_fa, r_iaS, r_iaA, r_ex2a, r_ex2b, r_ex3a, r_ex3b, r_ex3c, r_nc, r_keepE, Nat.zero_add, Nat.add_zero, Nat.mul_one, Int.toNat_natCast, toNat_sub1, toNat_add1, decide_true, decide_false, Bool.not_true, Bool.not_false, if_true, if_false, Bool.false_eq_true, reduceCtorEq]
    have hdis : ∀ i, i ∈ c :: new → i ∉ new9 := fun i hi h9 => by
      have h1 := ((hiff i).1 hi).1
      have h2 := ((if9 i).1 h9).2
      rw [h1] at h2; cases h2
    refine ⟨⟨q + 1, nm9, ov9, new ++ new9, by omega, by go_num, ?_, fun i h => m9 i (hmono i h), ?_, fun i => ?_, fun i hi => ?_, fun i hi => ?_, fun s' hs' => ?_, by simp; omega⟩, by simp only [intOf]; omega⟩
    · have e : out ++ (c :: (new ++ new9)).map (rowOf kO a) = out ++ (c :: new).map (rowOf kO a) ++ new9.map (rowOf kO a) := by simp
      rw [e]
      exact S9
    · have e : c :: (new ++ new9) = (c :: new) ++ new9 := by simp
      rw [e, List.nodup_append]
      exact ⟨hnd, nd9, fun i hi j hj e => hdis i hi (e ▸ hj)⟩
    · have e : c :: (new ++ new9) = (c :: new) ++ new9 := by simp
      rw [e, List.mem_append, hiff i, if9 i]
      constructor
      · rintro (⟨h1, h2⟩ | ⟨h1, h2⟩)
        · exact ⟨m9 i h1, h2⟩
        · refine ⟨h1, ?_⟩
          cases hnm : nm.getD i false with
          | false => rfl
          | true =>
            rw [hmono i ((hget1 i).2 (.inr hnm))] at h2
            cases h2
      · rintro ⟨h1, h2⟩
        cases hnq : nq.getD i false with
        | true => exact .inl ⟨rfl, h2⟩
        | false => exact .inr ⟨h1, rfl⟩
    · rcases List.mem_append.1 hi with h | h
      · exact hsrc i h
      · rcases src9 i h with h | h
        · obtain ⟨x, hx, hxs⟩ := hsx
          exact ⟨x, hx, by rw [hxs, hs, h]⟩
        · exact h
    · rcases List.mem_append.1 hi with h | h
      · exact fun s hs => m9 _ (hsucc i h s hs)
      · exact suc9 i h
    · rw [take_succ' _ _ hql] at hs'
      rcases List.mem_append.1 hs' with h | h
      · exact m9 _ (hfirst s' h)
      · rw [List.mem_singleton] at h
        rw [getD_lt _ _ _ hql] at hs
        rw [h, hs]
        simpa using d9

end
end Go.Proofs.Ytgalbokmgffhkaa

/- Contract: the program's sort of lists of numbers, by the shelf's contract of slices.SortFunc. -/
namespace Go.Proofs.Ytgalbokmgffhkaa
open Go.Lf Go.RowKit Go.Wg Go.Shelf Go.Proofs

def sortR_ren : Go.Shelf.Ren := ⟨fun | 6 => 84 | 15 => 110 | 14 => 109 | 28 => 129 | 29 => 130 | 20 => 121 | 21 => 122 | 22 => 123 | 23 => 124 | 24 => 125 | 25 => 126 | 26 => 127 | 27 => 128 | 46 => 141 | 47 => 142 | 48 => 143 | 49 => 144 | 50 => 145 | 57 => 149 | n => n, fun | 22 => 23 | 24 => 30 | 25 => 71 | 3 => 3 | 39 => 109 | 0 => 0 | 53 => 122 | 55 => 125 | 4 => 4 | 46 => 130 | 45 => 129 | 50 => 134 | 5 => 5 | 9 => 9 | 66 => 145 | 70 => 149 | 76 => 153 | 77 => 154 | n => n, fun | n => n⟩
set_option maxRecDepth 100000 in
theorem sortR : SlLaysF.n6 Try.prog sortR_ren :=
  { mixed := by kernel_rfl,
    f6 := ⟨Try.f84.name, by decide, Try.func84.trans (congrArg some (by kernel_rfl))⟩,
    f14 := ⟨Try.f109.name, by decide, Try.func109.trans (congrArg some (by kernel_rfl))⟩,
    f15 := Try.func110.trans (congrArg some (by kernel_rfl)),
    f20 := ⟨Try.f121.name, by decide, Try.func121.trans (congrArg some (by kernel_rfl))⟩,
    f21 := ⟨Try.f122.name, by decide, Try.func122.trans (congrArg some (by kernel_rfl))⟩,
    f22 := ⟨Try.f123.name, by decide, Try.func123.trans (congrArg some (by kernel_rfl))⟩,
    f23 := ⟨Try.f124.name, by decide, Try.func124.trans (congrArg some (by kernel_rfl))⟩,
    f24 := ⟨Try.f125.name, by decide, Try.func125.trans (congrArg some (by kernel_rfl))⟩,
    f25 := ⟨Try.f126.name, by decide, Try.func126.trans (congrArg some (by kernel_rfl))⟩,
    f26 := ⟨Try.f127.name, by decide, Try.func127.trans (congrArg some (by kernel_rfl))⟩,
    f27 := ⟨Try.f128.name, by decide, Try.func128.trans (congrArg some (by kernel_rfl))⟩,
    f28 := Try.func129.trans (congrArg some (by kernel_rfl)),
    f29 := Try.func130.trans (congrArg some (by kernel_rfl)),
    f46 := ⟨Try.f141.name, by decide, Try.func141.trans (congrArg some (by kernel_rfl))⟩,
    f47 := Try.func142.trans (congrArg some (by kernel_rfl)),
    f48 := Try.func143.trans (congrArg some (by kernel_rfl)),
    f49 := ⟨Try.f144.name, by decide, Try.func144.trans (congrArg some (by kernel_rfl))⟩,
    f50 := ⟨Try.f145.name, by decide, Try.func145.trans (congrArg some (by kernel_rfl))⟩,
    f57 := ⟨Try.f149.name, by decide, Try.func149.trans (congrArg some (by kernel_rfl))⟩,
    t0 := Try.underlying0,
    a0 := Try.isAgg0,
    z0 := Try.sizeOf0,
    v0 := Try.zeroValue0,
    t3 := Try.underlying3,
    a3 := Try.isAgg3,
    z3 := Try.sizeOf3,
    v3 := Try.zeroValue3,
    t4 := Try.underlying4,
    a4 := Try.isAgg4,
    z4 := Try.sizeOf4,
    v4 := Try.zeroValue4,
    t5 := Try.underlying5,
    a5 := Try.isAgg5,
    z5 := Try.sizeOf5,
    v5 := Try.zeroValue5,
    t9 := Try.underlying9,
    a9 := Try.isAgg9,
    z9 := Try.sizeOf9,
    v9 := Try.zeroValue9,
    t22 := Try.underlying23,
    a22 := Try.isAgg23,
    z22 := Try.sizeOf23,
    v22 := Try.zeroValue23,
    a24 := Try.isAgg30,
    z24 := Try.sizeOf30,
    t25 := Try.underlying71,
    a25 := Try.isAgg71,
    z25 := Try.sizeOf71,
    v25 := Try.zeroValue71,
    t39 := Try.underlying109,
    a39 := Try.isAgg109,
    z39 := Try.sizeOf109,
    v39 := Try.zeroValue109,
    t45 := Try.underlying129,
    a45 := Try.isAgg129,
    z45 := Try.sizeOf129,
    v45 := Try.zeroValue129,
    t46 := Try.underlying130,
    a46 := Try.isAgg130,
    z46 := Try.sizeOf130,
    v46 := Try.zeroValue130,
    t50 := Try.underlying134,
    a50 := Try.isAgg134,
    z50 := Try.sizeOf134,
    v50 := Try.zeroValue134,
    t53 := Try.underlying122,
    a53 := Try.isAgg122,
    z53 := Try.sizeOf122,
    v53 := Try.zeroValue122,
    t55 := Try.underlying125,
    a55 := Try.isAgg125,
    z55 := Try.sizeOf125,
    v55 := Try.zeroValue125,
    t66 := Try.underlying145,
    a66 := Try.isAgg145,
    z66 := Try.sizeOf145,
    v66 := Try.zeroValue145,
    t70 := Try.underlying149,
    a70 := Try.isAgg149,
    z70 := Try.sizeOf149,
    v70 := Try.zeroValue149,
    t76 := Try.underlying153,
    a76 := Try.isAgg153,
    z76 := Try.sizeOf153,
    v76 := Try.zeroValue153,
    t77 := Try.underlying154,
    a77 := Try.isAgg154,
    z77 := Try.sizeOf154,
    v77 := Try.zeroValue154 }

theorem cmpL_self : ∀ a, cmpL a a = 0
  | [] => rfl
  | x :: a => by simp [cmpL, cmpL_self a]
theorem cmpL_trans : ∀ a b c, cmpL a b < 0 → cmpL b c < 0 → cmpL a c < 0
  | [], b, [], h1, h2 => by cases b <;> simp [cmpL] at h1 h2
  | [], _, _ :: _, _, _ => by simp [cmpL]
  | _ :: _, [], _, h1, _ => by simp [cmpL] at h1
  | _ :: _, _ :: _, [], _, h2 => by simp [cmpL] at h2
  | x :: a, y :: b, z :: c, h1, h2 => by
    simp only [cmpL] at h1 h2 ⊢
    have ih := cmpL_trans a b c
    by_cases e1 : x < y
    · by_cases e2 : y < z
      · rw [if_pos (by omega)]; decide
      · by_cases e3 : z < y
        · rw [if_neg e2, if_pos e3] at h2; exact absurd h2 (by decide)
        · rw [if_pos (by omega)]; decide
    · by_cases e1' : y < x
      · rw [if_neg e1, if_pos e1'] at h1; exact absurd h1 (by decide)
      · rw [if_neg e1, if_neg e1'] at h1
        have exy : x = y := by omega
        subst exy
        by_cases e2 : x < z
        · rw [if_pos e2]; decide
        · by_cases e3 : z < x
          · rw [if_neg e2, if_pos e3] at h2; exact absurd h2 (by decide)
          · rw [if_neg e2, if_neg e3] at h2 ⊢
            exact ih h1 h2
theorem cmpL_ntrans : ∀ a b c, ¬ cmpL a b < 0 → ¬ cmpL b c < 0 → ¬ cmpL a c < 0
  | [], [], c, _, h2 => h2
  | [], _ :: _, _, h1, _ => by simp [cmpL] at h1
  | _ :: _, _, [], _, _ => by simp [cmpL]
  | _ :: _, [], _ :: _, _, h2 => by simp [cmpL] at h2
  | x :: a, y :: b, z :: c, h1, h2 => by
    simp only [cmpL] at h1 h2 ⊢
    have ih := cmpL_ntrans a b c
    by_cases e1 : x < y
    · rw [if_pos e1] at h1; exact absurd (by decide) h1
    · by_cases e2 : y < z
      · rw [if_pos e2] at h2; exact absurd (by decide) h2
      · by_cases e3 : z < x
        · rw [if_neg (by omega), if_pos e3]; decide
        · have e4 : x = y := by omega
          have e5 : y = z := by omega
          subst e4; subst e5
          rw [if_neg e1, if_neg e1] at h1
          rw [if_neg e1, if_neg e1] at h2
          rw [if_neg e1, if_neg e1]
          exact ih h1 h2

theorem chg_sort {α : Type} [Inhabited α] (enc : α → Value) (w : World) (g m : Nat) (d : Array α) (os : Array Obj) : Chg (fun k => k = g) w (sortWorld enc w g 0 m d os) := by
  refine ⟨rfl, rfl, rfl, ?_, fun k hk hn => ?_⟩
  · show _ ≤ ((w.heap.modify g _) ++ os).size
    simp
  · show ((w.heap.modify g _) ++ os)[k]? = _
    rw [Array.getElem?_append_left (by simpa using hk), Array.getElem?_modify, if_neg (fun e => hn e.symm)]

/-- The slice at a place, whatever the place. -/
def encR (vs : List Value) (i : Nat) : Value := if (vs.getD i nilS).oneCell' = true then vs.getD i nilS else nilS
def cfR (out : List (List Int)) (x y : Nat) : Int := cmpL (out.getD x []) (out.getD y [])

theorem swoR (out : List (List Int)) : Go.Sort.SWO (ltOf (cfR out)) := by
  refine ⟨fun x => ?_, fun x y z h1 h2 => ?_, fun x y z h1 h2 => ?_⟩
  · exact decide_eq_false (by rw [cfR, cmpL_self]; decide)
  · exact decide_eq_true (cmpL_trans _ _ _ (of_decide_eq_true h1) (of_decide_eq_true h2))
  · exact decide_eq_false (cmpL_ntrans _ _ _ (of_decide_eq_false h1) (of_decide_eq_false h2))

theorem ints_one {base : Nat} {w : World} {u : Value} {r : List Int} (h : IntsAt base w u r) : u.oneCell' = true := by
  obtain ⟨a, c, rfl, _⟩ := h.len
  rfl

set_option maxRecDepth 100000 in
set_option maxHeartbeats 800000 in
theorem sortR_calls {base : Nat} {v : Value} {out : List (List Int)} {w : World} (h : IRows base w v out) (h0 : 0 < out.length) (hn : out.length ≤ 100000) (hrow : ∀ r ∈ out, r.length ≤ 1000000) :
    Calls Try.prog 84 #[v, .func (.func 85) #[] #[]] w fun e w' => e = .returned (.tuple #[]) ∧ ∃ out', IRows base w' v out' ∧ out'.Perm out ∧ out'.Pairwise (fun x y => ¬ cmpL y x < 0) ∧ Chg (fun k => v.ownBlock = some k) w w' := by
  obtain ⟨vs, o1, o2, o3⟩ := h
  obtain ⟨g, cap, cur, rfl, hb, hg, hle, hm, hs, ht⟩ := o1.blk (by omega)
  have hvs : ∀ i, i < out.length → ∃ u, vs[i]? = some u ∧ encR vs i = u ∧ IntsAt base w u (out.getD i []) := fun i hi => by
    have e1 : vs[i]? = some (vs[i]'(by omega)) := List.getElem?_eq_getElem (by omega)
    have e2 : out[i]? = some (out.getD i []) := by rw [List.getElem?_eq_getElem hi, getD_lt _ _ _ hi]
    have hI := o3 i _ _ e1 e2
    refine ⟨_, e1, ?_, hI⟩
    unfold encR
    rw [getD_lt vs i nilS (by omega), if_pos (ints_one hI)]
  have hvs2 : ∀ i, ¬ i < out.length → encR vs i = nilS ∧ out.getD i [] = [] := fun i hi => by
    unfold encR
    rw [List.getD_eq_getElem?_getD, List.getElem?_eq_none (by omega), List.getD_eq_getElem?_getD, List.getElem?_eq_none (by omega)]
    exact ⟨rfl, rfl⟩
  have eg : ∀ args w, (callFunc 85 args).run Try.prog w = .ok (.enter 85 args) w := enters_of Try.func85 (by kernel_rfl) rfl
  have hrv : recCells vE vs = vs := by simp [recCells]
  have hcur : ∀ i, i < out.length → cur[i]? = some (encR vs i) := fun i hi => by
    obtain ⟨u, q1, q2, _⟩ := hvs i hi
    rw [← Array.getElem?_toList]
    have : cur.toList[i]? = vs[i]? := by
      rw [hrv, Nat.mul_one] at ht
      conv => rhs; rw [← ht]
      rw [List.getElem?_take, if_pos (by omega)]
    rw [this, q1, q2]
  have hd : ∀ j, j < (List.range out.length).toArray.size → (List.range out.length).toArray[j]! = j := fun j hj => by
    have hj' : j < out.length := by simpa using hj
    simp [hj']
  have hH : Go.Sort.Holds (encR vs) w g 0 (List.range out.length).toArray := by
    intro j hj
    have hj' : j < out.length := by simpa using hj
    rw [hd j hj, Nat.zero_add, cell_row hg, hcur j hj']
    exact ⟨rfl, frozen_row hg⟩
  have hsz : (List.range out.length).toArray.size = out.length := by simp
  have later : ∀ (m : Nat) (dk : Array Nat) (os : Array Obj) (i : Nat), RdInts (sortWorld (encR vs) w g 0 m dk os) (encR vs i) (out.getD i []) := fun m dk os i => by
    by_cases hi : i < out.length
    · obtain ⟨u, q1, q2, q3⟩ := hvs i hi
      rw [q2]
      have hne : ∀ k, u.ownBlock = some k → ¬ k = g := fun k hk e => rec_ne q3 o1 (by decide) k hk (by rw [e]; rfl)
      exact ((q3.chg (chg_sort _ _ _ _ _ _) hne).rd iC_len).ints (hrow _ (getD_mem hi))
    · obtain ⟨e1, e2⟩ := hvs2 i hi
      rw [e1, e2]
      exact ⟨none, 0, rfl, by simp, fun h => absurd h (by simp)⟩
  have hcmp : CmpLays1 Try.prog 85 #[] (encR vs) (cfR out) g 0 (List.range out.length).toArray.size w := by
    intro m os dk hdk x y
    have hc : Calls Try.prog 85 #[encR vs x, encR vs y] (sortWorld (encR vs) w g 0 m dk os) fun e w' => e = .returned (.int .i64 (cfR out x y)) ∧ sortWorld (encR vs) w g 0 m dk os = w' := by
      refine lift85 ?_
      unfold S85
      refine r_use fok57 (compare_calls _ (later m dk os x) (later m dk os y)) rfl ?_
      rintro _ _ ⟨rfl, rfl⟩
      exact ⟨_, rfl, rfl, rfl⟩
    refine Calls.mono (by simpa using hc) ?_
    rintro e w' ⟨rfl, rfl⟩
    exact ⟨rfl, 0, #[], by simp [Go.Sort.grow, World.drewN]⟩
  have hcon := Any.slices_SortFunc sortR (encR vs) (fun i => by unfold encR; split <;> first | assumption | rfl) (cfR out) (swoR out) 85 #[] g 0 cap (List.range out.length).toArray w eg hcmp hH (block_lt hg) (by simp; omega)
  rw [hsz] at hcon
  change Calls Try.prog 84 _ _ _ at hcon
  rw [o2]
  refine hcon.mono ?_
  rintro e w' ⟨rfl, d', n, os, hp, hso, rfl⟩
  have hvl : vs.length = out.length := o2
  have hdl : d'.size = out.length := by have := hp.1; simpa using this
  have hperm : d'.toList.Perm (List.range out.length) := by
    have := hp.2.2
    have e1 : d'.extract 0 out.length = d' := by rw [← hdl]; simp
    have e2 : (List.range out.length).toArray.extract 0 out.length = (List.range out.length).toArray := by
      have := Array.extract_size (xs := (List.range out.length).toArray)
      rw [hsz] at this
      exact this
    rw [e1, e2] at this
    simpa using this
  have hHd := holds_sortWorld (encR vs) w g 0 n (List.range out.length).toArray d' os (block_lt hg) hH (by rw [hdl]; simp)
  have hblk : (sortWorld (encR vs) w g 0 n d' os).heap[g]? = some (.cells (Go.Sort.putCells (encR vs) 0 d' cur) 30 (0, 0)) := by
    have hgl := block_lt hg
    show ((w.heap.modify g _) ++ os)[g]? = _
    rw [Array.getElem?_append_left (by simpa using hgl), Array.getElem?_modify, if_pos rfl, hg]
    rfl
  have hmem : ∀ i, i < d'.size → d'[i]! < out.length := fun i hi => by
    have : d'[i]! ∈ d'.toList := by rw [getElem!_pos d' i hi]; simp
    have := (hperm.mem_iff).1 this
    simpa using this
  have hcs := chg_sort (encR vs) w g n d' os
  refine ⟨rfl, d'.toList.map (fun i => out.getD i []), ⟨d'.toList.map (encR vs), ⟨?_, .inr ⟨g, cap, _, ?_, hb, hblk, ?_, hm, by simp [Go.Sort.putCells, hs], ?_⟩⟩, by simp, fun i u r hu hr => ?_⟩, ?_, ?_, hcs.mono fun k _ e => by rw [e]; rfl⟩
  · simp [recCells]
  · simp [hdl]
  · simp [hdl]; omega
  · have e1 : recCells vE (d'.toList.map (encR vs)) = d'.toList.map (encR vs) := by simp [recCells]
    rw [e1]
    apply List.ext_getElem?
    intro t
    rw [List.getElem?_take]
    by_cases hlt : t < d'.size
    · rw [if_pos (by simpa using hlt)]
      have := (hHd t hlt).1
      rw [Nat.zero_add, cell_row hblk] at this
      rw [Array.getElem?_toList, this]
      simp [hlt]
    · rw [if_neg (by simpa using hlt)]
      simp [Nat.le_of_not_lt hlt]
  · rw [List.getElem?_map] at hu hr
    cases hd' : d'.toList[i]? with
    | none => rw [hd'] at hu; cases hu
    | some k =>
      rw [hd'] at hu hr
      cases hu
      cases hr
      have hi : i < d'.size := by simpa using (List.getElem?_eq_some_iff.1 hd').1
      have hk : k = d'[i]! := by
        rw [getElem!_pos d' i hi]
        have := (List.getElem?_eq_some_iff.1 hd').2
        simpa using this.symm
      obtain ⟨u, q1, q2, q3⟩ := hvs k (by rw [hk]; exact hmem i hi)
      rw [q2]
      exact q3.chg hcs fun k' hk' e => rec_ne q3 o1 (by decide) k' hk' (by rw [e]; rfl)
  · have h1 := hperm.map (fun i => out.getD i [])
    have h2 : (List.range out.length).map (fun i => out.getD i []) = out := by
      refine List.ext_getElem (by simp) fun i h1 h2 => ?_
      simp [List.getD_eq_getElem?_getD, h2]
    rw [h2] at h1
    exact h1
  · rw [List.pairwise_map, List.pairwise_iff_getElem]
    intro i j hi hj hij
    have hi' : i < d'.size := by simpa using hi
    have hj' : j < d'.size := by simpa using hj
    have := of_decide_eq_false (hso i j (by omega) hij (by rw [← hdl]; exact hj'))
    unfold cfR at this
    rw [getElem!_pos d' i hi', getElem!_pos d' j hj'] at this
    simpa using this

end Go.Proofs.Ytgalbokmgffhkaa
