/- Products, plainly: the program's tiles and the specification's. No program. -/
import Derived.Test.YtgalbokmgffhkaaG1
import Derived.Test.YtgalbokmgffhkaaA1
set_option linter.all false
namespace Go.Proofs.Ytgalbokmgffhkaa
open Go.Wg

/-- A tile of one set above one of another. -/
def pairT (s t : Tile) : Tile := (tN s, tE s * 8 + tE t, tS t, tW s * 8 + tW t)
def under1 (b : List Tile) (s : Tile) : List Tile := (b.filter fun t => decide (tS s = tN t)).map (pairT s)
/-- All of them, twins too. -/
def allP (a b : List Tile) : List Tile := a.flatMap (under1 b)
/-- Each once, where it comes first. -/
def addU (acc : List Tile) (u : Tile) : List Tile := if u ∈ acc then acc else acc ++ [u]
def once (l : List Tile) : List Tile := l.foldl addU []
def ends (l : List Tile) : List Int := l.flatMap fun u => [tE u, tW u]

theorem once_append (l m : List Tile) : once (l ++ m) = m.foldl addU (once l) := List.foldl_append ..
theorem fold_mem {l : List Tile} : ∀ {acc : List Tile} {u : Tile}, u ∈ l.foldl addU acc ↔ u ∈ acc ∨ u ∈ l := by
  induction l with
  | nil => intro acc u; simp
  | cons x l ih =>
    intro acc u
    rw [List.foldl_cons, ih]
    unfold addU
    split
    · rename_i h
      simp only [List.mem_cons]
      constructor
      · rintro (h1 | h1)
        · exact .inl h1
        · exact .inr (.inr h1)
      · rintro (h1 | rfl | h1)
        · exact .inl h1
        · exact .inl h
        · exact .inr h1
    · simp only [List.mem_append, List.mem_cons, List.not_mem_nil, or_false, or_assoc]
theorem mem_once {l : List Tile} {u : Tile} : u ∈ once l ↔ u ∈ l := by simp [once, fold_mem]

theorem fold_map (f : Tile → Tile) : ∀ (l acc : List Tile), (∀ x ∈ acc ++ l, ∀ y ∈ acc ++ l, f x = f y → x = y) → (l.map f).foldl addU (acc.map f) = (l.foldl addU acc).map f
  | [], acc, _ => rfl
  | x :: l, acc, h => by
    rw [List.map_cons, List.foldl_cons, List.foldl_cons]
    have hmem : f x ∈ acc.map f ↔ x ∈ acc := by
      constructor
      · intro hx
        obtain ⟨y, hy, e⟩ := List.mem_map.1 hx
        have := h y (by simp [hy]) x (by simp) e
        rw [← this]; exact hy
      · exact fun hx => List.mem_map_of_mem hx
    have e : addU (acc.map f) (f x) = (addU acc x).map f := by
      unfold addU
      by_cases hx : x ∈ acc
      · rw [if_pos hx, if_pos (hmem.2 hx)]
      · rw [if_neg hx, if_neg (fun h => hx (hmem.1 h)), List.map_append]; rfl
    rw [e]
    refine fold_map f l (addU acc x) fun y hy z hz => h y ?_ z ?_
    · unfold addU at hy
      split at hy
      · rcases List.mem_append.1 hy with h1 | h1
        · simp [h1]
        · simp [h1]
      · simp at hy; simp [hy]
    · unfold addU at hz
      split at hz
      · rcases List.mem_append.1 hz with h1 | h1
        · simp [h1]
        · simp [h1]
      · simp at hz; simp [hz]
/-- What makes no two tiles one, makes no twins. -/
theorem once_map {f : Tile → Tile} {l : List Tile} (h : ∀ x ∈ l, ∀ y ∈ l, f x = f y → x = y) : once (l.map f) = (once l).map f := by
  have := fold_map f l [] (by simpa using h)
  simpa [once] using this

/-! ### the colours in use -/
def usedB (l : List Tile) (c : Nat) : Bool := l.any fun u => decide (tE u = (c : Int)) || decide (tW u = (c : Int))
theorem usedB_iff {l : List Tile} {c : Nat} : usedB l c = true ↔ ∃ u ∈ l, tE u = (c : Int) ∨ tW u = (c : Int) := by
  simp [usedB, List.any_eq_true]
def cnt (l : List Tile) (i : Nat) : Nat := ((List.range i).filter (usedB l)).length
def codesP (l : List Tile) : List Int := ((List.range 64).filter (usedB l)).map fun c : Nat => (c : Int)
theorem codesP_len (l : List Tile) : (codesP l).length = cnt l 64 := by simp [codesP, cnt]
theorem cnt_succ (l : List Tile) (i : Nat) : cnt l (i + 1) = cnt l i + if usedB l i = true then 1 else 0 := by
  unfold cnt
  rw [List.range_succ, List.filter_append, List.length_append]
  congr 1
  by_cases h : usedB l i = true
  · simp [h]
  · simp [h]
theorem cnt_le (l : List Tile) (i : Nat) : cnt l i ≤ i := by
  have := List.length_filter_le (usedB l) (List.range i)
  simpa [cnt] using this
theorem cnt_mono (l : List Tile) {i j : Nat} (h : i ≤ j) : cnt l i ≤ cnt l j := by
  induction j with
  | zero => have : i = 0 := by omega
            subst this; exact Nat.le_refl _
  | succ j ih =>
    rw [cnt_succ]
    by_cases e : i = j + 1
    · rw [e, cnt_succ]; exact Nat.le_refl _
    · have := ih (by omega)
      omega
theorem cnt_lt (l : List Tile) {i j : Nat} (h : i < j) (hu : usedB l i = true) : cnt l i < cnt l j := by
  have h1 := cnt_mono l (show i + 1 ≤ j by omega)
  rw [cnt_succ, if_pos hu] at h1
  omega

/-- Well coloured pairs. -/
def pairOk (l : List Tile) : Prop := ∀ u ∈ l, (0 ≤ tE u ∧ tE u < 64) ∧ 0 ≤ tW u ∧ tW u < 64
theorem allP_ok {a b : List Tile} (ha : ∀ t ∈ a, colsB t = true) (hb : ∀ t ∈ b, colsB t = true) : pairOk (allP a b) := by
  intro u hu
  simp only [allP, List.mem_flatMap, under1, List.mem_map, List.mem_filter] at hu
  obtain ⟨s, hs, t, ⟨ht, _⟩, rfl⟩ := hu
  have h1 := cols_range (ha s hs)
  have h2 := cols_range (hb t ht)
  show (0 ≤ tE s * 8 + tE t ∧ tE s * 8 + tE t < 64) ∧ 0 ≤ tW s * 8 + tW t ∧ tW s * 8 + tW t < 64
  omega

theorem mem_codes {l : List Tile} (h : pairOk l) {c : Int} : c ∈ codesP l ↔ ∃ u ∈ l, tE u = c ∨ tW u = c := by
  simp only [codesP, List.mem_map, List.mem_filter, List.mem_range]
  constructor
  · rintro ⟨n, ⟨_, hu⟩, rfl⟩
    exact usedB_iff.1 hu
  · rintro ⟨u, hu, hc⟩
    have := h u hu
    refine ⟨c.toNat, ⟨by omega, usedB_iff.2 ⟨u, hu, ?_⟩⟩, by omega⟩
    rcases hc with rfl | rfl
    · left; omega
    · right; omega
theorem codes_asc (l : List Tile) : (codesP l).Pairwise (· < ·) := by
  unfold codesP
  rw [List.pairwise_map]
  have hr : ((List.range 64).filter (usedB l)).Pairwise (· < ·) := List.Pairwise.filter _ List.pairwise_lt_range
  exact hr.imp fun h => by omega
/-- Where a colour stands among those in use. -/
theorem idx_codes {l : List Tile} {c : Nat} (hc : c < 64) (hu : usedB l c = true) : idxI (codesP l) (c : Int) = cnt l c := by
  have hsplit : List.range 64 = List.range c ++ c :: (List.range (64 - c - 1)).map (fun i => c + 1 + i) := by
    have e : 64 = c + (1 + (64 - c - 1)) := by omega
    conv => lhs; rw [e, List.range_add, List.range_add]
    simp [Nat.add_assoc]
  have hform : codesP l = (((List.range c).filter (usedB l)).map fun c : Nat => (c : Int)) ++ (c : Int) :: ((((List.range (64 - c - 1)).map (fun i => c + 1 + i)).filter (usedB l)).map fun c : Nat => (c : Int)) := by
    rw [codesP, hsplit, List.filter_append, List.filter_cons, if_pos hu, List.map_append, List.map_cons]
  have hlen : (((List.range c).filter (usedB l)).map fun c : Nat => (c : Int)).length = cnt l c := by simp [cnt]
  refine idx_first ?_ ?_
  · rw [hform, List.getElem?_append_right (by rw [hlen]; exact Nat.le_refl _), hlen]
    simp
  · rw [hform, List.take_append_of_le_length (by rw [hlen]; exact Nat.le_refl _)]
    intro hm
    have hm := List.mem_of_mem_take hm
    simp only [List.mem_map, List.mem_filter, List.mem_range] at hm
    obtain ⟨n, ⟨hn, _⟩, e⟩ := hm
    omega

def renC (cs : List Int) (t : Tile) : Tile := (tN t, idxI cs (tE t), tS t, idxI cs (tW t))
/-- By the specification's numbers. -/
def renS (l : List Tile) (t : Tile) : Tile := (tN t, (cnt l (tE t).toNat : Nat), tS t, (cnt l (tW t).toNat : Nat))
theorem ren_eq {l : List Tile} (h : pairOk l) {t : Tile} (ht : t ∈ l) : renC (codesP l) t = renS l t := by
  have hp := h t ht
  have e1 : idxI (codesP l) (tE t) = cnt l (tE t).toNat := by
    have := idx_codes (l := l) (c := (tE t).toNat) (by omega) (usedB_iff.2 ⟨t, ht, .inl (by omega)⟩)
    rwa [show (((tE t).toNat : Nat) : Int) = tE t by omega] at this
  have e2 : idxI (codesP l) (tW t) = cnt l (tW t).toNat := by
    have := idx_codes (l := l) (c := (tW t).toNat) (by omega) (usedB_iff.2 ⟨t, ht, .inr (by omega)⟩)
    rwa [show (((tW t).toNat : Nat) : Int) = tW t by omega] at this
  rw [renC, renS, e1, e2]
theorem cnt_inj {l : List Tile} {i j : Nat} (hi : usedB l i = true) (hj : usedB l j = true) (h : cnt l i = cnt l j) : i = j := by
  rcases Nat.lt_trichotomy i j with h1 | h1 | h1
  · have := cnt_lt l h1 hi; omega
  · exact h1
  · have := cnt_lt l h1 hj; omega
theorem renS_inj {l : List Tile} (h : pairOk l) : ∀ x ∈ l, ∀ y ∈ l, renS l x = renS l y → x = y := by
  intro x hx y hy e
  have px := h x hx
  have py := h y hy
  simp only [renS, Prod.mk.injEq] at e
  obtain ⟨e1, e2, e3, e4⟩ := e
  have u1 : usedB l (tE x).toNat = true := usedB_iff.2 ⟨x, hx, .inl (by omega)⟩
  have u2 : usedB l (tE y).toNat = true := usedB_iff.2 ⟨y, hy, .inl (by omega)⟩
  have u3 : usedB l (tW x).toNat = true := usedB_iff.2 ⟨x, hx, .inr (by omega)⟩
  have u4 : usedB l (tW y).toNat = true := usedB_iff.2 ⟨y, hy, .inr (by omega)⟩
  have g1 := cnt_inj u1 u2 (by omega)
  have g2 := cnt_inj u3 u4 (by omega)
  have f2 : tE x = tE y := by omega
  have f4 : tW x = tW y := by omega
  exact Prod.ext e1 (Prod.ext f2 (Prod.ext e3 f4))

/-- What Product returns. -/
def prodF (l : List Tile) : Bool := decide (16 < (once l).length) || decide (8 < cnt l 64)
def prodT (l : List Tile) : List Tile := (once l).map (renC (codesP l))
theorem prod_spec {l : List Tile} (h : pairOk l) : once (l.map (renS l)) = prodT l := by
  rw [once_map (renS_inj h), prodT]
  refine List.map_congr_left fun t ht => (ren_eq h (mem_once.1 ht)).symm
/-- The program's list of colours is the list of the colours in use. -/
theorem comp_ends {l : List Tile} (h : pairOk l) : Go.Lib.compact ((ends (once l)).mergeSort fun x y => decide (x ≤ y)) = codesP l := by
  refine asc_eq (comp_asc ?_) (codes_asc l) fun x => ?_
  · have := List.pairwise_mergeSort (le := fun x y : Int => decide (x ≤ y)) (fun a b c h1 h2 => by simp only [decide_eq_true_eq] at *; omega) (fun a b => by simp only [Bool.or_eq_true, decide_eq_true_eq]; omega) (ends (once l))
    exact this.imp fun h => of_decide_eq_true h
  · rw [comp_mem, List.mem_mergeSort, mem_codes h]
    simp only [ends, List.mem_flatMap, mem_once]
    constructor
    · rintro ⟨u, hu, hx⟩
      simp at hx
      exact ⟨u, hu, by rcases hx with h | h <;> simp [h]⟩
    · rintro ⟨u, hu, hx⟩
      exact ⟨u, hu, by rcases hx with h | h <;> simp [h]⟩

theorem once_len_le (l : List Tile) : (once l).length ≤ l.length := by
  have key : ∀ (l acc : List Tile), (l.foldl addU acc).length ≤ acc.length + l.length := by
    intro l
    induction l with
    | nil => intro acc; simp
    | cons x l ih =>
      intro acc
      rw [List.foldl_cons]
      have := ih (addU acc x)
      have h2 : (addU acc x).length ≤ acc.length + 1 := by unfold addU; split <;> simp
      simp only [List.length_cons]
      omega
  simpa [once] using key l []
theorem allP_len {a b : List Tile} : (allP a b).length ≤ a.length * b.length := by
  unfold allP
  induction a with
  | nil => simp
  | cons s a ih =>
    rw [List.flatMap_cons, List.length_append, List.length_cons, Nat.add_mul, Nat.one_mul]
    have : (under1 b s).length ≤ b.length := by rw [under1, List.length_map]; exact List.length_filter_le _ _
    omega
theorem ends_len (l : List Tile) : (ends l).length = 2 * l.length := by
  unfold ends
  induction l with
  | nil => rfl
  | cons x l ih => rw [List.flatMap_cons, List.length_append, ih]; simp; omega

end Go.Proofs.Ytgalbokmgffhkaa
