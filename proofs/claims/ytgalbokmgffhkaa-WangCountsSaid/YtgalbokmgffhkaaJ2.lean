/- Boards, plainly: cell by cell is row by row, from above is from below. No program. -/
import Derived.Test.YtgalbokmgffhkaaJ1
import Derived.Test.YtgalbokmgffhkaaE1
import Derived.Test.YtgalbokmgffhkaaA5
set_option linter.all false
namespace Go.Proofs.Ytgalbokmgffhkaa
open Go.Wg

/-- In how many ways k rows lie under colours. -/
def Bk (l : List Tile) (w : Nat) : Nat → Int → Nat
  | 0, _ => 1
  | k + 1, c => tot (fun r => if code (norths l r) = c then Bk l w k (code (souths l r)) else 0) (rowsL l w)

theorem line_range {l : List Tile} {c : Int} (h : c ∈ lineL l) : 0 ≤ c ∧ c ≤ 7 := by
  simp only [lineL, List.mem_map, List.mem_filter, List.mem_range] at h
  obtain ⟨n, ⟨hn, _⟩, rfl⟩ := h
  omega

theorem row_line {l : List Tile} (hs : IsSet l) {w : Nat} {r : List Nat} (hr : r ∈ rowsL l w) : r.length = w ∧ (∀ c ∈ norths l r, c ∈ lineL l) ∧ (∀ c ∈ souths l r, c ∈ lineL l) ∧ endE l r < 8 := by
  obtain ⟨h1, h2, _⟩ := mem_rowsL.1 hr
  have hm : ∀ i ∈ r, tl l i ∈ l := fun i hi => by unfold tl; exact getD_mem (h2 i hi)
  refine ⟨h1, fun c hc => ?_, fun c hc => ?_, ?_⟩
  · simp only [norths, List.mem_map] at hc
    obtain ⟨i, hi, rfl⟩ := hc
    exact (mem_line hs.cols (hm i hi)).1
  · simp only [souths, List.mem_map] at hc
    obtain ⟨i, hi, rfl⟩ := hc
    exact (mem_line hs.cols (hm i hi)).2
  · unfold endE
    have hlt : r.getLastD 0 < l.length := by
      by_cases h0 : r = []
      · rw [h0]; have := hs.pos; simp; omega
      · refine h2 _ ?_
        rw [List.getLastD_eq_getLast?, List.getLast?_eq_some_getLast h0]
        exact List.getLast_mem h0
    have := cols_range (hs.cols (tl l (r.getLastD 0)) (by unfold tl; exact getD_mem hlt))
    omega

theorem match_iff {l : List Tile} {w : Nat} {cs : List Int} {r : List Nat} (hc : ∀ c ∈ cs, c ∈ lineL l) (hw : cs.length = w) (hr : r.length = w) (hn : ∀ c ∈ norths l r, c ∈ lineL l) : matchN l (cs.map (lidx l)) 0 w r ↔ code (norths l r) = code cs := by
  have hlen : (norths l r).length = cs.length := by simp [norths]; omega
  have e : matchN l (cs.map (lidx l)) 0 w r ↔ norths l r = cs := by
    constructor
    · intro h
      refine List.ext_getElem hlen fun j h1 h2 => ?_
      have hj := h j (by omega) (by omega)
      have hjr : j < r.length := by omega
      rw [List.getD_eq_getElem?_getD (l := cs.map (lidx l)), List.getElem?_map, List.getElem?_eq_getElem h2] at hj
      simp only [Option.map_some, Option.getD_some] at hj
      rw [lidx_get (hc _ (List.getElem_mem h2))] at hj
      rw [hj]
      simp [norths, List.getD_eq_getElem?_getD, hjr]
    · intro h j _ hj
      have hjc : j < cs.length := by omega
      have hjr : j < r.length := by omega
      rw [List.getD_eq_getElem?_getD (l := cs.map (lidx l)), List.getElem?_map, List.getElem?_eq_getElem hjc]
      simp only [Option.map_some, Option.getD_some]
      rw [lidx_get (hc _ (List.getElem_mem hjc))]
      have : cs[j] = (norths l r)[j]'(by omega) := by simp only [h]
      rw [this]
      simp [norths, List.getD_eq_getElem?_getD, hjr]
  rw [e]
  exact ⟨fun h => by rw [h], fun h => code_inj hlen (fun x hx => line_range (hn x hx)) (fun x hx => line_range (hc x hx)) h⟩

theorem ways_rows {l : List Tile} (hs : IsSet l) {w h : Nat} (hw : 0 < w) : ∀ (k y : Nat) (cs : List Int) (e : Nat), 0 < y → y + k = h → cs.length = w → (∀ c ∈ cs, c ∈ lineL l) → e < 8 →
    Wq l w h (k * w) (encS (lineL l).length (cs.map (lidx l)) e) = Bk l w k (code cs)
  | 0, y, cs, e, hy, hyk, hcl, hc, he => by simp [Wq, Bk]
  | k + 1, y, cs, e, hy, hyk, hcl, hc, he => by
    rw [Nat.add_mul, Nat.one_mul, row_ways hs hw (y := y) (by omega) w 0 [] (cs.map (lidx l)) e (by omega) rfl (by simp) (by simpa using hcl) (fun a ha => by
      obtain ⟨c, hcm, rfl⟩ := List.mem_map.1 ha
      exact lidx_lt (hc c hcm)) he (by omega)]
    show _ = tot _ (rowsL l w)
    refine tot_congr fun r hr => ?_
    obtain ⟨hrl, hn, hso, hE⟩ := row_line hs hr
    have hm := match_iff hc hcl hrl hn
    by_cases hcn : code (norths l r) = code cs
    · rw [if_pos (.inr (hm.2 hcn)), if_pos hcn]
      have hsl : (souths l r).length = w := by simp [souths, hrl]
      have := ways_rows (h := h) hs hw k (y + 1) (souths l r) (endE l r) (by omega) (by omega) hsl hso hE
      simpa [digS] using this
    · rw [if_neg hcn, if_neg]
      rintro (h1 | h1)
      · omega
      · exact hcn (hm.1 h1)

/-- All of a board. -/
theorem ways_all {l : List Tile} (hs : IsSet l) {w h : Nat} (hw : 0 < w) (hh : 0 < h) : Wq l w h (w * h) 0 = tot (fun r => Bk l w (h - 1) (code (souths l r))) (rowsL l w) := by
  have h0 : 0 = encS (lineL l).length (List.replicate w 0) 0 := by rw [encS, encD_zero]
  have hlp := line_pos hs
  have e1 : w * h = (h - 1) * w + w := by
    have : h = h - 1 + 1 := by omega
    conv => lhs; rw [this, Nat.mul_comm, Nat.add_mul, Nat.one_mul]
  have key := row_ways hs hw (h := h) (k := h - 1) (y := 0) (by omega) w 0 [] (List.replicate w 0) 0 (by omega) rfl (by simp) (by simp) (fun a ha => by rw [List.eq_of_mem_replicate ha]; exact hlp) (by omega) (by omega)
  rw [← h0, ← e1] at key
  rw [key]
  show tot _ (rowsL l w) = _
  refine tot_congr fun r hr => ?_
  obtain ⟨hrl, hn, hso, hE⟩ := row_line hs hr
  rw [if_pos (.inl rfl)]
  have hsl : (souths l r).length = w := by simp [souths, hrl]
  have := ways_rows (h := h) hs hw (h - 1) 1 (souths l r) (endE l r) (by omega) (by omega) hsl hso hE
  simpa [digS] using this

/-! ### from above and from below -/
def Fk (L : List Line) : Nat → Int → Nat
  | 0, _ => 1
  | k + 1, c => tot (fun x => if x.2.2.1 = c then Fk L k x.2.1 else 0) L
def Gk (L : List Line) : Nat → Int → Nat
  | 0, _ => 1
  | k + 1, c => tot (fun x => if x.2.1 = c then Gk L k x.2.2.1 else 0) L
theorem Bk_eq (l : List Tile) (w : Nat) : ∀ (k : Nat) (c : Int), Bk l w k c = Gk (linesL l w) k c
  | 0, _ => rfl
  | k + 1, c => by
    rw [Bk, Gk, linesL, tot_map]
    refine tot_congr fun r _ => ?_
    show _ = if code (norths l r) = c then Gk (linesL l w) k (code (souths l r)) else 0
    rw [← Bk_eq l w k]

theorem tot_swap {α : Type} {N : Nat} {f : α → Int} {g : α → Nat → Nat} : ∀ {L : List α}, (∀ x ∈ L, 0 ≤ f x ∧ f x < N) → tot (fun c : Nat => tot (fun x => if f x = (c : Int) then g x c else 0) L) (List.range N) = tot (fun x => g x (f x).toNat) L
  | [], _ => tot_zero fun _ _ => rfl
  | x :: L, h => by
    simp only [tot]
    rw [tot_add, tot_swap fun y hy => h y (by simp [hy])]
    congr 1
    have hx := h x (by simp)
    rw [tot_range_eq (i := (f x).toNat) (by omega) fun j _ hji => if_neg (by omega), if_pos (by omega)]

theorem fg_step {L : List Line} {N : Nat} (hL : LnOk N L) (k j : Nat) : tot (fun c : Nat => Fk L (k + 1) c * Gk L j c) (List.range N) = tot (fun c : Nat => Fk L k c * Gk L (j + 1) c) (List.range N) := by
  have e1 : tot (fun c : Nat => Fk L (k + 1) c * Gk L j c) (List.range N) = tot (fun c : Nat => tot (fun x => if x.2.2.1 = (c : Int) then Fk L k x.2.1 * Gk L j c else 0) L) (List.range N) := tot_congr fun c _ => by
    rw [Fk, ← tot_mul]
    refine tot_congr fun x _ => ?_
    split
    · rfl
    · simp
  have e2 : tot (fun c : Nat => Fk L k c * Gk L (j + 1) c) (List.range N) = tot (fun c : Nat => tot (fun x => if x.2.1 = (c : Int) then Gk L j x.2.2.1 * Fk L k c else 0) L) (List.range N) := tot_congr fun c _ => by
    rw [Gk, Nat.mul_comm, ← tot_mul]
    refine tot_congr fun x _ => ?_
    split
    · rfl
    · simp
  rw [e1, e2, tot_swap (f := fun x : Line => x.2.2.1) (g := fun x c => Fk L k x.2.1 * Gk L j (c : Int)) fun x hx => (hL x hx).2,
    tot_swap (f := fun x : Line => x.2.1) (g := fun x c => Gk L j x.2.2.1 * Fk L k (c : Int)) fun x hx => (hL x hx).1]
  refine tot_congr fun x hx => ?_
  have := hL x hx
  have a1 : ((x.2.2.1.toNat : Nat) : Int) = x.2.2.1 := by omega
  have a2 : ((x.2.1.toNat : Nat) : Int) = x.2.1 := by omega
  rw [a1, a2, Nat.mul_comm]
theorem fg_all {L : List Line} {N : Nat} (hL : LnOk N L) : ∀ (k j : Nat), tot (fun c : Nat => Fk L k c * Gk L j c) (List.range N) = tot (fun c : Nat => Gk L (k + j) c) (List.range N)
  | 0, j => tot_congr fun c _ => by rw [Fk, Nat.one_mul, Nat.zero_add]
  | k + 1, j => by
    rw [fg_step hL, fg_all hL k (j + 1)]
    rw [show k + (j + 1) = k + 1 + j by omega]
/-- How many boards of h rows there are. -/
def boards (L : List Line) (h : Nat) : Nat := tot (fun x => Gk L (h - 1) x.2.2.1) L
theorem f_total {L : List Line} {N h : Nat} (hL : LnOk N L) (hh : 0 < h) : tot (fun c : Nat => Fk L h c) (List.range N) = boards L h := by
  have h1 := fg_all hL h 0
  have h2 : tot (fun c : Nat => Fk L h c * Gk L 0 c) (List.range N) = tot (fun c : Nat => Fk L h c) (List.range N) := tot_congr fun c _ => by rw [Gk, Nat.mul_one]
  rw [h2] at h1
  rw [h1, Nat.add_zero]
  obtain ⟨m, rfl⟩ : ∃ m, h = m + 1 := ⟨h - 1, by omega⟩
  have h3 : tot (fun c : Nat => Gk L (m + 1) c) (List.range N) = tot (fun c : Nat => tot (fun x => if x.2.1 = (c : Int) then Gk L m x.2.2.1 else 0) L) (List.range N) := rfl
  rw [h3, tot_swap (f := fun x : Line => x.2.1) (g := fun x _ => Gk L m x.2.2.1) fun x hx => (hL x hx).1]
  rfl
theorem ways_boards {l : List Tile} (hs : IsSet l) {w h : Nat} (hw : 0 < w) (hh : 0 < h) : Wq l w h (w * h) 0 = boards (linesL l w) h := by
  rw [ways_all hs hw hh, boards, linesL, tot_map]
  exact tot_congr fun r _ => Bk_eq l w _ _

/-! ### numbers that are capped -/
def capI (n : Nat) : Int := min (n : Int) 1099511627777
theorem capI_add (a b : Nat) : min (capI a + capI b) 1099511627777 = capI (a + b) := by unfold capI; omega
theorem capI_zero : capI 0 = 0 := rfl

theorem stepF_exact {L : List Line} {N : Nat} (hL : LnOk N L) {fr : List Int} {F : Int → Nat} (hf : fr.length = N) (hF : ∀ c : Nat, c < N → fr.getD c 0 = capI (F c)) :
    ∀ (M : List Line) (nx : List Int) (G : Nat → Nat), (∀ x ∈ M, x ∈ L) → nx.length = N → (∀ c, c < N → nx.getD c 0 = capI (G c)) →
      ∀ c, c < N → (M.foldl (stepF fr) nx).getD c 0 = capI (G c + tot (fun x => if x.2.2.1 = (c : Int) then F x.2.1 else 0) M)
  | [], nx, G, _, hn, hG, c, hc => by simp only [List.foldl_nil, tot, Nat.add_zero]; exact hG c hc
  | x :: M, nx, G, hM, hn, hG, c, hc => by
    obtain ⟨⟨x1, x2⟩, x3, x4⟩ := hL x (hM x (by simp))
    rw [List.foldl_cons]
    have hstep : ∀ c, c < N → (stepF fr nx x).getD c 0 = capI (G c + if x.2.2.1 = (c : Int) then F x.2.1 else 0) := fun c hc => by
      unfold stepF
      by_cases e : x.2.2.1.toNat = c
      · subst e
        rw [List.getD_eq_getElem?_getD, List.getElem?_set_self (by omega), Option.getD_some, hG _ hc, hF _ (by omega), if_pos (by omega)]
        have : ((x.2.1.toNat : Nat) : Int) = x.2.1 := by omega
        rw [this, capI_add]
      · rw [List.getD_eq_getElem?_getD, List.getElem?_set_ne e, ← List.getD_eq_getElem?_getD, hG c hc, if_neg (by omega), Nat.add_zero]
    have := stepF_exact hL hf hF M (stepF fr nx x) (fun c => G c + if x.2.2.1 = (c : Int) then F x.2.1 else 0) (fun y hy => hM y (by simp [hy])) (by simp [stepF, hn]) hstep c hc
    rw [this]
    simp only [tot]
    congr 1
    omega

theorem steps_exact {L : List Line} {N : Nat} (hL : LnOk N L) : ∀ k, (stepsL L (List.replicate N 1) k).length = N ∧ ∀ c : Nat, c < N → (stepsL L (List.replicate N 1) k).getD c 0 = capI (Fk L k c)
  | 0 => ⟨by simp [stepsL], fun c hc => by
    rw [stepsL, getD_lt _ _ _ (by simpa using hc), List.getElem_replicate]; rfl⟩
  | k + 1 => by
    obtain ⟨h1, h2⟩ := steps_exact hL k
    have hl : (stepsL L (List.replicate N 1) (k + 1)).length = N := by
      have hr : Rng (List.replicate N 1) := fun x hx => by rw [List.eq_of_mem_replicate hx]; decide
      have := (steps_rng (L := L) hr (k + 1)).2
      simpa using this
    refine ⟨hl, fun c hc => ?_⟩
    have := stepF_exact hL h1 h2 L (List.replicate N 0) (fun _ => 0) (fun x hx => hx) (by simp) (fun c hc => by rw [getD_lt _ _ _ (by simpa using hc), List.getElem_replicate]; rfl) c hc
    rw [stepsL, stepL, h1, this, Nat.zero_add]
    rfl

theorem sumC_exact {fr : List Int} {N : Nat} {G : Nat → Nat} (hf : fr.length = N) (hG : ∀ c, c < N → fr.getD c 0 = capI (G c)) : sumC fr = capI (tot G (List.range N)) := by
  have key : ∀ n, n ≤ N → sumC (fr.take n) = capI (tot G (List.range n)) := by
    intro n
    induction n with
    | zero => intro _; rfl
    | succ n ih =>
      intro hn
      have hlt : n < fr.length := by omega
      rw [take_succ' _ _ hlt, List.range_succ, tot_append]
      have : sumC (fr.take n ++ [fr[n]]) = min (sumC (fr.take n) + fr[n]) 1099511627777 := by
        unfold sumC; rw [List.foldl_append]; rfl
      rw [this, ih (by omega), ← getD_lt fr n 0 hlt, hG n (by omega), capI_add]
      simp [tot]
  have := key N (Nat.le_refl _)
  rwa [List.take_of_length_le (by omega)] at this

/-- What Count counts. -/
theorem count_exact {l : List Tile} (hs : IsSet l) {w h : Nat} (hw : 1 ≤ w ∧ w ≤ 4) (hh : 0 < h) : sumC (stepsL (linesL l w) (List.replicate (8 ^ w) 1) h) = capI (boards (linesL l w) h) := by
  have hL := lines_ok hs hw.2
  obtain ⟨h1, h2⟩ := steps_exact hL h
  rw [sumC_exact h1 h2, f_total hL hh]

end Go.Proofs.Ytgalbokmgffhkaa
