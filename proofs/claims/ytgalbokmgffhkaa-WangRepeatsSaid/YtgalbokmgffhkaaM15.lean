/- Texts of my own, merged by program: N1 N2 N3. -/
import Derived.Test.YtgalbokmgffhkaaM07
import Derived.Test.YtgalbokmgffhkaaM11
import Derived.Test.YtgalbokmgffhkaaM14
import Derived.Laws.IdiomCopy
set_option linter.all false
/- Closed boards, plainly: ways round. No program. -/
namespace Go.Proofs.Ytgalbokmgffhkaa
open Go.Wg

/-- In how many ways k rows lead from a to c. -/
def Pt {α : Type} (C : List α) (f g : α → Int) (a : Int) : Nat → Int → Nat
  | 0, c => if a = c then 1 else 0
  | k + 1, c => tot (fun x => if g x = c then Pt C f g a k (f x) else 0) C
/-- Ways round, by their last row. -/
def roundN {α : Type} (C : List α) (f g : α → Int) (h : Nat) : Nat := tot (fun x => Pt C f g (g x) (h - 1) (f x)) C

theorem pt_label {α : Type} {C : List α} {f g f' g' : α → Int} (h : ∀ x ∈ C, ∀ y ∈ C, g x = f y ↔ g' x = f' y) {x : α} (hx : x ∈ C) : ∀ (k : Nat) {y : α}, y ∈ C → Pt C f g (g x) k (f y) = Pt C f' g' (g' x) k (f' y)
  | 0, y, hy => by
    unfold Pt
    by_cases e : g x = f y
    · rw [if_pos e, if_pos ((h x hx y hy).1 e)]
    · rw [if_neg e, if_neg fun e' => e ((h x hx y hy).2 e')]
  | k + 1, y, hy => by
    unfold Pt
    refine tot_congr fun z hz => ?_
    by_cases e : g z = f y
    · rw [if_pos e, if_pos ((h z hz y hy).1 e), pt_label h hx k hz]
    · rw [if_neg e, if_neg fun e' => e ((h z hz y hy).2 e')]
theorem round_label {α : Type} {C : List α} {f g f' g' : α → Int} (h : ∀ x ∈ C, ∀ y ∈ C, g x = f y ↔ g' x = f' y) (n : Nat) : roundN C f g n = roundN C f' g' n :=
  tot_congr fun _ hx => pt_label h hx (n - 1) hx
theorem pt_map {α β : Type} (φ : α → β) (C : List α) (f g : β → Int) (a : Int) : ∀ (k : Nat) (c : Int), Pt (C.map φ) f g a k c = Pt C (fun x => f (φ x)) (fun x => g (φ x)) a k c
  | 0, _ => rfl
  | k + 1, c => by
    unfold Pt
    rw [tot_map]
    refine tot_congr fun x _ => ?_
    rw [pt_map φ C f g a k]
theorem round_map {α β : Type} (φ : α → β) (C : List α) (f g : β → Int) (n : Nat) : roundN (C.map φ) f g n = roundN C (fun x => f (φ x)) (fun x => g (φ x)) n := by
  unfold roundN
  rw [tot_map]
  exact tot_congr fun x _ => pt_map φ C f g _ _ _

theorem round_sum {α : Type} {N h : Nat} {C : List α} {f g : α → Int} (hg : ∀ x ∈ C, 0 ≤ g x ∧ g x < N) (hh : 0 < h) : tot (fun a : Nat => Pt C f g (a : Int) h (a : Int)) (List.range N) = roundN C f g h := by
  obtain ⟨m, rfl⟩ : ∃ m, h = m + 1 := ⟨h - 1, by omega⟩
  have e : tot (fun a : Nat => Pt C f g (a : Int) (m + 1) (a : Int)) (List.range N) = tot (fun a : Nat => tot (fun x => if g x = (a : Int) then Pt C f g (a : Int) m (f x) else 0) C) (List.range N) := rfl
  rw [e, tot_swap (f := g) (g := fun x c => Pt C f g (c : Int) m (f x)) hg]
  refine tot_congr fun x hx => ?_
  have := hg x hx
  rw [show (((g x).toNat : Nat) : Int) = g x by omega, Nat.add_sub_cancel]

theorem pt_south {α : Type} {C : List α} {f g : α → Int} {a c : Int} {k : Nat} (h : ∀ x ∈ C, g x ≠ c) : Pt C f g a (k + 1) c = 0 := by
  unfold Pt
  exact tot_zero fun x hx => if_neg (h x hx)
theorem pt_north {α : Type} {C : List α} {f g : α → Int} {a : Int} (h : ∀ x ∈ C, f x ≠ a) : ∀ (k : Nat) (c : Int), Pt C f g a (k + 1) c = 0
  | 0, c => by
    unfold Pt
    refine tot_zero fun x hx => ?_
    split
    · exact if_neg fun e => h x hx e.symm
    · rfl
  | k + 1, c => by
    rw [Pt]
    refine tot_zero fun x hx => ?_
    split
    · exact pt_north h k _
    · rfl

/-! ### the program's way: steps from one list of Norths -/
def unitL (N : Nat) (a : Nat) : List Int := (List.replicate N 0).set a 1
abbrev lnN (x : Line) : Int := x.2.1
abbrev lnS (x : Line) : Int := x.2.2.1
theorem unit_len (N a : Nat) : (unitL N a).length = N := by simp [unitL]
theorem unit_rng (N a : Nat) : Rng (unitL N a) := fun x hx => by
  rcases List.mem_or_eq_of_mem_set hx with h | h
  · rw [List.eq_of_mem_replicate h]; decide
  · rw [h]; decide
theorem steps_from {L : List Line} {N a : Nat} (hL : LnOk N L) : ∀ k, (stepsL L (unitL N a) k).length = N ∧ ∀ c : Nat, c < N → (stepsL L (unitL N a) k).getD c 0 = capI (Pt L lnN lnS (a : Int) k (c : Int))
  | 0 => ⟨by simp [stepsL, unit_len], fun c hc => by
    rw [stepsL, unitL, Pt]
    by_cases e : a = c
    · subst e
      rw [List.getD_eq_getElem?_getD, List.getElem?_set_self (by simpa using hc), if_pos rfl]; rfl
    · rw [List.getD_eq_getElem?_getD, List.getElem?_set_ne e, List.getElem?_replicate, if_pos hc, if_neg (by omega)]; rfl⟩
  | k + 1 => by
    obtain ⟨h1, h2⟩ := steps_from (a := a) hL k
    have hl : (stepsL L (unitL N a) (k + 1)).length = N := by
      have := (steps_rng (L := L) (unit_rng N a) (k + 1)).2
      rw [unit_len] at this
      exact this
    refine ⟨hl, fun c hc => ?_⟩
    have := stepF_exact hL h1 h2 L (List.replicate N 0) (fun _ => 0) (fun x hx => hx) (by simp) (fun c hc => by rw [getD_lt _ _ _ (by simpa using hc), List.getElem_replicate]; rfl) c hc
    rw [stepsL, stepL, h1, this, Nat.zero_add]
    rfl

/-- Of all lines, those that close. -/
def closedL (L : List Line) : List Line := L.filter fun x => x.2.2.2
def southL (N : Nat) (C : List Line) : List Bool := C.foldl (fun s x => s.set (lnS x).toNat true) (List.replicate N false)
theorem south_at {N : Nat} {C : List Line} (hC : LnOk N C) {c : Nat} (hc : c < N) : (southL N C).length = N ∧ ((southL N C).getD c false = true ↔ ∃ x ∈ C, lnS x = (c : Int)) := by
  have key : ∀ (M : List Line) (s : List Bool), (∀ x ∈ M, x ∈ C) → s.length = N → (M.foldl (fun s x => s.set (lnS x).toNat true) s).length = N ∧ ((M.foldl (fun s x => s.set (lnS x).toNat true) s).getD c false = true ↔ s.getD c false = true ∨ ∃ x ∈ M, lnS x = (c : Int)) := by
    intro M
    induction M with
    | nil => intro s _ hs; simp [hs]
    | cons x M ih =>
      intro s hM hs
      rw [List.foldl_cons]
      obtain ⟨h1, h2⟩ := ih (s.set (lnS x).toNat true) (fun y hy => hM y (by simp [hy])) (by simpa using hs)
      refine ⟨h1, h2.trans ?_⟩
      have hx := (hC x (hM x (by simp))).2
      have e : (s.set (lnS x).toNat true).getD c false = true ↔ s.getD c false = true ∨ lnS x = (c : Int) := by
        by_cases e : (lnS x).toNat = c
        · subst e
          rw [List.getD_eq_getElem?_getD, List.getElem?_set_self (by omega)]
          simp only [Option.getD_some, true_iff]
          right; show x.2.2.1 = ((x.2.2.1.toNat : Nat) : Int); omega
        · rw [List.getD_eq_getElem?_getD, List.getElem?_set_ne e, ← List.getD_eq_getElem?_getD]
          refine ⟨.inl, fun h => h.resolve_right fun h => e ?_⟩
          show x.2.2.1.toNat = c
          have : x.2.2.1 = (c : Int) := h
          omega
      rw [e]
      simp only [List.mem_cons, exists_eq_or_imp, or_assoc]
  obtain ⟨h1, h2⟩ := key C (List.replicate N false) (fun x hx => hx) (by simp)
  refine ⟨h1, h2.trans ⟨fun h => h.resolve_left (by rw [List.getD_eq_getElem?_getD, List.getElem?_replicate, if_pos hc]; simp), .inr⟩⟩

def closeF (N h : Nat) (C : List Line) (s : Int × List Bool) (x : Line) : Int × List Bool :=
  if s.2.getD (lnN x).toNat false = true ∨ (southL N C).getD (lnN x).toNat false = false then s
  else (min (s.1 + (stepsL C (unitL N (lnN x).toNat) h).getD (lnN x).toNat 0) 1099511627777, s.2.set (lnN x).toNat true)
/-- What the program counts. -/
def closedS (N h : Nat) (C : List Line) : Int × List Bool := C.foldl (closeF N h C) (0, List.replicate N false)

theorem tot_update {N i : Nat} {F G G' : Nat → Nat} (hi : i < N) (h1 : G i = 0) (h2 : G' i = F i) (h3 : ∀ j, j ≠ i → G' j = G j) : tot G' (List.range N) = tot G (List.range N) + F i := by
  have e : tot G' (List.range N) = tot (fun j => G j + if j = i then F i else 0) (List.range N) := tot_congr fun j _ => by
    by_cases e : j = i
    · subst e; rw [h2, h1, if_pos rfl, Nat.zero_add]
    · rw [h3 j e, if_neg e, Nat.add_zero]
  rw [e, tot_add, tot_range_eq (i := i) hi fun j _ hj => if_neg hj, if_pos rfl]

theorem closeF_exact {N h : Nat} {C : List Line} (hC : LnOk N C) : ∀ (M : List Line) (s : Int × List Bool), (∀ x ∈ M, x ∈ C) → s.2.length = N → s.1 = capI (tot (fun a : Nat => if s.2.getD a false = true then Pt C lnN lnS (a : Int) h (a : Int) else 0) (List.range N)) →
    (M.foldl (closeF N h C) s).2.length = N ∧ (M.foldl (closeF N h C) s).1 = capI (tot (fun a : Nat => if (M.foldl (closeF N h C) s).2.getD a false = true then Pt C lnN lnS (a : Int) h (a : Int) else 0) (List.range N)) ∧
    ∀ a, a < N → ((M.foldl (closeF N h C) s).2.getD a false = true ↔ s.2.getD a false = true ∨ ((∃ x ∈ M, lnN x = (a : Int)) ∧ (southL N C).getD a false = true))
  | [], s, _, hl, hs => ⟨hl, hs, fun a _ => by simp⟩
  | x :: M, s, hM, hl, hs => by
    have hx := (hC x (hM x (by simp))).1
    have hxc : (((lnN x).toNat : Nat) : Int) = lnN x := by show ((x.2.1.toNat : Nat) : Int) = x.2.1; omega
    have hlt : (lnN x).toNat < N := by show x.2.1.toNat < N; omega
    rw [List.foldl_cons]
    by_cases hc : s.2.getD (lnN x).toNat false = true ∨ (southL N C).getD (lnN x).toNat false = false
    · have e : closeF N h C s x = s := if_pos hc
      rw [e]
      obtain ⟨h1, h2, h3⟩ := closeF_exact hC M s (fun y hy => hM y (by simp [hy])) hl hs
      refine ⟨h1, h2, fun a ha => (h3 a ha).trans ?_⟩
      simp only [List.mem_cons, exists_eq_or_imp]
      constructor
      · rintro (h4 | ⟨h4, h5⟩)
        · exact .inl h4
        · exact .inr ⟨.inr h4, h5⟩
      · rintro (h4 | ⟨h4 | h4, h5⟩)
        · exact .inl h4
        · have e2 : (lnN x).toNat = a := by omega
          rw [e2] at hc
          rcases hc with h6 | h6
          · exact .inl h6
          · rw [h6] at h5; cases h5
        · exact .inr ⟨h4, h5⟩
    · have e : closeF N h C s x = (min (s.1 + (stepsL C (unitL N (lnN x).toNat) h).getD (lnN x).toNat 0) 1099511627777, s.2.set (lnN x).toNat true) := if_neg hc
      have hd : s.2.getD (lnN x).toNat false = false := by
        cases hh : s.2.getD (lnN x).toNat false with
        | false => rfl
        | true => exact absurd (.inl hh) hc
      have hso : (southL N C).getD (lnN x).toNat false = true := by
        cases hh : (southL N C).getD (lnN x).toNat false with
        | true => rfl
        | false => exact absurd (.inr hh) hc
      have hset : ∀ a, a ≠ (lnN x).toNat → (s.2.set (lnN x).toNat true).getD a false = s.2.getD a false := fun a ha => by
        rw [List.getD_eq_getElem?_getD, List.getElem?_set_ne (Ne.symm ha), ← List.getD_eq_getElem?_getD]
      have hself : (s.2.set (lnN x).toNat true).getD (lnN x).toNat false = true := by
        rw [List.getD_eq_getElem?_getD, List.getElem?_set_self (by omega)]; rfl
      rw [e]
      obtain ⟨h1, h2, h3⟩ := closeF_exact (h := h) hC M (min (s.1 + (stepsL C (unitL N (lnN x).toNat) h).getD (lnN x).toNat 0) 1099511627777, s.2.set (lnN x).toNat true) (fun y hy => hM y (by simp [hy])) (by simpa using hl) (by
        dsimp only
        rw [hs, (steps_from hC h).2 _ hlt, capI_add]
        congr 1
        symm
        refine tot_update (F := fun a : Nat => Pt C lnN lnS (a : Int) h (a : Int)) hlt ?_ ?_ fun j hj => ?_
        · rw [if_neg (by rw [hd]; decide)]
        · rw [if_pos hself]
        · rw [hset j hj])
      refine ⟨h1, h2, fun a ha => (h3 a ha).trans ?_⟩
      simp only [List.mem_cons, exists_eq_or_imp]
      by_cases ea : a = (lnN x).toNat
      · subst ea
        rw [hself]
        simp only [true_or, true_iff]
        exact .inr ⟨.inl (by omega), hso⟩
      · rw [hset a ea]
        constructor
        · rintro (h4 | ⟨h4, h5⟩)
          · exact .inl h4
          · exact .inr ⟨.inr h4, h5⟩
        · rintro (h4 | ⟨h4 | h4, h5⟩)
          · exact .inl h4
          · exact absurd (by omega) ea
          · exact .inr ⟨h4, h5⟩

/-- What closed counts. -/
theorem closed_exact {N h : Nat} {C : List Line} (hC : LnOk N C) (hh : 0 < h) : (closedS N h C).1 = capI (roundN C lnN lnS h) := by
  obtain ⟨m, rfl⟩ : ∃ m, h = m + 1 := ⟨h - 1, by omega⟩
  have hf : ∀ a, (List.replicate N false).getD a false = false := fun a => by
    rw [List.getD_eq_getElem?_getD, List.getElem?_replicate]
    split <;> rfl
  obtain ⟨h1, h2, h3⟩ := closeF_exact (h := m + 1) hC C (0, List.replicate N false) (fun x hx => hx) (by simp) (by
    rw [tot_zero fun a _ => by rw [hf]; rfl]; rfl)
  rw [closedS, h2, ← round_sum (N := N) (fun x hx => (hC x hx).2) hh]
  congr 1
  refine tot_congr fun a ha => ?_
  have hal := List.mem_range.1 ha
  have h4 := h3 a hal
  by_cases hd : (C.foldl (closeF N (m + 1) C) (0, List.replicate N false)).2.getD a false = true
  · rw [if_pos hd]
  · rw [if_neg hd]
    symm
    by_cases hn : ∃ x ∈ C, lnN x = (a : Int)
    · refine pt_south fun x hx e => hd (h4.2 (.inr ⟨hn, ((south_at hC hal).2).2 ⟨x, hx, e⟩⟩))
    · exact pt_north (fun x hx e => hn ⟨x, hx, e⟩) m _

end Go.Proofs.Ytgalbokmgffhkaa

/- Closed boards of the specification, plainly: rings of rows. No program. -/
namespace Go.Proofs.Ytgalbokmgffhkaa
open Go.Wg

def dgA (l : List Tile) (a x : Nat) : Nat := a / (lineL l).length ^ x % (lineL l).length
def ringC (l : List Tile) (a x : Nat) (e : Int) (t : Tile) : Prop := tW t = e ∧ tN t = (lineL l).getD (dgA l a x) 0
instance (l : List Tile) (a x : Nat) (e : Int) (t : Tile) : Decidable (ringC l a x e t) := inferInstanceAs (Decidable (_ ∧ _))
/-- What ring does to a row, m columns being left. -/
def ringF (l : List Tile) (W a : Nat) (west : Int) : Nat → Nat → Int → List Int → List Int
  | 0, s, e, row => if e = west then row.set s (row.getD s 0 + 1) else row
  | m + 1, s, e, row => l.foldl (fun row t => if ringC l a (W - (m + 1)) e t then ringF l W a west m (s + lidx l (tS t) * (lineL l).length ^ (W - (m + 1))) (tE t) row else row) row
def ringN (l : List Tile) (W a : Nat) (west : Int) (b : Nat) : Nat → Nat → Int → Nat
  | 0, s, e => if e = west ∧ s = b then 1 else 0
  | m + 1, s, e => tot (fun t => if ringC l a (W - (m + 1)) e t then ringN l W a west b m (s + lidx l (tS t) * (lineL l).length ^ (W - (m + 1))) (tE t) else 0) l

theorem ringF_exact {l : List Tile} {W a : Nat} {west : Int} : ∀ (m s : Nat) (e : Int) (row : List Int), (ringF l W a west m s e row).length = row.length ∧ ∀ b, b < row.length → (ringF l W a west m s e row).getD b 0 = row.getD b 0 + ringN l W a west b m s e
  | 0, s, e, row => by
    unfold ringF
    by_cases he : e = west
    · rw [if_pos he]
      refine ⟨by simp, fun b hb => ?_⟩
      unfold ringN
      by_cases hs : s = b
      · subst hs
        rw [List.getD_eq_getElem?_getD, List.getElem?_set_self hb, if_pos ⟨he, rfl⟩]; rfl
      · rw [List.getD_eq_getElem?_getD, List.getElem?_set_ne hs, ← List.getD_eq_getElem?_getD, if_neg fun h => hs h.2]
        simp
    · rw [if_neg he]
      refine ⟨rfl, fun b hb => ?_⟩
      unfold ringN
      rw [if_neg fun h => he h.1]
      simp
  | m + 1, s, e, row => by
    have key : ∀ (M : List Tile) (row : List Int), (M.foldl (fun row t => if ringC l a (W - (m + 1)) e t then ringF l W a west m (s + lidx l (tS t) * (lineL l).length ^ (W - (m + 1))) (tE t) row else row) row).length = row.length ∧
      ∀ b, b < row.length → (M.foldl (fun row t => if ringC l a (W - (m + 1)) e t then ringF l W a west m (s + lidx l (tS t) * (lineL l).length ^ (W - (m + 1))) (tE t) row else row) row).getD b 0 = row.getD b 0 + (tot (fun t => if ringC l a (W - (m + 1)) e t then ringN l W a west b m (s + lidx l (tS t) * (lineL l).length ^ (W - (m + 1))) (tE t) else 0) M : Nat) := by
      intro M
      induction M with
      | nil => intro row; exact ⟨rfl, fun b _ => by simp [tot]⟩
      | cons t M ih =>
        intro row
        rw [List.foldl_cons]
        by_cases hc : ringC l a (W - (m + 1)) e t
        · rw [if_pos hc]
          obtain ⟨g1, g2⟩ := ringF_exact (l := l) (W := W) (a := a) (west := west) m (s + lidx l (tS t) * (lineL l).length ^ (W - (m + 1))) (tE t) row
          obtain ⟨h1, h2⟩ := ih (ringF l W a west m (s + lidx l (tS t) * (lineL l).length ^ (W - (m + 1))) (tE t) row)
          refine ⟨h1.trans g1, fun b hb => ?_⟩
          rw [h2 b (by omega), g2 b hb]
          simp only [tot]
          rw [if_pos hc]
          omega
        · rw [if_neg hc]
          obtain ⟨h1, h2⟩ := ih row
          refine ⟨h1, fun b hb => ?_⟩
          rw [h2 b hb]
          simp only [tot]
          rw [if_neg hc, Nat.zero_add]
    exact key l row
theorem tot_le {α : Type} {f : α → Nat} {c : Nat} : ∀ {a : List α}, (∀ x ∈ a, f x ≤ c) → tot f a ≤ a.length * c
  | [], _ => by simp [tot]
  | x :: a, h => by
    have h1 := h x (by simp)
    have h2 := tot_le (f := f) (c := c) (a := a) fun y hy => h y (by simp [hy])
    simp only [tot, List.length_cons, Nat.add_mul]
    omega
theorem ringN_le {l : List Tile} {W a b : Nat} {west : Int} : ∀ (m s : Nat) (e : Int), ringN l W a west b m s e ≤ l.length ^ m
  | 0, s, e => by unfold ringN; split <;> simp
  | m + 1, s, e => by
    unfold ringN
    rw [Nat.pow_succ, Nat.mul_comm]
    refine tot_le fun t _ => ?_
    split
    · exact ringN_le m _ _
    · exact Nat.zero_le _

/-! ### against rows -/
def digN (l : List Tile) (r : List Nat) : List Nat := (norths l r).map (lidx l)
def digA (l : List Tile) (W a : Nat) : List Nat := (List.range W).map (dgA l a)
theorem digA_at {l : List Tile} {W a j : Nat} (hj : j < W) : (digA l W a).getD j 0 = dgA l a j := by
  rw [getD_lt _ _ _ (by simpa [digA] using hj)]
  simp [digA]

theorem line_nodup (l : List Tile) : (lineL l).Nodup := by
  unfold lineL List.Nodup
  rw [List.pairwise_map]
  refine List.Pairwise.imp (fun h => ?_) ((List.nodup_range (n := 8)).filter (lineB l))
  intro e
  exact h (by omega)
theorem lidx_at {l : List Tile} {i : Nat} (hi : i < (lineL l).length) : lidx l ((lineL l).getD i 0) = i := by
  rw [getD_lt _ _ _ hi]
  exact (line_nodup l).idxOf_getElem i hi

theorem encD_snoc (n : Nat) : ∀ (d : List Nat) (a : Nat), encD n (d ++ [a]) = encD n d + a * n ^ d.length
  | [], a => by simp [encD]
  | b :: d, a => by
    rw [List.cons_append, encD, encD_snoc n d a, encD, List.length_cons, Nat.mul_add, Nat.pow_succ]
    have : n * (a * n ^ d.length) = a * (n ^ d.length * n) := by rw [Nat.mul_comm n, Nat.mul_assoc]
    omega
theorem digS_len (l : List Tile) (r : List Nat) : (digS l r).length = r.length := by simp [digS, souths]
theorem digN_len (l : List Tile) (r : List Nat) : (digN l r).length = r.length := by simp [digN, norths]
theorem digS_snoc (l : List Tile) (r : List Nat) (i : Nat) : digS l (r ++ [i]) = digS l r ++ [lidx l (tS (tl l i))] := by simp [digS, souths]

theorem ring_rows {l : List Tile} {W a b : Nat} {west : Int} : ∀ (m : Nat) (r : List Nat), r.length + m = W → 0 < r.length →
    ringN l W a west b m (encD (lineL l).length (digS l r)) (tE (tl l (r.getLastD 0))) = tot (fun q => if matchN l (digA l W a) r.length W q ∧ tE (tl l (q.getLastD 0)) = west ∧ encD (lineL l).length (digS l q) = b then 1 else 0) (exts l m r)
  | 0, r, hr, h0 => by
    have hm : matchN l (digA l W a) r.length W r := fun j h1 h2 => by omega
    unfold ringN
    simp only [exts, tot, Nat.add_zero]
    by_cases h : tE (tl l (r.getLastD 0)) = west ∧ encD (lineL l).length (digS l r) = b
    · rw [if_pos h, if_pos ⟨hm, h⟩]
    · rw [if_neg h, if_neg fun h' => h h'.2]
  | m + 1, r, hr, h0 => by
    unfold ringN
    rw [tot_places, exts, tot_flatMap]
    refine tot_congr fun i hi => ?_
    have hil := List.mem_range.1 hi
    have hx : W - (m + 1) = r.length := by omega
    have hfit : fits l r i = true ↔ tW (tl l i) = tE (tl l (r.getLastD 0)) := by
      unfold fits
      simp only [Bool.or_eq_true, decide_eq_true_eq]
      constructor
      · rintro (h | h)
        · rw [h] at h0; simp at h0
        · exact h.symm
      · exact fun h => .inr h.symm
    rw [hx]
    by_cases hf : fits l r i = true
    case neg =>
      rw [if_neg hf, if_neg fun h => hf (hfit.2 h.1)]
      rfl
    rw [if_pos hf]
    have hq : ∀ q ∈ exts l m (r ++ [i]), q.getD r.length 0 = i := fun q hq => by
      obtain ⟨s, rfl, _, _⟩ := (mem_exts m (r ++ [i]) q).1 hq
      rw [List.getD_eq_getElem?_getD, List.append_assoc, List.getElem?_append_right (by omega), Nat.sub_self]
      rfl
    by_cases hn : tN (tl l i) = (lineL l).getD (dgA l a r.length) 0
    · rw [if_pos ⟨hfit.1 hf, hn⟩]
      have e := ring_rows (l := l) (W := W) (a := a) (b := b) (west := west) m (r ++ [i]) (by simp; omega) (by simp)
      rw [digS_snoc, encD_snoc, digS_len, List.getLastD_concat, List.length_append] at e
      rw [e]
      refine tot_congr fun q hqm => ?_
      have hqx := hq q hqm
      have hmm : matchN l (digA l W a) (r.length + [i].length) W q ↔ matchN l (digA l W a) r.length W q := by
        constructor
        · intro h j h1 h2
          by_cases e : j = r.length
          · subst e
            rw [hqx, digA_at h2]; exact hn.symm
          · exact h j (by simp; omega) h2
        · exact fun h j h1 h2 => h j (by simp at h1; omega) h2
      by_cases hc : matchN l (digA l W a) r.length W q ∧ tE (tl l (q.getLastD 0)) = west ∧ encD (lineL l).length (digS l q) = b
      · rw [if_pos hc, if_pos ⟨hmm.2 hc.1, hc.2⟩]
      · rw [if_neg hc, if_neg fun h => hc ⟨hmm.1 h.1, h.2⟩]
    · rw [if_neg fun h => hn h.2]
      symm
      refine tot_zero fun q hqm => if_neg fun h => hn ?_
      have := h.1 r.length (Nat.le_refl _) (by omega)
      rw [hq q hqm, digA_at (by omega)] at this
      exact this.symm

def closeR (l : List Tile) (W : Nat) : List (List Nat) := (rowsL l W).filter (closes l)
def rN (l : List Tile) (r : List Nat) : Int := ((encD (lineL l).length (digN l r) : Nat) : Int)
def rS (l : List Tile) (r : List Nat) : Int := ((encD (lineL l).length (digS l r) : Nat) : Int)
/-- In how many ways a row closes between two lists. -/
def mN (l : List Tile) (W a b : Nat) : Nat := tot (fun q => if rN l q = (a : Int) ∧ rS l q = (b : Int) then 1 else 0) (closeR l W)
def ringRow (l : List Tile) (W a : Nat) : List Int := (List.range 8).foldl (fun row c => ringF l W a ((c : Nat) : Int) W 0 ((c : Nat) : Int) row) (List.replicate ((lineL l).length ^ W) 0)
def ringsL (l : List Tile) (W : Nat) : List (List Int) := (List.range ((lineL l).length ^ W)).map (ringRow l W)

theorem tot_filter {α : Type} (f : α → Nat) (p : α → Bool) : ∀ L : List α, tot f (L.filter p) = tot (fun x => if p x = true then f x else 0) L
  | [] => rfl
  | x :: L => by
    rw [List.filter_cons]
    cases hp : p x with
    | true => simp [tot, tot_filter f p L, hp]
    | false => simp [tot, tot_filter f p L, hp]

theorem encD_inj {n : Nat} {d d' : List Nat} (hl : d.length = d'.length) (h1 : ∀ a ∈ d, a < n) (h2 : ∀ a ∈ d', a < n) (h : encD n d = encD n d') : d = d' := by
  refine List.ext_getElem hl fun i i1 i2 => ?_
  have e1 := encD_digit h1 i1
  have e2 := encD_digit h2 i2
  rw [h, e2, getD_lt _ _ _ i1, getD_lt _ _ _ i2] at e1
  exact e1.symm
theorem digA_enc {l : List Tile} (hn : 0 < (lineL l).length) {W a : Nat} (ha : a < (lineL l).length ^ W) : encD (lineL l).length (digA l W a) = a ∧ (digA l W a).length = W ∧ ∀ d ∈ digA l W a, d < (lineL l).length := by
  obtain ⟨d, d1, d2, d3⟩ := encD_ex hn W a ha
  have e : digA l W a = d := by
    refine List.ext_getElem (by simp [digA, d1]) fun i i1 i2 => ?_
    have := encD_digit d2 i2
    rw [d3, getD_lt _ _ _ i2] at this
    simpa [digA, dgA] using this
  rw [e]
  exact ⟨d3, d1, d2⟩
theorem match_enc {l : List Tile} (hn : 0 < (lineL l).length) {W a : Nat} (ha : a < (lineL l).length ^ W) {q : List Nat} (hq : q.length = W) (hql : ∀ c ∈ norths l q, c ∈ lineL l) : matchN l (digA l W a) 0 W q ↔ rN l q = (a : Int) := by
  obtain ⟨e1, e2, e3⟩ := digA_enc hn ha
  have hd : ∀ d ∈ digN l q, d < (lineL l).length := fun d hd => by
    obtain ⟨c, hc, rfl⟩ := List.mem_map.1 hd
    exact lidx_lt (hql c hc)
  have hat : ∀ j (hj : j < W), (digN l q).getD j 0 = lidx l (tN (tl l (q.getD j 0))) ∧ tN (tl l (q.getD j 0)) ∈ lineL l := fun j hj => by
    have hjq : j < q.length := by omega
    have e : (norths l q)[j]'(by simp [norths]; omega) = tN (tl l (q.getD j 0)) := by
      rw [getD_lt _ _ _ hjq]; simp [norths]
    refine ⟨?_, by rw [← e]; exact hql _ (List.getElem_mem _)⟩
    rw [getD_lt _ _ _ (by rw [digN_len]; omega)]
    simp only [digN, List.getElem_map]
    rw [e]
  have hiff : matchN l (digA l W a) 0 W q ↔ digA l W a = digN l q := by
    constructor
    · intro h
      refine List.ext_getElem (by rw [e2, digN_len, hq]) fun j j1 j2 => ?_
      have hj : j < W := by omega
      have h1 := h j (by omega) hj
      have hlt : (digA l W a).getD j 0 < (lineL l).length := e3 _ (getD_mem j1)
      rw [← getD_lt _ _ 0 j1, ← getD_lt _ _ 0 j2, (hat j hj).1, ← h1, lidx_at hlt]
    · intro h j _ hj
      rw [h, (hat j hj).1, lidx_get (hat j hj).2]
  rw [hiff]
  unfold rN
  constructor
  · intro h; rw [← h, e1]
  · intro h
    refine encD_inj (by rw [e2, digN_len, hq]) e3 hd ?_
    rw [e1]; omega

theorem fold_add {α : Type} {f : α → List Int → List Int} {g : α → Nat → Nat} (hf : ∀ x row, (f x row).length = row.length ∧ ∀ b, b < row.length → (f x row).getD b 0 = row.getD b 0 + (g x b : Nat)) : ∀ (L : List α) (row : List Int), (L.foldl (fun row x => f x row) row).length = row.length ∧ ∀ b, b < row.length → (L.foldl (fun row x => f x row) row).getD b 0 = row.getD b 0 + (tot (fun x => g x b) L : Nat)
  | [], row => ⟨rfl, fun b _ => by simp [tot]⟩
  | x :: L, row => by
    obtain ⟨h1, h2⟩ := hf x row
    obtain ⟨h3, h4⟩ := fold_add hf L (f x row)
    rw [List.foldl_cons]
    refine ⟨h3.trans h1, fun b hb => ?_⟩
    rw [h4 b (by omega), h2 b hb]
    simp only [tot]
    omega

theorem ring_at {l : List Tile} (hs : IsSet l) {W a b : Nat} (hW : 0 < W) (ha : a < (lineL l).length ^ W) (hb : b < (lineL l).length ^ W) : (ringRow l W a).length = (lineL l).length ^ W ∧ (ringRow l W a).getD b 0 = (mN l W a b : Nat) := by
  have hn := line_pos hs
  obtain ⟨h1, h2⟩ := fold_add (f := fun c row => ringF l W a ((c : Nat) : Int) W 0 ((c : Nat) : Int) row) (g := fun c b => ringN l W a ((c : Nat) : Int) b W 0 ((c : Nat) : Int)) (fun c row => ringF_exact W 0 _ row) (List.range 8) (List.replicate ((lineL l).length ^ W) 0)
  rw [List.length_replicate] at h1 h2
  refine ⟨h1, ?_⟩
  unfold ringRow
  rw [h2 b hb, getD_lt _ _ _ (by simpa using hb), List.getElem_replicate, Int.zero_add]
  congr 1
  unfold mN closeR
  rw [tot_filter]
  obtain ⟨m, rfl⟩ : ∃ m, W = m + 1 := ⟨W - 1, by omega⟩
  -- by the first tile
  have e1 : tot (fun c : Nat => ringN l (m + 1) a (c : Int) b (m + 1) 0 (c : Int)) (List.range 8) = tot (fun c : Nat => tot (fun t => if tW t = (c : Int) then (if tN t = (lineL l).getD (dgA l a 0) 0 then ringN l (m + 1) a (c : Int) b m (lidx l (tS t)) (tE t) else 0) else 0) l) (List.range 8) := by
    refine tot_congr fun c _ => ?_
    rw [ringN]
    refine tot_congr fun t _ => ?_
    rw [Nat.sub_self, Nat.pow_zero, Nat.mul_one, Nat.zero_add]
    by_cases h3 : tW t = (c : Int)
    · rw [if_pos h3]
      by_cases h4 : tN t = (lineL l).getD (dgA l a 0) 0
      · rw [if_pos ⟨h3, h4⟩, if_pos h4]
      · rw [if_neg fun h => h4 h.2, if_neg h4]
    · rw [if_neg fun h => h3 h.1, if_neg h3]
  rw [e1, tot_swap (N := 8) (f := fun t : Tile => tW t) (g := fun t c => if tN t = (lineL l).getD (dgA l a 0) 0 then ringN l (m + 1) a ((c : Nat) : Int) b m (lidx l (tS t)) (tE t) else 0) (fun t ht => by have := cols_range (hs.cols t ht); omega)]
  rw [tot_places]
  show _ = tot _ (exts l (m + 1) [])
  rw [exts, tot_flatMap]
  refine tot_congr fun i hi => ?_
  have hil := List.mem_range.1 hi
  have hcr := tl_cols hs hil
  have hfi : fits l [] i = true := by simp [fits]
  rw [if_pos hfi, List.nil_append]
  have hWW : (((tW (tl l i)).toNat : Nat) : Int) = tW (tl l i) := by omega
  rw [hWW]
  have e2 := ring_rows (l := l) (W := m + 1) (a := a) (b := b) (west := tW (tl l i)) m [i] (by simp; omega) (by simp)
  have e3 : encD (lineL l).length (digS l [i]) = lidx l (tS (tl l i)) := by simp [digS, souths, encD]
  rw [e3] at e2
  change ringN l (m + 1) a (tW (tl l i)) b m (lidx l (tS (tl l i))) (tE (tl l i)) = _ at e2
  have hq : ∀ q ∈ exts l m [i], q.length = m + 1 ∧ q.getD 0 0 = i ∧ q ∈ rowsL l (m + 1) := fun q hq => by
    obtain ⟨s, e, hs1, _⟩ := (mem_exts m [i] q).1 hq
    refine ⟨by rw [e]; simp; omega, by rw [e]; rfl, ?_⟩
    unfold rowsL
    rw [exts, List.mem_flatMap]
    exact ⟨i, List.mem_range.2 hil, by rw [if_pos (by simp [fits])]; simpa using hq⟩
  by_cases hN : tN (tl l i) = (lineL l).getD (dgA l a 0) 0
  · rw [if_pos hN, e2]
    refine tot_congr fun q hqm => ?_
    obtain ⟨hql, hq0, hqr⟩ := hq q hqm
    obtain ⟨_, hno, hso, _⟩ := row_line hs hqr
    have hmm : matchN l (digA l (m + 1) a) [i].length (m + 1) q ↔ rN l q = (a : Int) := by
      rw [← match_enc hn ha hql hno]
      constructor
      · intro h j h1 h2
        by_cases e : j = 0
        · subst e
          rw [hq0, digA_at h2]; exact hN.symm
        · exact h j (by simp; omega) h2
      · exact fun h j h1 h2 => h j (by omega) h2
    have hcl : closes l q = true ↔ tE (tl l (q.getLastD 0)) = tW (tl l i) := by
      unfold closes
      rw [decide_eq_true_eq, hq0]
      exact eq_comm
    have hbb : encD (lineL l).length (digS l q) = b ↔ rS l q = (b : Int) := by unfold rS; omega
    by_cases hc : closes l q = true
    · rw [if_pos hc]
      by_cases h : rN l q = (a : Int) ∧ rS l q = (b : Int)
      · rw [if_pos h, if_pos ⟨hmm.2 h.1, hcl.1 hc, hbb.2 h.2⟩]
      · rw [if_neg h, if_neg fun h' => h ⟨hmm.1 h'.1, hbb.1 h'.2.2⟩]
    · rw [if_neg hc, if_neg fun h' => hc (hcl.2 h'.2.1)]
  · rw [if_neg hN]
    symm
    refine tot_zero fun q hqm => ?_
    obtain ⟨hql, hq0, hqr⟩ := hq q hqm
    obtain ⟨_, hno, _, _⟩ := row_line hs hqr
    split
    · refine if_neg fun h => hN ?_
      have := (match_enc hn ha hql hno).2 h.1 0 (by omega) (by omega)
      rw [hq0, digA_at (by omega)] at this
      exact this.symm
    · rfl
theorem mN_le {l : List Tile} (hs : IsSet l) {W a b : Nat} (hW : W ≤ 4) : mN l W a b ≤ 65536 := by
  have h1 : mN l W a b ≤ (closeR l W).length * 1 := tot_le fun q _ => by split <;> omega
  have h2 : (closeR l W).length ≤ (rowsL l W).length := List.length_filter_le _ _
  have h3 := exts_length_le hs.most W []
  have h4 := pow16_le hW
  have h5 : (rowsL l W).length ≤ 16 ^ W := h3
  omega

/-! ### from each list of Norths -/
def nextC (M : List (List Int)) (now : List Int) (b : Nat) (nx : List Int) (c : Nat) : List Int := nx.set c (min (nx.getD c 0 + min (now.getD b 0 * min ((M.getD b []).getD c 0) 1048576) 1099511627777) 1099511627777)
def nextB (M : List (List Int)) (now nx : List Int) (b : Nat) : List Int := if 0 < now.getD b 0 then (List.range M.length).foldl (nextC M now b) nx else nx
def nextR (M : List (List Int)) (now : List Int) : List Int := (List.range M.length).foldl (nextB M now) (List.replicate M.length 0)
def nowK (M : List (List Int)) (a : Nat) : Nat → List Int
  | 0 => unitL M.length a
  | k + 1 => nextR M (nowK M a k)

theorem capI_mul (p m : Nat) : min (capI p * (m : Int)) 1099511627777 = capI (p * m) := by
  unfold capI
  by_cases h : p ≤ 1099511627777
  · rw [show min (p : Int) 1099511627777 = (p : Int) by omega]
    rw [Int.natCast_mul]
  · rw [show min (p : Int) 1099511627777 = 1099511627777 by omega]
    by_cases h0 : m = 0
    · subst h0; rfl
    · have : p ≤ p * m := Nat.le_mul_of_pos_right p (by omega)
      omega

theorem nextC_exact {M : List (List Int)} {now nx : List Int} {b n p : Nat} {G : Nat → Nat} {mm : Nat → Nat} (hp : now.getD b 0 = capI p) (hm : ∀ c, c < n → (M.getD b []).getD c 0 = (mm c : Nat) ∧ mm c ≤ 65536) (hn : nx.length = n) (hG : ∀ c, c < n → nx.getD c 0 = capI (G c)) :
    ∀ j, j ≤ n → ((List.range j).foldl (nextC M now b) nx).length = n ∧ ∀ c, c < n → ((List.range j).foldl (nextC M now b) nx).getD c 0 = capI (G c + if c < j then p * mm c else 0)
  | 0, _ => ⟨hn, fun c hc => by rw [if_neg (by omega)]; exact hG c hc⟩
  | j + 1, hj => by
    obtain ⟨h1, h2⟩ := nextC_exact hp hm hn hG j (by omega)
    rw [List.range_succ, List.foldl_append, List.foldl_cons, List.foldl_nil]
    generalize (List.range j).foldl (nextC M now b) nx = X at *
    refine ⟨by simp [nextC, h1], fun c hc => ?_⟩
    unfold nextC
    by_cases e : j = c
    · subst e
      rw [List.getD_eq_getElem?_getD, List.getElem?_set_self (by omega), Option.getD_some, h2 j hc, hp, (hm j hc).1, if_neg (by omega), if_pos (by omega), Nat.add_zero]
      have : min ((mm j : Nat) : Int) 1048576 = (mm j : Int) := by have := (hm j hc).2; omega
      rw [this, capI_mul, capI_add]
    · rw [List.getD_eq_getElem?_getD, List.getElem?_set_ne e, ← List.getD_eq_getElem?_getD, h2 c hc]
      by_cases h3 : c < j
      · rw [if_pos h3, if_pos (by omega)]
      · rw [if_neg h3, if_neg (by omega)]

theorem nextR_exact {M : List (List Int)} {now : List Int} {n : Nat} {P : Nat → Nat} {mm : Nat → Nat → Nat} (hM : M.length = n) (hP : ∀ b, b < n → now.getD b 0 = capI (P b)) (hm : ∀ b c, b < n → c < n → (M.getD b []).getD c 0 = (mm b c : Nat) ∧ mm b c ≤ 65536) :
    ∀ j, j ≤ n → ((List.range j).foldl (nextB M now) (List.replicate n 0)).length = n ∧ ∀ c, c < n → ((List.range j).foldl (nextB M now) (List.replicate n 0)).getD c 0 = capI (tot (fun b => P b * mm b c) (List.range j))
  | 0, _ => ⟨by simp, fun c hc => by
    show (List.replicate n (0 : Int)).getD c 0 = _
    rw [getD_lt _ _ _ (by simpa using hc), List.getElem_replicate]; rfl⟩
  | j + 1, hj => by
    obtain ⟨h1, h2⟩ := nextR_exact hM hP hm j (by omega)
    rw [List.range_succ, List.foldl_append, List.foldl_cons, List.foldl_nil]
    generalize (List.range j).foldl (nextB M now) (List.replicate n 0) = X at *
    unfold nextB
    have hpj := hP j (by omega)
    by_cases h0 : 0 < now.getD j 0
    · rw [if_pos h0, hM]
      obtain ⟨h3, h4⟩ := nextC_exact (mm := mm j) hpj (fun c hc => hm j c (by omega) hc) h1 h2 n (Nat.le_refl _)
      refine ⟨h3, fun c hc => ?_⟩
      rw [h4 c hc, if_pos hc, tot_append]
      simp [tot]
    · rw [if_neg h0]
      refine ⟨h1, fun c hc => ?_⟩
      rw [h2 c hc, tot_append]
      have : P j = 0 := by rw [hpj] at h0; unfold capI at h0; omega
      simp [tot, this]

theorem now_exact {l : List Tile} (hs : IsSet l) {W a : Nat} (hW : 1 ≤ W ∧ W ≤ 4) : ∀ k, (nowK (ringsL l W) a k).length = (lineL l).length ^ W ∧ ∀ c : Nat, c < (lineL l).length ^ W → (nowK (ringsL l W) a k).getD c 0 = capI (Pt (closeR l W) (rN l) (rS l) (a : Int) k (c : Int))
  | 0 => by
    have hl : (ringsL l W).length = (lineL l).length ^ W := by simp [ringsL]
    refine ⟨by rw [nowK, unit_len, hl], fun c hc => ?_⟩
    rw [nowK, hl, unitL, Pt]
    by_cases e : a = c
    · subst e
      rw [List.getD_eq_getElem?_getD, List.getElem?_set_self (by simpa using hc), if_pos rfl]; rfl
    · rw [List.getD_eq_getElem?_getD, List.getElem?_set_ne e, List.getElem?_replicate, if_pos hc, if_neg (by omega)]; rfl
  | k + 1 => by
    have hl : (ringsL l W).length = (lineL l).length ^ W := by simp [ringsL]
    obtain ⟨h1, h2⟩ := now_exact (a := a) hs hW k
    have hm : ∀ b c, b < (lineL l).length ^ W → c < (lineL l).length ^ W → ((ringsL l W).getD b []).getD c 0 = (mN l W b c : Nat) ∧ mN l W b c ≤ 65536 := fun b c hb hc => by
      refine ⟨?_, mN_le hs hW.2⟩
      have e : (ringsL l W).getD b [] = ringRow l W b := by
        rw [getD_lt _ _ _ (by rw [hl]; exact hb)]
        simp only [ringsL, List.getElem_map, List.getElem_range]
      rw [e]
      exact (ring_at hs (by omega) hb hc).2
    obtain ⟨h3, h4⟩ := nextR_exact hl h2 hm _ (Nat.le_refl _)
    have e : nowK (ringsL l W) a (k + 1) = (List.range ((lineL l).length ^ W)).foldl (nextB (ringsL l W) (nowK (ringsL l W) a k)) (List.replicate ((lineL l).length ^ W) 0) := by
      rw [nowK, nextR, hl]
    rw [e]
    refine ⟨h3, fun c hc => ?_⟩
    rw [h4 c hc]
    congr 1
    rw [Pt]
    have e2 : tot (fun b : Nat => Pt (closeR l W) (rN l) (rS l) (a : Int) k (b : Int) * mN l W b c) (List.range ((lineL l).length ^ W)) = tot (fun b : Nat => tot (fun q => if rN l q = (b : Int) then (if rS l q = (c : Int) then Pt (closeR l W) (rN l) (rS l) (a : Int) k (b : Int) else 0) else 0) (closeR l W)) (List.range ((lineL l).length ^ W)) := by
      refine tot_congr fun b _ => ?_
      rw [Nat.mul_comm, mN, ← tot_mul]
      refine tot_congr fun q _ => ?_
      by_cases h5 : rN l q = (b : Int)
      · by_cases h6 : rS l q = (c : Int)
        · rw [if_pos ⟨h5, h6⟩, if_pos h5, if_pos h6, Nat.one_mul]
        · rw [if_neg fun h => h6 h.2, if_pos h5, if_neg h6, Nat.zero_mul]
      · rw [if_neg fun h => h5 h.1, if_neg h5, Nat.zero_mul]
    rw [e2, tot_swap (N := (lineL l).length ^ W) (f := rN l) (g := fun q b => if rS l q = (c : Int) then Pt (closeR l W) (rN l) (rS l) (a : Int) k ((b : Nat) : Int) else 0) fun q hq => ?_]
    · refine tot_congr fun q _ => ?_
      have : (((rN l q).toNat : Nat) : Int) = rN l q := by unfold rN; omega
      rw [this]
    · have hqr := (List.mem_filter.1 hq).1
      obtain ⟨q1, q2, _, _⟩ := row_line hs hqr
      have := encD_lt (n := (lineL l).length) (d := digN l q) fun d hd => by
        obtain ⟨c, hc, rfl⟩ := List.mem_map.1 hd
        exact lidx_lt (q2 c hc)
      rw [digN_len, q1] at this
      unfold rN
      omega

/-- What the specification counts. -/
def closedV (l : List Tile) (W h : Nat) : Int := sumC ((List.range ((lineL l).length ^ W)).map fun a => (nowK (ringsL l W) a h).getD a 0)
theorem rS_lt {l : List Tile} (hs : IsSet l) {W : Nat} {q : List Nat} (hq : q ∈ closeR l W) : 0 ≤ rS l q ∧ rS l q < ((lineL l).length ^ W : Nat) := by
  have hqr := (List.mem_filter.1 hq).1
  obtain ⟨q1, _, q2, _⟩ := row_line hs hqr
  have := encD_lt (n := (lineL l).length) (d := digS l q) fun d hd => by
    obtain ⟨c, hc, rfl⟩ := List.mem_map.1 hd
    exact lidx_lt (q2 c hc)
  rw [digS_len, q1] at this
  unfold rS
  omega
theorem closedV_exact {l : List Tile} (hs : IsSet l) {W h : Nat} (hW : 1 ≤ W ∧ W ≤ 4) (hh : 0 < h) : closedV l W h = capI (roundN (closeR l W) (rN l) (rS l) h) := by
  unfold closedV
  rw [sumC_exact (N := (lineL l).length ^ W) (G := fun a => Pt (closeR l W) (rN l) (rS l) (a : Int) h (a : Int)) (by simp) fun c hc => by
    rw [getD_lt _ _ _ (by simpa using hc)]
    simp only [List.getElem_map, List.getElem_range]
    exact (now_exact hs hW h).2 c hc]
  rw [round_sum (fun q hq => rS_lt hs hq) hh]

/-- Both count alike. -/
theorem closed_both {l : List Tile} (hs : IsSet l) {W h : Nat} (hW : 1 ≤ W ∧ W ≤ 4) (hh : 0 < h) : (closedS (8 ^ W) h (closedL (linesL l W))).1 = closedV l W h := by
  have hL : LnOk (8 ^ W) (closedL (linesL l W)) := fun x hx => lines_ok hs hW.2 x (List.mem_filter.1 hx).1
  rw [closed_exact hL hh, closedV_exact hs hW hh]
  have e : closedL (linesL l W) = (closeR l W).map (lineOf l) := by
    unfold closedL linesL closeR
    rw [List.filter_map]
    rfl
  rw [e, round_map]
  congr 1
  refine round_label (fun q hq r hr => ?_) h
  obtain ⟨q1, q2, q3, _⟩ := row_line hs (List.mem_filter.1 hq).1
  obtain ⟨r1, r2, r3, _⟩ := row_line hs (List.mem_filter.1 hr).1
  have hl : (souths l q).length = (norths l r).length := by simp [souths, norths]; omega
  show code (souths l q) = code (norths l r) ↔ rS l q = rN l r
  constructor
  · intro h
    have := code_inj hl (fun x hx => line_range (q3 x hx)) (fun x hx => line_range (r2 x hx)) h
    unfold rS rN digS digN
    rw [this]
  · intro h
    have h1 : encD (lineL l).length (digS l q) = encD (lineL l).length (digN l r) := by unfold rS rN at h; omega
    have h2 : digS l q = digN l r := encD_inj (by rw [digS_len, digN_len]; omega) (fun d hd => by
      obtain ⟨c, hc, rfl⟩ := List.mem_map.1 hd
      exact lidx_lt (q3 c hc)) (fun d hd => by
      obtain ⟨c, hc, rfl⟩ := List.mem_map.1 hd
      exact lidx_lt (r2 c hc)) h1
    have h3 : souths l q = norths l r := by
      refine List.ext_getElem hl fun j j1 j2 => ?_
      have h4 : (digS l q)[j]'(by simpa [digS] using j1) = (digN l r)[j]'(by simpa [digN] using j2) := by simp only [h2]
      simp only [digS, digN, List.getElem_map] at h4
      have h5 := lidx_get (q3 _ (List.getElem_mem j1))
      have h6 := lidx_get (r2 _ (List.getElem_mem j2))
      rw [h4, h6] at h5
      exact h5.symm
    rw [h3]

end Go.Proofs.Ytgalbokmgffhkaa

/- Contract: slices.DeleteFunc at lines. -/
namespace Go.Proofs.Ytgalbokmgffhkaa
open Go.Lf Go.RowKit Go.Wg

theorem chg_setCells {b : Nat} : ∀ (vs : List Value) (o : Nat) (w : World), Chg (fun k => k = b) w (w.setCells b o vs)
  | [], _, w => Chg.refl _ w
  | v :: vs, o, w => (Chg.setCell (S := fun k => k = b) w (p := ⟨b, o, none⟩) v rfl).trans (chg_setCells vs (o + 1) _)

set_option maxRecDepth 100000 in
/-- clear(s) -/
theorem r_clear {t e ty ty' : TypeId} {m b o n c : Nat} {z : Value} {cur : Array Value} {w : World} {K : Value → World → Prop} (ht : Try.prog.underlying t = some (.slice e)) (hv : ∀ w, (zeroValue e).run Try.prog w = .ok z w) (hz : z.cells.size = m)
    (h1 : ∀ u ∈ (Builtin.zeroCells z.cells n).toList, u.oneCell' = true) (hn : 0 < n) (hb : w.heap[b]? = some (.cells cur ty' (0, 0))) (hfit : o + n * m ≤ cur.size)
    (hk : ∀ w', Chg (fun k => k = b) w w' → (∀ k, k < o → w'.cell? ⟨b, k, none⟩ = w.cell? ⟨b, k, none⟩) → K (.tuple #[]) w') : semW Try.prog (clS [t] ty [.slice (some ⟨b, o, none⟩) n c]) w K := by
  have hl : (Builtin.zeroCells z.cells n).toList.length = n * m := by simp [Builtin.zeroCells, hz]
  generalize hvs : (Builtin.zeroCells z.cells n).toList = vs at *
  have hst := run_storeCells_cells (P := Try.prog) b o vs 0 w (fun j hj => by rw [cell_row hb]; simp; omega) (fun j hj => frozen_row hb) h1
  simp only [Nat.add_zero] at hst
  obtain ⟨k, rfl⟩ : ∃ k, n = k + 1 := ⟨n - 1, by omega⟩
  refine semW_of_run (v := .tuple #[]) (w' := w.setCells b o vs) ?_ (hk _ (chg_setCells vs o w) fun k hk => World.cell?_setCells_out b vs o w _ fun _ _ => .inl hk)
  simp [clS, Builtin.clear_, run_underlying ht, hv, hvs, hst]

section
variable {α : Type} {m : Nat} {enc : α → List Value}
theorem recCells_put (he : ∀ x, (enc x).length = m) (x : α) : ∀ (P : List α) (q : Nat), q < P.length → recCells enc (P.set q x) = (recCells enc P).take (q * m) ++ enc x ++ (recCells enc P).drop (q * m + m)
  | p :: P, 0, _ => by
    simp only [recCells, List.flatMap_cons, List.set_cons_zero, Nat.zero_mul, Nat.zero_add, List.take_zero, List.nil_append]
    rw [List.drop_append_of_le_length (by rw [he]; exact Nat.le_refl _), List.drop_of_length_le (by rw [he]; exact Nat.le_refl _), List.nil_append]
  | p :: P, q + 1, h => by
    have ih := recCells_put he x P q (by simpa using h)
    simp only [recCells, List.flatMap_cons, List.set_cons_succ] at ih ⊢
    rw [ih, Nat.add_mul, Nat.one_mul, Nat.add_comm (q * m) m, ← he p, List.take_length_add_append, Nat.add_assoc, List.drop_length_add_append]
    simp only [List.append_assoc, Nat.add_comm (enc p).length]
/-- A store of a whole record. -/
theorem RecAt.putRec {e : TypeId} {base : Nat} {w : World} {v : Value} {P : List α} (he : ∀ x, (enc x).length = m) (h : RecAt e m enc base w v P) {q : Nat} (hq : q < P.length) (x : α) :
    ∃ g cap cur, v = .slice (some ⟨g, 0, none⟩) P.length cap ∧ base ≤ g ∧ w.heap[g]? = some (.cells cur e (0, 0)) ∧ q * m + m ≤ cur.size ∧
      ∀ w', w'.heap[g]? = some (.cells (cur.toList.take (q * m) ++ enc x ++ cur.toList.drop (q * m + m)).toArray e (0, 0)) → RecAt e m enc base w' v (P.set q x) := by
  obtain ⟨g, cap, cur, e1, hb, hg, hle, hm, hs, ht⟩ := h.blk (by omega)
  have h1 : q * m + m ≤ P.length * m := by
    have : (q + 1) * m ≤ P.length * m := Nat.mul_le_mul_right m hq
    rwa [Nat.add_mul, Nat.one_mul] at this
  have h2 : P.length * m ≤ cur.size := by rw [hs]; exact Nat.mul_le_mul_right m hle
  refine ⟨g, cap, cur, e1, hb, hg, by omega, fun w' hw' => ⟨by rw [recCells_length he], .inr ⟨g, cap, _, by rw [List.length_set]; exact e1, hb, hw', by rw [List.length_set]; exact hle, hm, ?_, ?_⟩⟩⟩
  · rw [← hs]
    have := he x
    simp
    omega
  · rw [recCells_put he x P q hq, ← ht, List.length_set, List.take_take, Nat.min_eq_left (by omega), List.drop_take]
    have hA : (cur.toList.take (q * m) ++ enc x).length = q * m + m := by
      rw [List.length_append, List.length_take, he]
      have : cur.toList.length = cur.size := by simp
      omega
    show (cur.toList.take (q * m) ++ enc x ++ cur.toList.drop (q * m + m)).take (P.length * m) = _
    rw [List.take_append, hA, List.take_of_length_le (by rw [hA]; exact h1)]
end

set_option maxRecDepth 100000 in
/-- slices.IndexFunc at lines: the first. -/
theorem indexFst_calls {v fv : Value} {L : List Line} (p : Line → Bool) (w : World) (hr : RdL w v L) (hl : L.length ≤ 1000000)
    (hc : ∀ x ∈ L, ∀ (w' : World) (K : Value → World → Prop), Kp w w' → (∀ w'', Kp w' w'' → K (.bool (p x)) w'') → callW Try.prog fv [lnV x] w' K) :
    Calls Try.prog 77 #[v, fv] w fun e w' => Kp w w' ∧ (((∀ x ∈ L, p x = false) ∧ e = .returned (.int .i64 (-1))) ∨ ∃ (i : Nat) (x : Line), L[i]? = some x ∧ p x = true ∧ (∀ y ∈ L.take i, p y = false) ∧ e = .returned (.int .i64 i)) := by
  have hr' := hr
  obtain ⟨a, cap, rfl, hcap⟩ := hr.len
  refine lift77 ?_
  unfold S77
  simp only [r_ln]
  unfold S77L0
  refine ⟨fun t8 wr => ∃ i : Nat, i ≤ L.length ∧ t8 = .int .i64 i ∧ (∀ x ∈ L.take i, p x = false) ∧ Kp w wr, fun t8 _ => L.length - (intOf t8).toNat, ⟨0, by omega, rfl, by simp, Kp.refl _⟩, ?_⟩
  rintro _ _ wr ⟨i, hi, rfl, hn, kr⟩
  by_cases hlt : i < L.length
  case neg =>
    have hlt' : ¬ (i : Int) < (L.length : Int) := by omega
    rw [List.take_of_length_le (by omega)] at hn
    simp (disch := omega) only [r_ln, r_pick, r_pickT, r_pickF, r_condT, r_condF, r_gdTT, r_gdFF, r_gdTF, r_gdFT, r_gqTT, r_gqFF, r_gqTF, r_gqFT, r_not, r_lss, r_leq, r_gtr, r_geq, r_eql, r_neq, r_add, r_sub, r_min2, r_max2, r_min3, r_max3, r_fa, r_iaS, r_iaA, r_ex2a, r_ex2b, r_ex3a, r_ex3b, r_ex3c, r_nc, r_keepE, Nat.zero_add, Nat.add_zero, Nat.mul_one, Int.toNat_natCast, toNat_sub1, toNat_add1, decide_true, decide_false, Bool.not_true, Bool.not_false, if_true, if_false, Bool.false_eq_true, reduceCtorEq, hlt']
    exact ⟨kr, .inl ⟨hn, by first | rfl | trivial⟩⟩
  have hlt' : (i : Int) < (L.length : Int) := by omega
  obtain ⟨x, hx⟩ : ∃ x, L[i]? = some x := ⟨_, List.getElem?_eq_getElem hlt⟩
  obtain ⟨b, off, _, e, _, hld⟩ := RdL.line (hr'.kp kr) hx
  cases e
  have hii : (i : Int).toNat = i := by omega
  simp (disch := omega) only [r_ln, r_pick, r_pickT, r_pickF, r_condT, r_condF, r_gdTT, r_gdFF, r_gdTF, r_gdFT, r_gqTT, r_gqFF, r_gqTF, r_gqFT, r_not, r_lss, r_leq, r_gtr, r_geq, r_eql, r_neq, r_add, r_sub, r_min2, r_max2, r_min3, r_max3, r_fa, r_iaS, r_iaA, r_ex2a, r_ex2b, r_ex3a, r_ex3b, r_ex3c, r_nc, r_keepE, Nat.zero_add, Nat.add_zero, Nat.mul_one, Int.toNat_natCast, toNat_sub1, toNat_add1, decide_true, decide_false, Bool.not_true, Bool.not_false, if_true, if_false, Bool.false_eq_true, reduceCtorEq, decide_eq_true hlt', hii, hld]
  refine hc x (List.mem_of_getElem? hx) wr _ kr fun w2 k2 => ?_
  cases hp : p x with
  | true =>
    simp (disch := omega) only [r_ln, r_pick, r_pickT, r_pickF, r_condT, r_condF, r_gdTT, r_gdFF, r_gdTF, r_gdFT, r_gqTT, r_gqFF, r_gqTF, r_gqFT, r_not, r_lss, r_leq, r_gtr, r_geq, r_eql, r_neq, r_add, r_sub, r_min2, r_max2, r_min3, r_max3, r_fa, r_iaS, r_iaA, r_ex2a, r_ex2b, r_ex3a, r_ex3b, r_ex3c, r_nc, r_keepE, Nat.zero_add, Nat.add_zero, Nat.mul_one, Int.toNat_natCast, toNat_sub1, toNat_add1, decide_true, decide_false, Bool.not_true, Bool.not_false, if_true, if_false, Bool.false_eq_true, reduceCtorEq]
    exact ⟨Kp.trans kr k2, .inr ⟨i, x, hx, hp, hn, by first | rfl | trivial⟩⟩
  | false =>
    simp (disch := omega) only [r_ln, r_pick, r_pickT, r_pickF, r_condT, r_condF, r_gdTT, r_gdFF, r_gdTF, r_gdFT, r_gqTT, r_gqFF, r_gqTF, r_gqFT, r_not, r_lss, r_leq, r_gtr, r_geq, r_eql, r_neq, r_add, r_sub, r_min2, r_max2, r_min3, r_max3, r_fa, r_iaS, r_iaA, r_ex2a, r_ex2b, r_ex3a, r_ex3b, r_ex3c, r_nc, r_keepE, Nat.zero_add, Nat.add_zero, Nat.mul_one, Int.toNat_natCast, toNat_sub1, toNat_add1, decide_true, decide_false, Bool.not_true, Bool.not_false, if_true, if_false, Bool.false_eq_true, reduceCtorEq]
    refine ⟨⟨i + 1, by omega, by go_num, fun y hy => ?_, Kp.trans kr k2⟩, by simp only [intOf]; omega⟩
    rw [List.take_add_one, hx] at hy
    rcases List.mem_append.1 hy with h | h
    · exact hn y h
    · simp at h
      rw [h]; exact hp

set_option maxRecDepth 100000 in
theorem open_call (x : Line) (w : World) (K : Value → World → Prop) (hK : ∀ w', Kp w w' → K (.bool (!x.2.2.2)) w') : callW Try.prog (.func (.func 112) #[] #[]) [lnV x] w K := by
  have hc : Calls Try.prog 112 #[lnV x] w fun r w' => r = .returned (.bool (!x.2.2.2)) ∧ Kp w w' := by
    refine lift112 ?_
    unfold S112
    refine r_box fun b w1 e1 s1 h1 k1 => ?_
    have c6 : w1.cell? ⟨b, 6, none⟩ = some (.bool x.2.2.2) := by rw [cell_row h1]; rfl
    simp (disch := omega) only [r_ln, r_pick, r_pickT, r_pickF, r_condT, r_condF, r_gdTT, r_gdFF, r_gdTF, r_gdFT, r_gqTT, r_gqFF, r_gqTF, r_gqFT, r_not, r_lss, r_leq, r_gtr, r_geq, r_eql, r_neq, r_add, r_sub, r_min2, r_max2, r_min3, r_max3, r_fa, r_iaS, r_iaA, r_ex2a, r_ex2b, r_ex3a, r_ex3b, r_ex3c, r_nc, r_keepE, Nat.zero_add, Nat.add_zero, Nat.mul_one, Int.toNat_natCast, toNat_sub1, toNat_add1, decide_true, decide_false, Bool.not_true, Bool.not_false, if_true, if_false, Bool.false_eq_true, reduceCtorEq, r_ld c6]
    exact ⟨by first | rfl | trivial, k1⟩
  refine r_use fok112 hc rfl ?_
  rintro _ w2 ⟨rfl, k2⟩
  exact ⟨_, rfl, hK w2 k2⟩

theorem lnV_cells (x : Line) : (lnV x).cells = (lnC x).toArray := rfl
theorem zero78 (w : World) : (zeroValue 78).run Try.prog w = .ok (lnV ([0, 0, 0, 0], 0, 0, false)) w := by kernel_rfl
theorem zero78_one (n : Nat) : ∀ u ∈ (Builtin.zeroCells (lnV ([0, 0, 0, 0], 0, 0, false)).cells n).toList, u.oneCell' = true := by
  intro u hu
  simp only [Builtin.zeroCells, Array.toList_map, List.mem_map] at hu
  obtain ⟨i, _, rfl⟩ := hu
  have h7 : i % (lnV ([0, 0, 0, 0], 0, 0, false)).cells.size < 7 := Nat.mod_lt _ (by decide)
  generalize i % (lnV ([0, 0, 0, 0], 0, 0, false)).cells.size = k at *
  have : k = 0 ∨ k = 1 ∨ k = 2 ∨ k = 3 ∨ k = 4 ∨ k = 5 ∨ k = 6 := by omega
  rcases this with rfl | rfl | rfl | rfl | rfl | rfl | rfl <;> rfl

set_option maxRecDepth 100000 in
set_option maxHeartbeats 1000000 in
/-- slices.DeleteFunc: the lines that close stay. -/
theorem delete_calls {v : Value} {L : List Line} (w0 w : World) (h : LnAt w0.heap.size w v L) (hk : Kp w0 w) (hl : L.length ≤ 1000000) :
    Calls Try.prog 111 #[v, .func (.func 112) #[] #[]] w fun e w' => ∃ v', e = .returned v' ∧ Kp w0 w' ∧ RdL w' v' (closedL L) := by
  refine lift111 ?_
  unfold S111
  refine r_use fok77 (indexFst_calls (fun x : Line => !x.2.2.2) w (h.rd lnC_len) hl fun x _ w' K _ hK => open_call x w' K hK) rfl ?_
  rintro e w1 ⟨k1, h1⟩
  rcases h1 with ⟨hall, rfl⟩ | ⟨i, x, hx, hpx, hn, rfl⟩
  · refine ⟨_, rfl, ?_⟩
    simp (disch := omega) only [r_ln, r_pick, r_pickT, r_pickF, r_condT, r_condF, r_gdTT, r_gdFF, r_gdTF, r_gdFT, r_gqTT, r_gqFF, r_gqTF, r_gqFT, r_not, r_lss, r_leq, r_gtr, r_geq, r_eql, r_neq, r_add, r_sub, r_min2, r_max2, r_min3, r_max3, r_fa, r_iaS, r_iaA, r_ex2a, r_ex2b, r_ex3a, r_ex3b, r_ex3c, r_nc, r_keepE, Nat.zero_add, Nat.add_zero, Nat.mul_one, Int.toNat_natCast, toNat_sub1, toNat_add1, decide_true, decide_false, Bool.not_true, Bool.not_false, if_true, if_false, Bool.false_eq_true, reduceCtorEq]
    refine ⟨_, rfl, Kp.trans hk k1, ?_⟩
    have e : closedL L = L := List.filter_eq_self.2 fun x hx => by have := hall x hx; simpa using this
    rw [e]
    exact (h.kp k1).rd lnC_len
  refine ⟨_, rfl, ?_⟩
  have hil : i < L.length := (List.getElem?_eq_some_iff.1 hx).1
  have hm1 : ¬ (i : Int) = -1 := by omega
  simp (disch := omega) only [r_ln, r_pick, r_pickT, r_pickF, r_condT, r_condF, r_gdTT, r_gdFF, r_gdTF, r_gdFT, r_gqTT, r_gqFF, r_gqTF, r_gqFT, r_not, r_lss, r_leq, r_gtr, r_geq, r_eql, r_neq, r_add, r_sub, r_min2, r_max2, r_min3, r_max3, r_fa, r_iaS, r_iaA, r_ex2a, r_ex2b, r_ex3a, r_ex3b, r_ex3c, r_nc, r_keepE, Nat.zero_add, Nat.add_zero, Nat.mul_one, Int.toNat_natCast, toNat_sub1, toNat_add1, decide_true, decide_false, Bool.not_true, Bool.not_false, if_true, if_false, Bool.false_eq_true, reduceCtorEq, hm1]
  unfold S111L0
  have hLp : 0 < L.length := by omega
  obtain ⟨g, cap, cur0, ev, hbg, _, hcap, _⟩ := h.blk hLp
  subst ev
  refine ⟨fun t5 t6 wr => ∃ (j a : Nat) (X : List Line), t6 = .int .i64 j ∧ t5 = .int .i64 a ∧ j ≤ L.length ∧ a < j ∧ X.length = L.length ∧ X.take a = (L.take j).filter (fun x => x.2.2.2) ∧ X.drop j = L.drop j ∧ LnAt w0.heap.size wr (.slice (some ⟨g, 0, none⟩) L.length cap) X ∧ Kp w0 wr, fun _ t6 _ => L.length - (intOf t6).toNat,
    ⟨i + 1, i, L, by go_num, rfl, by omega, by omega, rfl, ?_, rfl, h.kp k1, Kp.trans hk k1⟩, ?_⟩
  · rw [List.take_add_one, hx, List.filter_append]
    have e1 : (L.take i).filter (fun x => x.2.2.2) = L.take i := List.filter_eq_self.2 fun y hy => by have := hn y hy; simpa using this
    have e2 : x.2.2.2 = false := by simpa using hpx
    rw [e1]
    simp [e2]
  rintro _ _ _ wr ⟨j, a, X, rfl, rfl, hj, haj, hXl, hXt, hXd, hX, kr⟩
  by_cases hlt : j < L.length
  case neg =>
    have hlt' : ¬ (j : Int) < (L.length : Int) := by omega
    have ej : j = L.length := by omega
    simp only [r_ln, r_lss, hlt', decide_false, r_condF]
    rw [r_slFrom (by omega) (by omega)]
    have haa : (a : Int).toNat = a := by omega
    rw [haa, if_neg (by omega)]
    simp only [Option.map_some]
    rw [r_addr, Nat.zero_add]
    obtain ⟨g', cap', cur, e1, _, hg, _, _, hcs, _⟩ := hX.blk (by omega)
    rw [hXl] at e1
    cases e1
    refine r_clear (m := 7) (z := lnV ([0, 0, 0, 0], 0, 0, false)) slt73.und zero78 rfl (zero78_one _) (by omega) hg ?_ fun w2 c2 hout => ?_
    · rw [hcs]
      have : (a + (L.length - a)) * 7 ≤ cap * 7 := Nat.mul_le_mul_right 7 (by omega)
      rw [Nat.add_mul] at this
      exact this
    rw [r_slTo (by omega) (by omega), haa]
    refine ⟨_, rfl, Kp.of_chg kr c2 fun k e => by rw [e]; exact hbg, ?_⟩
    have hfin : X.take a = closedL L := by
      rw [hXt, List.take_of_length_le (by omega)]; rfl
    rw [← hfin]
    have hta : (X.take a).length = a := by rw [List.length_take]; omega
    obtain ⟨_, _, e3, _, hh⟩ := Rd.take (l := X) (n := L.length) (hX.rd lnC_len) (i := a) (by omega)
    rw [hta] at e3
    cases e3
    refine ⟨_, cap, by rw [hta], by omega, fun h0 => ?_⟩
    obtain ⟨b2, off2, e4, hcell⟩ := hh h0
    cases e4
    refine ⟨g, 0, rfl, fun k y hky q u hu => ?_⟩
    rw [hout _ ?_]
    · exact hcell k y hky q u hu
    · have hk' : k < a := by rw [← hta]; exact (List.getElem?_eq_some_iff.1 hky).1
      have hq : q < 7 := (List.getElem?_eq_some_iff.1 hu).1
      omega
  have hlt' : (j : Int) < (L.length : Int) := by omega
  have hxj : X[j]? = some L[j] := by
    have e1 : X[j]? = (X.drop j)[0]? := by rw [List.getElem?_drop, Nat.add_zero]
    rw [e1, hXd, List.getElem?_drop, Nat.add_zero, List.getElem?_eq_getElem hlt]
  have htake : L.take (j + 1) = L.take j ++ [L[j]] := take_succ' _ _ hlt
  have hdrop : X.drop (j + 1) = L.drop (j + 1) := by
    have e1 : X.drop (j + 1) = (X.drop j).drop 1 := by rw [List.drop_drop]
    rw [e1, hXd, List.drop_drop]
  generalize L[j] = y at *
  have hjj : (j : Int).toNat = j := by omega
  obtain ⟨b, off, _, e, _, hld⟩ := RdL.line (hX.rd lnC_len) hxj
  rw [hXl] at e
  cases e
  simp only [r_ln, r_lss, decide_eq_true hlt', r_condT]
  rw [r_iaS _ _ _ _ _ _ _ (by omega) (by omega), hjj, hld]
  refine r_box fun b7 w2 e7 s7 h7 k7 => ?_
  refine r_stAll (n := 7) (ty := 78) (by kernel_rfl) rfl (by intro u hu; simp [Value.cells] at hu; rcases hu with rfl | rfl | rfl | rfl | rfl | rfl | rfl <;> rfl) h7 rfl fun w3 cg3 s3 h73 => ?_
  have k03 : Kp wr w3 := Kp.of_chg k7 cg3 fun i e => by omega
  have ld3 : ∀ K : Value → Prop, ldN 7 w3 (.pointer (some ⟨b7, 0, none⟩)) K = K (lnV y) := fun K => r_ldRow h73 rfl
  rw [ld3]
  refine open_call y w3 _ fun w4 k4 => ?_
  have k04 := Kp.trans k03 k4
  have h74 := block_below h73 k4
  simp only [r_not, Bool.not_not]
  refine r_join1 (fun v w' => ∃ (a' : Nat) (X' : List Line), v = .int .i64 a' ∧ a' < j + 1 ∧ X'.length = L.length ∧ X'.take a' = (L.take (j + 1)).filter (fun x => x.2.2.2) ∧ X'.drop (j + 1) = L.drop (j + 1) ∧ LnAt w0.heap.size w' (.slice (some ⟨g, 0, none⟩) L.length cap) X' ∧ Kp w0 w') ?_ fun k' hk' => ?_
  · rintro v' w' ⟨a', X', rfl, q1, q2, q3, q4, q5, q6⟩
    rw [r_add _ _ (by omega) (by omega)]
    exact ⟨⟨j + 1, a', X', by go_num, rfl, by omega, q1, q2, q3, q4, q5, q6⟩, by simp only [intOf]; omega⟩
  cases hy : y.2.2.2 with
  | false =>
    simp only [r_condF]
    refine hk' _ _ ⟨a, X, rfl, by omega, hXl, ?_, hdrop, hX.kp k04, Kp.trans kr k04⟩
    rw [htake, List.filter_append, hXt]
    simp [hy]
  | true =>
    simp only [r_condT]
    have ld4 : ∀ K : Value → Prop, ldN 7 w4 (.pointer (some ⟨b7, 0, none⟩)) K = K (lnV y) := fun K => r_ldRow h74 rfl
    rw [ld4]
    have haa : (a : Int).toNat = a := by omega
    obtain ⟨g', cap', cur, e1, _, hg, hfit, hput⟩ := RecAt.putRec lnC_len (hX.kp k04) (q := a) (by omega) y
    rw [hXl] at e1
    cases e1
    rw [r_iaS _ _ _ _ _ _ _ (by omega) (by omega), haa, Nat.zero_add]
    refine r_stAt (n := 7) (ty := 78) (by kernel_rfl) rfl (by intro u hu; simp [Value.cells] at hu; rcases hu with rfl | rfl | rfl | rfl | rfl | rfl | rfl <;> rfl) hg hfit fun w5 c5 s5 h5 => ?_
    rw [r_add _ _ (by omega) (by omega)]
    refine hk' _ _ ⟨a + 1, X.set a y, by go_num, by omega, by rw [List.length_set]; exact hXl, ?_, ?_, hput w5 h5, Kp.of_chg (Kp.trans kr k04) c5 fun k e => by rw [e]; exact hbg⟩
    · rw [List.take_add_one, List.getElem?_set_self (by omega), List.take_set_of_le (Nat.le_refl _), hXt, htake, List.filter_append]
      simp [hy]
    · rw [List.drop_set_of_lt (by omega)]; exact hdrop

end Go.Proofs.Ytgalbokmgffhkaa
