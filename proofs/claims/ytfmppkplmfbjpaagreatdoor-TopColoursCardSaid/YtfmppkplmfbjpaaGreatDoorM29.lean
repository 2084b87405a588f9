/- Texts of my own, merged by program: Wg Wh. -/
import Derived.Test.YtfmppkplmfbjpaaGreatDoorM24
import Derived.Test.YtfmppkplmfbjpaaGreatDoorM27
set_option linter.all false
/- Picked by pick.py. -/
namespace Go.Proofs.YtfmppkplmfbjpaaGreatDoor
open Go.Lf Go.RowKit Go.Wg

theorem code_cons (x : Int) (c : List Int) : code (x :: c) = x * 8 ^ c.length + code c := by
  have key : ∀ (c : List Int) (n : Int), c.foldl (fun n x => n * 8 + x) n = n * 8 ^ c.length + code c := by
    intro c
    induction c with
    | nil => intro n; simp [code]
    | cons y c ih =>
      intro n
      rw [List.foldl_cons, ih]
      have := ih (0 * 8 + y)
      simp only [code, List.foldl_cons] at this ⊢
      rw [this, List.length_cons, Int.pow_succ]
      rw [Int.add_mul, Int.zero_mul, Int.zero_add, Int.mul_assoc n 8, Int.mul_comm 8, Int.add_assoc]
  have := key c x
  simp only [code, List.foldl_cons, Int.zero_mul, Int.zero_add]
  exact this
theorem code_inj : ∀ {a b : List Int}, a.length = b.length → (∀ x ∈ a, 0 ≤ x ∧ x ≤ 7) → (∀ x ∈ b, 0 ≤ x ∧ x ≤ 7) → code a = code b → a = b
  | [], [], _, _, _, _ => rfl
  | [], _ :: _, h, _, _, _ => by simp at h
  | _ :: _, [], h, _, _, _ => by simp at h
  | x :: a, y :: b, h, ha, hb, he => by
    have hl : a.length = b.length := by simpa using h
    have ha' : ∀ z ∈ a, 0 ≤ z ∧ z ≤ 7 := fun z hz => ha z (by simp [hz])
    have hb' : ∀ z ∈ b, 0 ≤ z ∧ z ≤ 7 := fun z hz => hb z (by simp [hz])
    have c1 := code_bound ha'
    have c2 := code_bound hb'
    rw [code_cons, code_cons, hl] at he
    rw [hl] at c1
    have hp : (0 : Int) < 8 ^ b.length := Int.pow_pos (by omega)
    have hxy : x = y := by
      have e1 : (x * 8 ^ b.length + code a) / 8 ^ b.length = x := by
        rw [Int.add_comm, Int.add_mul_ediv_right _ _ (by omega), Int.ediv_eq_zero_of_lt c1.1 c1.2]; omega
      have e2 : (y * 8 ^ b.length + code b) / 8 ^ b.length = y := by
        rw [Int.add_comm, Int.add_mul_ediv_right _ _ (by omega), Int.ediv_eq_zero_of_lt c2.1 c2.2]; omega
      rw [he, e2] at e1
      exact e1.symm
    subst hxy
    rw [code_inj hl ha' hb' (by omega)]
def tot {α : Type} (f : α → Nat) : List α → Nat
  | [] => 0
  | x :: l => f x + tot f l
theorem tot_append {α : Type} (f : α → Nat) : ∀ a b : List α, tot f (a ++ b) = tot f a + tot f b
  | [], b => by simp [tot]
  | x :: a, b => by simp only [List.cons_append, tot, tot_append f a b]; omega
theorem tot_congr {α : Type} {f g : α → Nat} : ∀ {a : List α}, (∀ x ∈ a, f x = g x) → tot f a = tot g a
  | [], _ => rfl
  | x :: a, h => by simp only [tot]; rw [h x (by simp), tot_congr fun y hy => h y (by simp [hy])]
theorem tot_zero {α : Type} {f : α → Nat} {a : List α} (h : ∀ x ∈ a, f x = 0) : tot f a = 0 := by
  induction a with
  | nil => rfl
  | cons x a ih => simp only [tot]; rw [h x (by simp), ih fun y hy => h y (by simp [hy])]
theorem tot_pos {α : Type} {f : α → Nat} {a : List α} : 0 < tot f a ↔ ∃ x ∈ a, 0 < f x := by
  induction a with
  | nil => simp [tot]
  | cons x a ih =>
    simp only [tot, List.mem_cons, exists_eq_or_imp, ← ih]
    omega
theorem tot_add {α : Type} (f g : α → Nat) : ∀ a : List α, tot (fun x => f x + g x) a = tot f a + tot g a
  | [] => rfl
  | x :: a => by simp only [tot, tot_add f g a]; omega
theorem tot_range_eq {f : Nat → Nat} {n i : Nat} (hi : i < n) (h : ∀ j, j < n → j ≠ i → f j = 0) : tot f (List.range n) = f i := by
  induction n with
  | zero => omega
  | succ n ih =>
    rw [List.range_succ, tot_append]
    simp only [tot]
    by_cases e : i = n
    · subst e
      rw [tot_zero fun j hj => h j (by have := List.mem_range.1 hj; omega) (by have := List.mem_range.1 hj; omega)]
      omega
    · rw [ih (by omega) fun j hj hji => h j (by omega) hji, h n (by omega) (by omega)]
      omega
def lineB (l : List Tile) (c : Nat) : Bool := l.any fun t => decide (tN t = (c : Int)) || decide (tS t = (c : Int))
def lineL (l : List Tile) : List Int := ((List.range 8).filter (lineB l)).map fun c : Nat => (c : Int)
theorem mem_line {l : List Tile} (hl : ∀ t ∈ l, colsB t = true) {t : Tile} (ht : t ∈ l) : tN t ∈ lineL l ∧ tS t ∈ lineL l := by
  have hr := cols_range (hl t ht)
  simp only [lineL, List.mem_map, List.mem_filter, List.mem_range, lineB, List.any_eq_true, Bool.or_eq_true, decide_eq_true_eq]
  exact ⟨⟨(tN t).toNat, ⟨by omega, t, ht, .inl (by omega)⟩, by omega⟩, ⟨(tS t).toNat, ⟨by omega, t, ht, .inr (by omega)⟩, by omega⟩⟩
def endE (l : List Tile) (r : List Nat) : Nat := (tE (tl l (r.getLastD 0))).toNat
theorem line_range {l : List Tile} {c : Int} (h : c ∈ lineL l) : 0 ≤ c ∧ c ≤ 7 := by
  simp only [lineL, List.mem_map, List.mem_filter, List.mem_range] at h
  obtain ⟨n, ⟨hn, _⟩, rfl⟩ := h
  omega
theorem row_line {l : List Tile} (hs : IsSet l) {w : Nat} {r : List Nat} (hr : r ∈ rowsL l w) : r.length = w ∧ (∀ c ∈ norths l r, c ∈ lineL l) ∧ (∀ c ∈ souths l r, c ∈ lineL l) ∧ endE l r < 8 := by
  obtain ⟨h1, h2, _⟩ := mem_rowsL.1 hr
  have hm : ∀ i ∈ r, tl l i ∈ l := fun i hi => by unfold tl; exact getD_mem (h2 i hi)
  refine ⟨h1, fun c hc => ?_, fun c hc => ?_, ?_⟩
  · simp only [norths, List.mem_map] at hc
    obtain ⟨i, hi, rfl⟩ := hc
    exact (mem_line hs.cols (hm i hi)).1
  · simp only [souths, List.mem_map] at hc
    obtain ⟨i, hi, rfl⟩ := hc
    exact (mem_line hs.cols (hm i hi)).2
  · unfold endE
    have hlt : r.getLastD 0 < l.length := by
      by_cases h0 : r = []
      · rw [h0]; have := hs.pos; simp; omega
      · refine h2 _ ?_
        rw [List.getLastD_eq_getLast?, List.getLast?_eq_some_getLast h0]
        exact List.getLast_mem h0
    have := cols_range (hs.cols (tl l (r.getLastD 0)) (by unfold tl; exact getD_mem hlt))
    omega
theorem tot_swap {α : Type} {N : Nat} {f : α → Int} {g : α → Nat → Nat} : ∀ {L : List α}, (∀ x ∈ L, 0 ≤ f x ∧ f x < N) → tot (fun c : Nat => tot (fun x => if f x = (c : Int) then g x c else 0) L) (List.range N) = tot (fun x => g x (f x).toNat) L
  | [], _ => tot_zero fun _ _ => rfl
  | x :: L, h => by
    simp only [tot]
    rw [tot_add, tot_swap fun y hy => h y (by simp [hy])]
    congr 1
    have hx := h x (by simp)
    rw [tot_range_eq (i := (f x).toNat) (by omega) fun j _ hji => if_neg (by omega), if_pos (by omega)]
def capI (n : Nat) : Int := min (n : Int) 1099511627777
theorem capI_add (a b : Nat) : min (capI a + capI b) 1099511627777 = capI (a + b) := by unfold capI; omega
theorem stepF_exact {L : List Line} {N : Nat} (hL : LnOk N L) {fr : List Int} {F : Int → Nat} (hf : fr.length = N) (hF : ∀ c : Nat, c < N → fr.getD c 0 = capI (F c)) :
    ∀ (M : List Line) (nx : List Int) (G : Nat → Nat), (∀ x ∈ M, x ∈ L) → nx.length = N → (∀ c, c < N → nx.getD c 0 = capI (G c)) →
      ∀ c, c < N → (M.foldl (stepF fr) nx).getD c 0 = capI (G c + tot (fun x => if x.2.2.1 = (c : Int) then F x.2.1 else 0) M)
  | [], nx, G, _, hn, hG, c, hc => by simp only [List.foldl_nil, tot, Nat.add_zero]; exact hG c hc
  | x :: M, nx, G, hM, hn, hG, c, hc => by
    obtain ⟨⟨x1, x2⟩, x3, x4⟩ := hL x (hM x (by simp))
    rw [List.foldl_cons]
    have hstep : ∀ c, c < N → (stepF fr nx x).getD c 0 = capI (G c + if x.2.2.1 = (c : Int) then F x.2.1 else 0) := fun c hc => by
      unfold stepF
      by_cases e : x.2.2.1.toNat = c
      · subst e
        rw [List.getD_eq_getElem?_getD, List.getElem?_set_self (by omega), Option.getD_some, hG _ hc, hF _ (by omega), if_pos (by omega)]
        have : ((x.2.1.toNat : Nat) : Int) = x.2.1 := by omega
        rw [this, capI_add]
      · rw [List.getD_eq_getElem?_getD, List.getElem?_set_ne e, ← List.getD_eq_getElem?_getD, hG c hc, if_neg (by omega), Nat.add_zero]
    have := stepF_exact hL hf hF M (stepF fr nx x) (fun c => G c + if x.2.2.1 = (c : Int) then F x.2.1 else 0) (fun y hy => hM y (by simp [hy])) (by simp [stepF, hn]) hstep c hc
    rw [this]
    simp only [tot]
    congr 1
    omega
/-- In how many ways k rows lead from a to c. -/
def Pt {α : Type} (C : List α) (f g : α → Int) (a : Int) : Nat → Int → Nat
  | 0, c => if a = c then 1 else 0
  | k + 1, c => tot (fun x => if g x = c then Pt C f g a k (f x) else 0) C
/-- Ways round, by their last row. -/
def roundN {α : Type} (C : List α) (f g : α → Int) (h : Nat) : Nat := tot (fun x => Pt C f g (g x) (h - 1) (f x)) C
theorem round_sum {α : Type} {N h : Nat} {C : List α} {f g : α → Int} (hg : ∀ x ∈ C, 0 ≤ g x ∧ g x < N) (hh : 0 < h) : tot (fun a : Nat => Pt C f g (a : Int) h (a : Int)) (List.range N) = roundN C f g h := by
  obtain ⟨m, rfl⟩ : ∃ m, h = m + 1 := ⟨h - 1, by omega⟩
  have e : tot (fun a : Nat => Pt C f g (a : Int) (m + 1) (a : Int)) (List.range N) = tot (fun a : Nat => tot (fun x => if g x = (a : Int) then Pt C f g (a : Int) m (f x) else 0) C) (List.range N) := rfl
  rw [e, tot_swap (f := g) (g := fun x c => Pt C f g (c : Int) m (f x)) hg]
  refine tot_congr fun x hx => ?_
  have := hg x hx
  rw [show (((g x).toNat : Nat) : Int) = g x by omega, Nat.add_sub_cancel]
theorem pt_south {α : Type} {C : List α} {f g : α → Int} {a c : Int} {k : Nat} (h : ∀ x ∈ C, g x ≠ c) : Pt C f g a (k + 1) c = 0 := by
  unfold Pt
  exact tot_zero fun x hx => if_neg (h x hx)
theorem pt_north {α : Type} {C : List α} {f g : α → Int} {a : Int} (h : ∀ x ∈ C, f x ≠ a) : ∀ (k : Nat) (c : Int), Pt C f g a (k + 1) c = 0
  | 0, c => by
    unfold Pt
    refine tot_zero fun x hx => ?_
    split
    · exact if_neg fun e => h x hx e.symm
    · rfl
  | k + 1, c => by
    rw [Pt]
    refine tot_zero fun x hx => ?_
    split
    · exact pt_north h k _
    · rfl
def unitL (N : Nat) (a : Nat) : List Int := (List.replicate N 0).set a 1
abbrev lnN (x : Line) : Int := x.2.1
abbrev lnSo (x : Line) : Int := x.2.2.1
theorem unit_len (N a : Nat) : (unitL N a).length = N := by simp [unitL]
theorem unit_rng (N a : Nat) : Rng (unitL N a) := fun x hx => by
  rcases List.mem_or_eq_of_mem_set hx with h | h
  · rw [List.eq_of_mem_replicate h]; decide
  · rw [h]; decide
theorem steps_from {L : List Line} {N a : Nat} (hL : LnOk N L) : ∀ k, (stepsL L (unitL N a) k).length = N ∧ ∀ c : Nat, c < N → (stepsL L (unitL N a) k).getD c 0 = capI (Pt L lnN lnSo (a : Int) k (c : Int))
  | 0 => ⟨by simp [stepsL, unit_len], fun c hc => by
    rw [stepsL, unitL, Pt]
    by_cases e : a = c
    · subst e
      rw [List.getD_eq_getElem?_getD, List.getElem?_set_self (by simpa using hc), if_pos rfl]; rfl
    · rw [List.getD_eq_getElem?_getD, List.getElem?_set_ne e, List.getElem?_replicate, if_pos hc, if_neg (by omega)]; rfl⟩
  | k + 1 => by
    obtain ⟨h1, h2⟩ := steps_from (a := a) hL k
    have hl : (stepsL L (unitL N a) (k + 1)).length = N := by
      have := (steps_rng (L := L) (unit_rng N a) (k + 1)).2
      rw [unit_len] at this
      exact this
    refine ⟨hl, fun c hc => ?_⟩
    have := stepF_exact hL h1 h2 L (List.replicate N 0) (fun _ => 0) (fun x hx => hx) (by simp) (fun c hc => by rw [getD_lt _ _ _ (by simpa using hc), List.getElem_replicate]; rfl) c hc
    rw [stepsL, stepL, h1, this, Nat.zero_add]
    rfl
/-- Of all lines, those that close. -/
def closedL (L : List Line) : List Line := L.filter fun x => x.2.2.2
def southL (N : Nat) (C : List Line) : List Bool := C.foldl (fun s x => s.set (lnSo x).toNat true) (List.replicate N false)
theorem south_at {N : Nat} {C : List Line} (hC : LnOk N C) {c : Nat} (hc : c < N) : (southL N C).length = N ∧ ((southL N C).getD c false = true ↔ ∃ x ∈ C, lnSo x = (c : Int)) := by
  have key : ∀ (M : List Line) (s : List Bool), (∀ x ∈ M, x ∈ C) → s.length = N → (M.foldl (fun s x => s.set (lnSo x).toNat true) s).length = N ∧ ((M.foldl (fun s x => s.set (lnSo x).toNat true) s).getD c false = true ↔ s.getD c false = true ∨ ∃ x ∈ M, lnSo x = (c : Int)) := by
    intro M
    induction M with
    | nil => intro s _ hs; simp [hs]
    | cons x M ih =>
      intro s hM hs
      rw [List.foldl_cons]
      obtain ⟨h1, h2⟩ := ih (s.set (lnSo x).toNat true) (fun y hy => hM y (by simp [hy])) (by simpa using hs)
      refine ⟨h1, h2.trans ?_⟩
      have hx := (hC x (hM x (by simp))).2
      have e : (s.set (lnSo x).toNat true).getD c false = true ↔ s.getD c false = true ∨ lnSo x = (c : Int) := by
        by_cases e : (lnSo x).toNat = c
        · subst e
          rw [List.getD_eq_getElem?_getD, List.getElem?_set_self (by omega)]
          simp only [Option.getD_some, true_iff]
          right; show x.2.2.1 = ((x.2.2.1.toNat : Nat) : Int); omega
        · rw [List.getD_eq_getElem?_getD, List.getElem?_set_ne e, ← List.getD_eq_getElem?_getD]
          refine ⟨.inl, fun h => h.resolve_right fun h => e ?_⟩
          show x.2.2.1.toNat = c
          have : x.2.2.1 = (c : Int) := h
          omega
      rw [e]
      simp only [List.mem_cons, exists_eq_or_imp, or_assoc]
  obtain ⟨h1, h2⟩ := key C (List.replicate N false) (fun x hx => hx) (by simp)
  refine ⟨h1, h2.trans ⟨fun h => h.resolve_left (by rw [List.getD_eq_getElem?_getD, List.getElem?_replicate, if_pos hc]; simp), .inr⟩⟩
def closeF (N h : Nat) (C : List Line) (s : Int × List Bool) (x : Line) : Int × List Bool :=
  if s.2.getD (lnN x).toNat false = true ∨ (southL N C).getD (lnN x).toNat false = false then s
  else (min (s.1 + (stepsL C (unitL N (lnN x).toNat) h).getD (lnN x).toNat 0) 1099511627777, s.2.set (lnN x).toNat true)
/-- What the program counts. -/
def closedS (N h : Nat) (C : List Line) : Int × List Bool := C.foldl (closeF N h C) (0, List.replicate N false)
theorem tot_update {N i : Nat} {F G G' : Nat → Nat} (hi : i < N) (h1 : G i = 0) (h2 : G' i = F i) (h3 : ∀ j, j ≠ i → G' j = G j) : tot G' (List.range N) = tot G (List.range N) + F i := by
  have e : tot G' (List.range N) = tot (fun j => G j + if j = i then F i else 0) (List.range N) := tot_congr fun j _ => by
    by_cases e : j = i
    · subst e; rw [h2, h1, if_pos rfl, Nat.zero_add]
    · rw [h3 j e, if_neg e, Nat.add_zero]
  rw [e, tot_add, tot_range_eq (i := i) hi fun j _ hj => if_neg hj, if_pos rfl]
theorem closeF_exact {N h : Nat} {C : List Line} (hC : LnOk N C) : ∀ (M : List Line) (s : Int × List Bool), (∀ x ∈ M, x ∈ C) → s.2.length = N → s.1 = capI (tot (fun a : Nat => if s.2.getD a false = true then Pt C lnN lnSo (a : Int) h (a : Int) else 0) (List.range N)) →
    (M.foldl (closeF N h C) s).2.length = N ∧ (M.foldl (closeF N h C) s).1 = capI (tot (fun a : Nat => if (M.foldl (closeF N h C) s).2.getD a false = true then Pt C lnN lnSo (a : Int) h (a : Int) else 0) (List.range N)) ∧
    ∀ a, a < N → ((M.foldl (closeF N h C) s).2.getD a false = true ↔ s.2.getD a false = true ∨ ((∃ x ∈ M, lnN x = (a : Int)) ∧ (southL N C).getD a false = true))
  | [], s, _, hl, hs => ⟨hl, hs, fun a _ => by simp⟩
  | x :: M, s, hM, hl, hs => by
    have hx := (hC x (hM x (by simp))).1
    have hxc : (((lnN x).toNat : Nat) : Int) = lnN x := by show ((x.2.1.toNat : Nat) : Int) = x.2.1; omega
    have hlt : (lnN x).toNat < N := by show x.2.1.toNat < N; omega
    rw [List.foldl_cons]
    by_cases hc : s.2.getD (lnN x).toNat false = true ∨ (southL N C).getD (lnN x).toNat false = false
    · have e : closeF N h C s x = s := if_pos hc
      rw [e]
      obtain ⟨h1, h2, h3⟩ := closeF_exact hC M s (fun y hy => hM y (by simp [hy])) hl hs
      refine ⟨h1, h2, fun a ha => (h3 a ha).trans ?_⟩
      simp only [List.mem_cons, exists_eq_or_imp]
      constructor
      · rintro (h4 | ⟨h4, h5⟩)
        · exact .inl h4
        · exact .inr ⟨.inr h4, h5⟩
      · rintro (h4 | ⟨h4 | h4, h5⟩)
        · exact .inl h4
        · have e2 : (lnN x).toNat = a := by omega
          rw [e2] at hc
          rcases hc with h6 | h6
          · exact .inl h6
          · rw [h6] at h5; cases h5
        · exact .inr ⟨h4, h5⟩
    · have e : closeF N h C s x = (min (s.1 + (stepsL C (unitL N (lnN x).toNat) h).getD (lnN x).toNat 0) 1099511627777, s.2.set (lnN x).toNat true) := if_neg hc
      have hd : s.2.getD (lnN x).toNat false = false := by
        cases hh : s.2.getD (lnN x).toNat false with
        | false => rfl
        | true => exact absurd (.inl hh) hc
      have hso : (southL N C).getD (lnN x).toNat false = true := by
        cases hh : (southL N C).getD (lnN x).toNat false with
        | true => rfl
        | false => exact absurd (.inr hh) hc
      have hset : ∀ a, a ≠ (lnN x).toNat → (s.2.set (lnN x).toNat true).getD a false = s.2.getD a false := fun a ha => by
        rw [List.getD_eq_getElem?_getD, List.getElem?_set_ne (Ne.symm ha), ← List.getD_eq_getElem?_getD]
      have hself : (s.2.set (lnN x).toNat true).getD (lnN x).toNat false = true := by
        rw [List.getD_eq_getElem?_getD, List.getElem?_set_self (by omega)]; rfl
      rw [e]
      obtain ⟨h1, h2, h3⟩ := closeF_exact (h := h) hC M (min (s.1 + (stepsL C (unitL N (lnN x).toNat) h).getD (lnN x).toNat 0) 1099511627777, s.2.set (lnN x).toNat true) (fun y hy => hM y (by simp [hy])) (by simpa using hl) (by
        dsimp only
        rw [hs, (steps_from hC h).2 _ hlt, capI_add]
        congr 1
        symm
        refine tot_update (F := fun a : Nat => Pt C lnN lnSo (a : Int) h (a : Int)) hlt ?_ ?_ fun j hj => ?_
        · rw [if_neg (by rw [hd]; decide)]
        · rw [if_pos hself]
        · rw [hset j hj])
      refine ⟨h1, h2, fun a ha => (h3 a ha).trans ?_⟩
      simp only [List.mem_cons, exists_eq_or_imp]
      by_cases ea : a = (lnN x).toNat
      · subst ea
        rw [hself]
        simp only [true_or, true_iff]
        exact .inr ⟨.inl (by omega), hso⟩
      · rw [hset a ea]
        constructor
        · rintro (h4 | ⟨h4, h5⟩)
          · exact .inl h4
          · exact .inr ⟨.inr h4, h5⟩
        · rintro (h4 | ⟨h4 | h4, h5⟩)
          · exact .inl h4
          · exact absurd (by omega) ea
          · exact .inr ⟨h4, h5⟩
/-- What closed counts. -/
theorem closed_exact {N h : Nat} {C : List Line} (hC : LnOk N C) (hh : 0 < h) : (closedS N h C).1 = capI (roundN C lnN lnSo h) := by
  obtain ⟨m, rfl⟩ : ∃ m, h = m + 1 := ⟨h - 1, by omega⟩
  have hf : ∀ a, (List.replicate N false).getD a false = false := fun a => by
    rw [List.getD_eq_getElem?_getD, List.getElem?_replicate]
    split <;> rfl
  obtain ⟨h1, h2, h3⟩ := closeF_exact (h := m + 1) hC C (0, List.replicate N false) (fun x hx => hx) (by simp) (by
    rw [tot_zero fun a _ => by rw [hf]; rfl]; rfl)
  rw [closedS, h2, ← round_sum (N := N) (fun x hx => (hC x hx).2) hh]
  congr 1
  refine tot_congr fun a ha => ?_
  have hal := List.mem_range.1 ha
  have h4 := h3 a hal
  by_cases hd : (C.foldl (closeF N (m + 1) C) (0, List.replicate N false)).2.getD a false = true
  · rw [if_pos hd]
  · rw [if_neg hd]
    symm
    by_cases hn : ∃ x ∈ C, lnN x = (a : Int)
    · refine pt_south fun x hx e => hd (h4.2 (.inr ⟨hn, ((south_at hC hal).2).2 ⟨x, hx, e⟩⟩))
    · exact pt_north (fun x hx e => hn ⟨x, hx, e⟩) m _
theorem souths_at {l : List Tile} {r : List Nat} {x : Nat} (hx : x < r.length) : (souths l r).getD x 0 = tS (tl l (r.getD x 0)) := by
  rw [getD_lt _ _ _ (by simpa [souths] using hx), getD_lt _ _ _ hx]; simp [souths]
theorem norths_at {l : List Tile} {r : List Nat} {x : Nat} (hx : x < r.length) : (norths l r).getD x 0 = tN (tl l (r.getD x 0)) := by
  rw [getD_lt _ _ _ (by simpa [norths] using hx), getD_lt _ _ _ hx]; simp [norths]
theorem code_match {l : List Tile} (hs : IsSet l) {w : Nat} {r q : List Nat} (hr : r ∈ rowsL l w) (hq : q ∈ rowsL l w) : code (souths l r) = code (norths l q) ↔ ∀ x, x < w → tS (tl l (r.getD x 0)) = tN (tl l (q.getD x 0)) := by
  obtain ⟨r1, _, r3, _⟩ := row_line hs hr
  obtain ⟨q1, q2, _, _⟩ := row_line hs hq
  have hl : (souths l r).length = (norths l q).length := by simp [souths, norths]; omega
  constructor
  · intro h x hx
    have := code_inj hl (fun c hc => line_range (r3 c hc)) (fun c hc => line_range (q2 c hc)) h
    rw [← souths_at (by omega), ← norths_at (by omega), this]
  · intro h
    have : souths l r = norths l q := by
      refine List.ext_getElem hl fun x h1 h2 => ?_
      have hx : x < w := by simp [souths] at h1; omega
      have := h x hx
      rw [← souths_at (by omega), ← norths_at (by omega), getD_lt _ _ _ h1, getD_lt _ _ _ h2] at this
      exact this
    rw [this]
theorem tot_comm {α β : Type} (F : α → β → Nat) : ∀ (A : List α) (B : List β), tot (fun x => tot (fun y => F x y) B) A = tot (fun y => tot (fun x => F x y) A) B
  | [], B => by simp only [tot]; exact (tot_zero fun _ _ => rfl).symm
  | x :: A, B => by simp only [tot]; rw [tot_comm F A B, tot_add]
theorem pt_first {α : Type} {C : List α} {f g : α → Int} {a : Int} : ∀ (k : Nat) (c : Int), Pt C f g a (k + 1) c = tot (fun x => if f x = a then Pt C f g (g x) k c else 0) C
  | 0, c => by
    unfold Pt
    refine tot_congr fun x _ => ?_
    by_cases h1 : g x = c
    · by_cases h2 : f x = a
      · rw [if_pos h1, if_pos h2]
        unfold Pt
        rw [if_pos h2.symm, if_pos h1]
      · rw [if_pos h1, if_neg h2]
        unfold Pt
        rw [if_neg fun e => h2 e.symm]
    · rw [if_neg h1]
      split
      · simp [Pt, h1]
      · rfl
  | k + 1, c => by
    have e1 : Pt C f g a (k + 2) c = tot (fun y => tot (fun x => if g y = c then (if f x = a then Pt C f g (g x) k (f y) else 0) else 0) C) C := by
      rw [Pt]
      refine tot_congr fun y _ => ?_
      by_cases h : g y = c
      · rw [if_pos h, pt_first k (f y)]
        refine tot_congr fun x _ => ?_
        rw [if_pos h]
      · rw [if_neg h]
        exact (tot_zero fun x _ => if_neg h).symm
    rw [e1, tot_comm]
    refine tot_congr fun x _ => ?_
    by_cases h : f x = a
    · rw [if_pos h, Pt]
      refine tot_congr fun y _ => ?_
      rw [if_pos h]
    · rw [if_neg h]
      refine tot_zero fun y _ => ?_
      rw [if_neg h]
      split <;> rfl
def walkP {α : Type} (f g : α → Int) : Int → List α → Int → Prop
  | a, [], c => a = c
  | a, x :: xs, c => f x = a ∧ walkP f g (g x) xs c
theorem walk_snoc {α : Type} {f g : α → Int} {x : α} : ∀ {a c : Int} {xs : List α}, walkP f g a xs (f x) → g x = c → walkP f g a (xs ++ [x]) c
  | a, c, [], h, hc => ⟨h.symm, hc⟩
  | a, c, y :: ys, h, hc => ⟨h.1, walk_snoc h.2 hc⟩
theorem pt_walk {α : Type} {C : List α} {f g : α → Int} {a : Int} : ∀ {k : Nat} {c : Int}, 0 < Pt C f g a k c → ∃ xs : List α, xs.length = k ∧ (∀ x ∈ xs, x ∈ C) ∧ walkP f g a xs c
  | 0, c, h => ⟨[], rfl, by simp, by unfold Pt at h; split at h; · assumption
                                     · omega⟩
  | k + 1, c, h => by
    unfold Pt at h
    obtain ⟨x, hx, h1⟩ := tot_pos.1 h
    split at h1
    · rename_i hc
      obtain ⟨xs, h2, h3, h4⟩ := pt_walk h1
      refine ⟨xs ++ [x], by simp [h2], fun y hy => ?_, walk_snoc h4 hc⟩
      rcases List.mem_append.1 hy with h | h
      · exact h3 y h
      · simp at h; rw [h]; exact hx
    · omega
theorem walk_get {α : Type} {f g : α → Int} {d : α} : ∀ {a c : Int} {xs : List α}, walkP f g a xs c → 0 < xs.length → f (xs.getD 0 d) = a ∧ g (xs.getD (xs.length - 1) d) = c ∧ ∀ i, i + 1 < xs.length → g (xs.getD i d) = f (xs.getD (i + 1) d)
  | a, c, [x], h, _ => ⟨h.1, h.2, fun i hi => by simp at hi⟩
  | a, c, x :: y :: ys, h, _ => by
    obtain ⟨h1, h2, h3⟩ := walk_get (d := d) h.2 (by simp)
    refine ⟨h.1, by simpa using h2, fun i hi => ?_⟩
    cases i with
    | zero => exact h1.symm
    | succ i => exact h3 i (by simpa using hi)

end Go.Proofs.YtfmppkplmfbjpaaGreatDoor

/- Picked by pick.py. -/
namespace Go.Proofs.YtfmppkplmfbjpaaGreatDoor
open Go.Lf Go.RowKit Go.Wg

theorem chg_setCells {b : Nat} : ∀ (vs : List Value) (o : Nat) (w : World), Chg (fun k => k = b) w (w.setCells b o vs)
  | [], _, w => Chg.refl _ w
  | v :: vs, o, w => (Chg.setCell (S := fun k => k = b) w (p := ⟨b, o, none⟩) v rfl).trans (chg_setCells vs (o + 1) _)
set_option maxRecDepth 100000 in
/-- clear(s) -/
theorem r_clear {t e ty ty' : TypeId} {m b o n c : Nat} {z : Value} {cur : Array Value} {w : World} {K : Value → World → Prop} (ht : Tryz.prog.underlying t = some (.slice e)) (hv : ∀ w, (zeroValue e).run Tryz.prog w = .ok z w) (hz : z.cells.size = m)
    (h1 : ∀ u ∈ (Builtin.zeroCells z.cells n).toList, u.oneCell' = true) (hn : 0 < n) (hb : w.heap[b]? = some (.cells cur ty' (0, 0))) (hfit : o + n * m ≤ cur.size)
    (hk : ∀ w', Chg (fun k => k = b) w w' → (∀ k, k < o → w'.cell? ⟨b, k, none⟩ = w.cell? ⟨b, k, none⟩) → K (.tuple #[]) w') : semW Tryz.prog (clS [t] ty [.slice (some ⟨b, o, none⟩) n c]) w K := by
  have hl : (Builtin.zeroCells z.cells n).toList.length = n * m := by simp [Builtin.zeroCells, hz]
  generalize hvs : (Builtin.zeroCells z.cells n).toList = vs at *
  have hst := run_storeCells_cells (P := Tryz.prog) b o vs 0 w (fun j hj => by rw [cell_row hb]; simp; omega) (fun j hj => frozen_row hb) h1
  simp only [Nat.add_zero] at hst
  obtain ⟨k, rfl⟩ : ∃ k, n = k + 1 := ⟨n - 1, by omega⟩
  refine semW_of_run (v := .tuple #[]) (w' := w.setCells b o vs) ?_ (hk _ (chg_setCells vs o w) fun k hk => World.cell?_setCells_out b vs o w _ fun _ _ => .inl hk)
  simp [clS, Builtin.clear_, run_underlying ht, hv, hvs, hst]
section
variable {α : Type} {m : Nat} {enc : α → List Value}
theorem recCells_put (he : ∀ x, (enc x).length = m) (x : α) : ∀ (P : List α) (q : Nat), q < P.length → recCells enc (P.set q x) = (recCells enc P).take (q * m) ++ enc x ++ (recCells enc P).drop (q * m + m)
  | p :: P, 0, _ => by
    simp only [recCells, List.flatMap_cons, List.set_cons_zero, Nat.zero_mul, Nat.zero_add, List.take_zero, List.nil_append]
    rw [List.drop_append_of_le_length (by rw [he]; exact Nat.le_refl _), List.drop_of_length_le (by rw [he]; exact Nat.le_refl _), List.nil_append]
  | p :: P, q + 1, h => by
    have ih := recCells_put he x P q (by simpa using h)
    simp only [recCells, List.flatMap_cons, List.set_cons_succ] at ih ⊢
    rw [ih, Nat.add_mul, Nat.one_mul, Nat.add_comm (q * m) m, ← he p, List.take_length_add_append, Nat.add_assoc, List.drop_length_add_append]
    simp only [List.append_assoc, Nat.add_comm (enc p).length]
/-- A store of a whole record. -/
theorem RecAt.putRec {e : TypeId} {base : Nat} {w : World} {v : Value} {P : List α} (he : ∀ x, (enc x).length = m) (h : RecAt e m enc base w v P) {q : Nat} (hq : q < P.length) (x : α) :
    ∃ g cap cur, v = .slice (some ⟨g, 0, none⟩) P.length cap ∧ base ≤ g ∧ w.heap[g]? = some (.cells cur e (0, 0)) ∧ q * m + m ≤ cur.size ∧
      ∀ w', w'.heap[g]? = some (.cells (cur.toList.take (q * m) ++ enc x ++ cur.toList.drop (q * m + m)).toArray e (0, 0)) → RecAt e m enc base w' v (P.set q x) := by
  obtain ⟨g, cap, cur, e1, hb, hg, hle, hm, hs, ht⟩ := h.blk (by omega)
  have h1 : q * m + m ≤ P.length * m := by
    have : (q + 1) * m ≤ P.length * m := Nat.mul_le_mul_right m hq
    rwa [Nat.add_mul, Nat.one_mul] at this
  have h2 : P.length * m ≤ cur.size := by rw [hs]; exact Nat.mul_le_mul_right m hle
  refine ⟨g, cap, cur, e1, hb, hg, by omega, fun w' hw' => ⟨by rw [recCells_length he], .inr ⟨g, cap, _, by rw [List.length_set]; exact e1, hb, hw', by rw [List.length_set]; exact hle, hm, ?_, ?_⟩⟩⟩
  · rw [← hs]
    have := he x
    simp
    omega
  · rw [recCells_put he x P q hq, ← ht, List.length_set, List.take_take, Nat.min_eq_left (by omega), List.drop_take]
    have hA : (cur.toList.take (q * m) ++ enc x).length = q * m + m := by
      rw [List.length_append, List.length_take, he]
      have : cur.toList.length = cur.size := by simp
      omega
    show (cur.toList.take (q * m) ++ enc x ++ cur.toList.drop (q * m + m)).take (P.length * m) = _
    rw [List.take_append, hA, List.take_of_length_le (by rw [hA]; exact h1)]
end
set_option maxRecDepth 100000 in
/-- slices.IndexFunc at lines: the first. -/
theorem indexFst_calls {v fv : Value} {L : List Line} (p : Line → Bool) (w : World) (hr : RdL w v L) (hl : L.length ≤ 1000000)
    (hc : ∀ x ∈ L, ∀ (w' : World) (K : Value → World → Prop), Kp w w' → (∀ w'', Kp w' w'' → K (.bool (p x)) w'') → callW Tryz.prog fv [lnV x] w' K) :
    Calls Tryz.prog 61 #[v, fv] w fun e w' => Kp w w' ∧ (((∀ x ∈ L, p x = false) ∧ e = .returned (.int .i64 (-1))) ∨ ∃ (i : Nat) (x : Line), L[i]? = some x ∧ p x = true ∧ (∀ y ∈ L.take i, p y = false) ∧ e = .returned (.int .i64 i)) := by
  have hr' := hr
  obtain ⟨a, cap, rfl, hcap⟩ := hr.len
  refine lift61 ?_
  unfold S61
  simp only [r_ln]
  unfold S61L0
  refine ⟨fun t8 wr => ∃ i : Nat, i ≤ L.length ∧ t8 = .int .i64 i ∧ (∀ x ∈ L.take i, p x = false) ∧ Kp w wr, fun t8 _ => L.length - (intOf t8).toNat, ⟨0, by omega, rfl, by simp, Kp.refl _⟩, ?_⟩
  rintro _ _ wr ⟨i, hi, rfl, hn, kr⟩
  by_cases hlt : i < L.length
  case neg =>
    have hlt' : ¬ (i : Int) < (L.length : Int) := by omega
    rw [List.take_of_length_le (by omega)] at hn
    simp (disch := omega) only [r_ln, r_pick, r_pickT, r_pickF, r_condT, r_condF, r_gdTT, r_gdFF, r_gdTF, r_gdFT, r_gqTT, r_gqFF, r_gqTF, r_gqFT, r_not, r_lss, r_leq, r_gtr, r_geq, r_eql, r_neq, r_add, r_sub, r_min2, r_max2, r_min3, r_max3, r_fa, r_iaS, r_iaA, r_ex2a, r_ex2b, r_ex3a, r_ex3b, r_ex3c, r_nc, r_keepE, Nat.zero_add, Nat.add_zero, Nat.mul_one, Int.toNat_natCast, toNat_sub1, toNat_add1, decide_true, decide_false, Bool.not_true, Bool.not_false, if_true, if_false, Bool.false_eq_true, reduceCtorEq, hlt']
    exact ⟨kr, .inl ⟨hn, by first | rfl | trivial⟩⟩
  have hlt' : (i : Int) < (L.length : Int) := by omega
  obtain ⟨x, hx⟩ : ∃ x, L[i]? = some x := ⟨_, List.getElem?_eq_getElem hlt⟩
  obtain ⟨b, off, _, e, _, hld⟩ := RdL.line (hr'.kp kr) hx
  cases e
  have hii : (i : Int).toNat = i := by omega
  simp (disch := omega) only [r_ln, r_pick, r_pickT, r_pickF, r_condT, r_condF, r_gdTT, r_gdFF, r_gdTF, r_gdFT, r_gqTT, r_gqFF, r_gqTF, r_gqFT, r_not, r_lss, r_leq, r_gtr, r_geq, r_eql, r_neq, r_add, r_sub, r_min2, r_max2, r_min3, r_max3, r_fa, r_iaS, r_iaA, r_ex2a, r_ex2b, r_ex3a, r_ex3b, r_ex3c, r_nc, r_keepE, Nat.zero_add, Nat.add_zero, Nat.mul_one, Int.toNat_natCast, toNat_sub1, toNat_add1, decide_true, decide_false, Bool.not_true, Bool.not_false, if_true, if_false, Bool.false_eq_true, reduceCtorEq, decide_eq_true hlt', hii, hld]
  refine hc x (List.mem_of_getElem? hx) wr _ kr fun w2 k2 => ?_
  cases hp : p x with
  | true =>
    simp (disch := omega) only [r_ln, r_pick, r_pickT, r_pickF, r_condT, r_condF, r_gdTT, r_gdFF, r_gdTF, r_gdFT, r_gqTT, r_gqFF, r_gqTF, r_gqFT, r_not, r_lss, r_leq, r_gtr, r_geq, r_eql, r_neq, r_add, r_sub, r_min2, r_max2, r_min3, r_max3, r_fa, r_iaS, r_iaA, r_ex2a, r_ex2b, r_ex3a, r_ex3b, r_ex3c, r_nc, r_keepE, Nat.zero_add, Nat.add_zero, Nat.mul_one, Int.toNat_natCast, toNat_sub1, toNat_add1, decide_true, decide_false, Bool.not_true, Bool.not_false, if_true, if_false, Bool.false_eq_true, reduceCtorEq]
    exact ⟨Kp.trans kr k2, .inr ⟨i, x, hx, hp, hn, by first | rfl | trivial⟩⟩
  | false =>
    simp (disch := omega) only [r_ln, r_pick, r_pickT, r_pickF, r_condT, r_condF, r_gdTT, r_gdFF, r_gdTF, r_gdFT, r_gqTT, r_gqFF, r_gqTF, r_gqFT, r_not, r_lss, r_leq, r_gtr, r_geq, r_eql, r_neq, r_add, r_sub, r_min2, r_max2, r_min3, r_max3, r_fa, r_iaS, r_iaA, r_ex2a, r_ex2b, r_ex3a, r_ex3b, r_ex3c, r_nc, r_keepE, Nat.zero_add, Nat.add_zero, Nat.mul_one, Int.toNat_natCast, toNat_sub1, toNat_add1, decide_true, decide_false, Bool.not_true, Bool.not_false, if_true, if_false, Bool.false_eq_true, reduceCtorEq]
    refine ⟨⟨i + 1, by omega, by go_num, fun y hy => ?_, Kp.trans kr k2⟩, by simp only [intOf]; omega⟩
    rw [List.take_add_one, hx] at hy
    rcases List.mem_append.1 hy with h | h
    · exact hn y h
    · simp at h
      rw [h]; exact hp
set_option maxRecDepth 100000 in
theorem open_call (x : Line) (w : World) (K : Value → World → Prop) (hK : ∀ w', Kp w w' → K (.bool (!x.2.2.2)) w') : callW Tryz.prog (.func (.func 34) #[] #[]) [lnV x] w K := by
  have hc : Calls Tryz.prog 34 #[lnV x] w fun r w' => r = .returned (.bool (!x.2.2.2)) ∧ Kp w w' := by
    refine lift34 ?_
    unfold S34
    refine r_box fun b w1 e1 s1 h1 k1 => ?_
    have c6 : w1.cell? ⟨b, 6, none⟩ = some (.bool x.2.2.2) := by rw [cell_row h1]; rfl
    simp (disch := omega) only [r_ln, r_pick, r_pickT, r_pickF, r_condT, r_condF, r_gdTT, r_gdFF, r_gdTF, r_gdFT, r_gqTT, r_gqFF, r_gqTF, r_gqFT, r_not, r_lss, r_leq, r_gtr, r_geq, r_eql, r_neq, r_add, r_sub, r_min2, r_max2, r_min3, r_max3, r_fa, r_iaS, r_iaA, r_ex2a, r_ex2b, r_ex3a, r_ex3b, r_ex3c, r_nc, r_keepE, Nat.zero_add, Nat.add_zero, Nat.mul_one, Int.toNat_natCast, toNat_sub1, toNat_add1, decide_true, decide_false, Bool.not_true, Bool.not_false, if_true, if_false, Bool.false_eq_true, reduceCtorEq, r_ld c6]
    exact ⟨by first | rfl | trivial, k1⟩
  refine r_use fok34 hc rfl ?_
  rintro _ w2 ⟨rfl, k2⟩
  exact ⟨_, rfl, hK w2 k2⟩
theorem zero78 (w : World) : (zeroValue 89).run Tryz.prog w = .ok (lnV ([0, 0, 0, 0], 0, 0, false)) w := by kernel_rfl
theorem zero78_one (n : Nat) : ∀ u ∈ (Builtin.zeroCells (lnV ([0, 0, 0, 0], 0, 0, false)).cells n).toList, u.oneCell' = true := by
  intro u hu
  simp only [Builtin.zeroCells, Array.toList_map, List.mem_map] at hu
  obtain ⟨i, _, rfl⟩ := hu
  have h7 : i % (lnV ([0, 0, 0, 0], 0, 0, false)).cells.size < 7 := Nat.mod_lt _ (by decide)
  generalize i % (lnV ([0, 0, 0, 0], 0, 0, false)).cells.size = k at *
  have : k = 0 ∨ k = 1 ∨ k = 2 ∨ k = 3 ∨ k = 4 ∨ k = 5 ∨ k = 6 := by omega
  rcases this with rfl | rfl | rfl | rfl | rfl | rfl | rfl <;> rfl
set_option maxRecDepth 100000 in
set_option maxHeartbeats 1000000 in
/-- slices.DeleteFunc: the lines that close stay. -/
theorem delete_calls {v : Value} {L : List Line} (w0 w : World) (h : LnAt w0.heap.size w v L) (hk : Kp w0 w) (hl : L.length ≤ 1000000) :
    Calls Tryz.prog 33 #[v, .func (.func 34) #[] #[]] w fun e w' => ∃ v', e = .returned v' ∧ Kp w0 w' ∧ RdL w' v' (closedL L) := by
  refine lift33 ?_
  unfold S33
  refine r_use fok61 (indexFst_calls (fun x : Line => !x.2.2.2) w (h.rd lnC_len) hl fun x _ w' K _ hK => open_call x w' K hK) rfl ?_
  rintro e w1 ⟨k1, h1⟩
  rcases h1 with ⟨hall, rfl⟩ | ⟨i, x, hx, hpx, hn, rfl⟩
  · refine ⟨_, rfl, ?_⟩
    simp (disch := omega) only [r_ln, r_pick, r_pickT, r_pickF, r_condT, r_condF, r_gdTT, r_gdFF, r_gdTF, r_gdFT, r_gqTT, r_gqFF, r_gqTF, r_gqFT, r_not, r_lss, r_leq, r_gtr, r_geq, r_eql, r_neq, r_add, r_sub, r_min2, r_max2, r_min3, r_max3, r_fa, r_iaS, r_iaA, r_ex2a, r_ex2b, r_ex3a, r_ex3b, r_ex3c, r_nc, r_keepE, Nat.zero_add, Nat.add_zero, Nat.mul_one, Int.toNat_natCast, toNat_sub1, toNat_add1, decide_true, decide_false, Bool.not_true, Bool.not_false, if_true, if_false, Bool.false_eq_true, reduceCtorEq]
    refine ⟨_, rfl, Kp.trans hk k1, ?_⟩
    have e : closedL L = L := List.filter_eq_self.2 fun x hx => by have := hall x hx; simpa using this
    rw [e]
    exact (h.kp k1).rd lnC_len
  refine ⟨_, rfl, ?_⟩
  have hil : i < L.length := (List.getElem?_eq_some_iff.1 hx).1
  have hm1 : ¬ (i : Int) = -1 := by omega
  simp (disch := omega) only [r_ln, r_pick, r_pickT, r_pickF, r_condT, r_condF, r_gdTT, r_gdFF, r_gdTF, r_gdFT, r_gqTT, r_gqFF, r_gqTF, r_gqFT, r_not, r_lss, r_leq, r_gtr, r_geq, r_eql, r_neq, r_add, r_sub, r_min2, r_max2, r_min3, r_max3, r_fa, r_iaS, r_iaA, r_ex2a, r_ex2b, r_ex3a, r_ex3b, r_ex3c, r_nc, r_keepE, Nat.zero_add, Nat.add_zero, Nat.mul_one, Int.toNat_natCast, toNat_sub1, toNat_add1, decide_true, decide_false, Bool.not_true, Bool.not_false, if_true, if_false, Bool.false_eq_true, reduceCtorEq, hm1]
  unfold S33L0
  have hLp : 0 < L.length := by omega
  obtain ⟨g, cap, cur0, ev, hbg, _, hcap, _⟩ := h.blk hLp
  subst ev
  refine ⟨fun t5 t6 wr => ∃ (j a : Nat) (X : List Line), t6 = .int .i64 j ∧ t5 = .int .i64 a ∧ j ≤ L.length ∧ a < j ∧ X.length = L.length ∧ X.take a = (L.take j).filter (fun x => x.2.2.2) ∧ X.drop j = L.drop j ∧ LnAt w0.heap.size wr (.slice (some ⟨g, 0, none⟩) L.length cap) X ∧ Kp w0 wr, fun _ t6 _ => L.length - (intOf t6).toNat,
    ⟨i + 1, i, L, by go_num, rfl, by omega, by omega, rfl, ?_, rfl, h.kp k1, Kp.trans hk k1⟩, ?_⟩
  · rw [List.take_add_one, hx, List.filter_append]
    have e1 : (L.take i).filter (fun x => x.2.2.2) = L.take i := List.filter_eq_self.2 fun y hy => by have := hn y hy; simpa using this
    have e2 : x.2.2.2 = false := by simpa using hpx
    rw [e1]
    simp [e2]
  rintro _ _ _ wr ⟨j, a, X, rfl, rfl, hj, haj, hXl, hXt, hXd, hX, kr⟩
  by_cases hlt : j < L.length
  case neg =>
    have hlt' : ¬ (j : Int) < (L.length : Int) := by omega
    have ej : j = L.length := by omega
    simp only [r_ln, r_lss, hlt', decide_false, r_condF]
    rw [r_slFrom (by omega) (by omega)]
    have haa : (a : Int).toNat = a := by omega
    rw [haa, if_neg (by omega)]
    simp only [Option.map_some]
    rw [r_addr, Nat.zero_add]
    obtain ⟨g', cap', cur, e1, _, hg, _, _, hcs, _⟩ := hX.blk (by omega)
    rw [hXl] at e1
    cases e1
    refine r_clear (m := 7) (z := lnV ([0, 0, 0, 0], 0, 0, false)) slt73.und zero78 rfl (zero78_one _) (by omega) hg ?_ fun w2 c2 hout => ?_
    · rw [hcs]
      have : (a + (L.length - a)) * 7 ≤ cap * 7 := Nat.mul_le_mul_right 7 (by omega)
      rw [Nat.add_mul] at this
      exact this
    rw [r_slTo (by omega) (by omega), haa]
    refine ⟨_, rfl, Kp.of_chg kr c2 fun k e => by rw [e]; exact hbg, ?_⟩
    have hfin : X.take a = closedL L := by
      rw [hXt, List.take_of_length_le (by omega)]; rfl
    rw [← hfin]
    have hta : (X.take a).length = a := by rw [List.length_take]; omega
    obtain ⟨_, _, e3, _, hh⟩ := Rd.take (l := X) (n := L.length) (hX.rd lnC_len) (i := a) (by omega)
    rw [hta] at e3
    cases e3
    refine ⟨_, cap, by rw [hta], by omega, fun h0 => ?_⟩
    obtain ⟨b2, off2, e4, hcell⟩ := hh h0
    cases e4
    refine ⟨g, 0, rfl, fun k y hky q u hu => ?_⟩
    rw [hout _ ?_]
    · exact hcell k y hky q u hu
    · have hk' : k < a := by rw [← hta]; exact (List.getElem?_eq_some_iff.1 hky).1
      have hq : q < 7 := (List.getElem?_eq_some_iff.1 hu).1
      omega
  have hlt' : (j : Int) < (L.length : Int) := by omega
  have hxj : X[j]? = some L[j] := by
    have e1 : X[j]? = (X.drop j)[0]? := by rw [List.getElem?_drop, Nat.add_zero]
    rw [e1, hXd, List.getElem?_drop, Nat.add_zero, List.getElem?_eq_getElem hlt]
  have htake : L.take (j + 1) = L.take j ++ [L[j]] := take_succ' _ _ hlt
  have hdrop : X.drop (j + 1) = L.drop (j + 1) := by
    have e1 : X.drop (j + 1) = (X.drop j).drop 1 := by rw [List.drop_drop]
    rw [e1, hXd, List.drop_drop]
  generalize L[j] = y at *
  have hjj : (j : Int).toNat = j := by omega
  obtain ⟨b, off, _, e, _, hld⟩ := RdL.line (hX.rd lnC_len) hxj
  rw [hXl] at e
  cases e
  simp only [r_ln, r_lss, decide_eq_true hlt', r_condT]
  rw [r_iaS _ _ _ _ _ _ _ (by omega) (by omega), hjj, hld]
  refine r_box fun b7 w2 e7 s7 h7 k7 => ?_
  refine r_stAll (n := 7) (ty := 89) (by kernel_rfl) rfl (by intro u hu; simp [Value.cells] at hu; rcases hu with rfl | rfl | rfl | rfl | rfl | rfl | rfl <;> rfl) h7 rfl fun w3 cg3 s3 h73 => ?_
  have k03 : Kp wr w3 := Kp.of_chg k7 cg3 fun i e => by omega
  have ld3 : ∀ K : Value → Prop, ldN 7 w3 (.pointer (some ⟨b7, 0, none⟩)) K = K (lnV y) := fun K => r_ldRow h73 rfl
  rw [ld3]
  refine open_call y w3 _ fun w4 k4 => ?_
  have k04 := Kp.trans k03 k4
  have h74 := block_below h73 k4
  simp only [r_not, Bool.not_not]
  refine r_join1 (fun v w' => ∃ (a' : Nat) (X' : List Line), v = .int .i64 a' ∧ a' < j + 1 ∧ X'.length = L.length ∧ X'.take a' = (L.take (j + 1)).filter (fun x => x.2.2.2) ∧ X'.drop (j + 1) = L.drop (j + 1) ∧ LnAt w0.heap.size w' (.slice (some ⟨g, 0, none⟩) L.length cap) X' ∧ Kp w0 w') ?_ fun k' hk' => ?_
  · rintro v' w' ⟨a', X', rfl, q1, q2, q3, q4, q5, q6⟩
    rw [r_add _ _ (by omega) (by omega)]
    exact ⟨⟨j + 1, a', X', by go_num, rfl, by omega, q1, q2, q3, q4, q5, q6⟩, by simp only [intOf]; omega⟩
  cases hy : y.2.2.2 with
  | false =>
    simp only [r_condF]
    refine hk' _ _ ⟨a, X, rfl, by omega, hXl, ?_, hdrop, hX.kp k04, Kp.trans kr k04⟩
    rw [htake, List.filter_append, hXt]
    simp [hy]
  | true =>
    simp only [r_condT]
    have ld4 : ∀ K : Value → Prop, ldN 7 w4 (.pointer (some ⟨b7, 0, none⟩)) K = K (lnV y) := fun K => r_ldRow h74 rfl
    rw [ld4]
    have haa : (a : Int).toNat = a := by omega
    obtain ⟨g', cap', cur, e1, _, hg, hfit, hput⟩ := RecAt.putRec lnC_len (hX.kp k04) (q := a) (by omega) y
    rw [hXl] at e1
    cases e1
    rw [r_iaS _ _ _ _ _ _ _ (by omega) (by omega), haa, Nat.zero_add]
    refine r_stAt (n := 7) (ty := 89) (by kernel_rfl) rfl (by intro u hu; simp [Value.cells] at hu; rcases hu with rfl | rfl | rfl | rfl | rfl | rfl | rfl <;> rfl) hg hfit fun w5 c5 s5 h5 => ?_
    rw [r_add _ _ (by omega) (by omega)]
    refine hk' _ _ ⟨a + 1, X.set a y, by go_num, by omega, by rw [List.length_set]; exact hXl, ?_, ?_, hput w5 h5, Kp.of_chg (Kp.trans kr k04) c5 fun k e => by rw [e]; exact hbg⟩
    · rw [List.take_add_one, List.getElem?_set_self (by omega), List.take_set_of_le (Nat.le_refl _), hXt, htake, List.filter_append]
      simp [hy]
    · rw [List.drop_set_of_lt (by omega)]; exact hdrop
theorem closeF_state {N h : Nat} {C : List Line} (hC : LnOk N C) (M : List Line) (hM : ∀ x ∈ M, x ∈ C) : (M.foldl (closeF N h C) (0, List.replicate N false)).2.length = N ∧ 0 ≤ (M.foldl (closeF N h C) (0, List.replicate N false)).1 ∧ (M.foldl (closeF N h C) (0, List.replicate N false)).1 ≤ 1099511627777 := by
  have hf : ∀ a, (List.replicate N false).getD a false = false := fun a => by
    rw [List.getD_eq_getElem?_getD, List.getElem?_replicate]
    split <;> rfl
  obtain ⟨h1, h2, _⟩ := closeF_exact (h := h) hC M (0, List.replicate N false) hM (by simp) (by
    rw [tot_zero fun a _ => by rw [hf]; rfl]; rfl)
  refine ⟨h1, ?_, ?_⟩
  · rw [h2]; unfold capI; omega
  · rw [h2]; unfold capI; omega
set_option maxRecDepth 100000 in
theorem st78_box {w : World} {b : Nat} {x : Line} {K : World → Prop} (hb : w.heap[b]? = some (.cells (lnV ([0, 0, 0, 0], 0, 0, false)).cells 89 (0, 0))) (h0 : w.heap.size = b + 1)
    (hk : ∀ w', Chg (fun k => k = b) w w' → w'.heap[b]? = some (.cells (lnV x).cells 89 (0, 0)) → K w') : stW Tryz.prog 89 (.pointer (some ⟨b, 0, none⟩)) (lnV x) w K :=
  r_stAll (n := 7) (ty := 89) (by kernel_rfl) rfl (by intro u hu; simp [Value.cells] at hu; rcases hu with rfl | rfl | rfl | rfl | rfl | rfl | rfl <;> rfl) hb rfl fun w3 cg3 s3 h73 => hk w3 cg3 h73
set_option maxRecDepth 100000 in
set_option maxHeartbeats 1000000 in
theorem r86_1 {cv sv dv : Value} {C : List Line} {W h N b : Nat} {w1 w : World} {R : Ending → World → Prop} (hW : 1 ≤ W ∧ W ≤ 4) (eN : N = 8 ^ W) (hh : h ≤ 4) (hC : LnOk N C) (hCl : C.length ≤ 100000) (hcv : RdL w1 cv C) (hsv : BoolsAt b w1 sv (southL N C)) (hdv : BoolsAt w1.heap.size w dv (List.replicate N false)) (hk : Kp w1 w)
    (hR : ∀ w', Kp w1 w' → R (.returned (.int .i64 (closedS N h C).1)) w') : S14L1 (.int .i64 W) (.int .i64 h) cv sv dv (.int .i64 C.length) R w := by
  have hN : N ≤ 4096 := by rw [eN]; exact pow8N_le hW.2
  unfold S14L1
  refine ⟨fun t11 t39 wr => ∃ i : Nat, i ≤ C.length ∧ t39 = .int .i64 i ∧ t11 = .int .i64 ((C.take i).foldl (closeF N h C) (0, List.replicate N false)).1 ∧ BoolsAt w1.heap.size wr dv ((C.take i).foldl (closeF N h C) (0, List.replicate N false)).2 ∧ Kp w1 wr, fun _ t39 _ => C.length - (intOf t39).toNat, ⟨0, by omega, rfl, rfl, hdv, hk⟩, ?_⟩
  rintro _ _ _ wr ⟨i, hi, rfl, rfl, hdr, kr⟩
  by_cases hlt : i < C.length
  case neg =>
    have hlt' : ¬ (i : Int) < (C.length : Int) := by omega
    rw [List.take_of_length_le (by omega)]
    simp (disch := omega) only [r_ln, r_pick, r_pickT, r_pickF, r_condT, r_condF, r_gdTT, r_gdFF, r_gdTF, r_gdFT, r_gqTT, r_gqFF, r_gqTF, r_gqFT, r_not, r_lss, r_leq, r_gtr, r_geq, r_eql, r_neq, r_add, r_sub, r_min2, r_max2, r_min3, r_max3, r_fa, r_iaS, r_iaA, r_ex2a, r_ex2b, r_ex3a, r_ex3b, r_ex3c, r_nc, r_keepE, Nat.zero_add, Nat.add_zero, Nat.mul_one, Int.toNat_natCast, toNat_sub1, toNat_add1, decide_true, decide_false, Bool.not_true, Bool.not_false, if_true, if_false, Bool.false_eq_true, reduceCtorEq, hlt']
    exact hR wr kr
  have hlt' : (i : Int) < (C.length : Int) := by omega
  obtain ⟨y1, y2, y3⟩ := closeF_state (h := h) hC (C.take i) fun x hx => List.mem_of_mem_take hx
  have htake : ∀ s, (C.take (i + 1)).foldl (closeF N h C) s = closeF N h C ((C.take i).foldl (closeF N h C) s) C[i] := fun s => by
    rw [take_succ' _ _ hlt, List.foldl_append]; rfl
  simp (disch := omega) only [r_lss, decide_eq_true hlt', r_condT]
  have hx : C[i]? = some C[i] := List.getElem?_eq_getElem hlt
  have hxm : C[i] ∈ C := List.getElem_mem hlt
  refine r_join1 (fun v' w' => v' = .int .i64 ((C.take (i + 1)).foldl (closeF N h C) (0, List.replicate N false)).1 ∧ BoolsAt w1.heap.size w' dv ((C.take (i + 1)).foldl (closeF N h C) (0, List.replicate N false)).2 ∧ Kp w1 w') ?_ fun k' hk' => ?_
  · rintro v' w' ⟨rfl, g1, g2⟩
    rw [r_add _ _ (by omega) (by omega)]
    exact ⟨⟨i + 1, by omega, by go_num, rfl, g1, g2⟩, by simp only [intOf]; omega⟩
  rw [htake] at hk'
  generalize C[i] = x at *
  generalize (C.take i).foldl (closeF N h C) (0, List.replicate N false) = s at *
  obtain ⟨⟨x1, x2⟩, _⟩ := hC x hxm
  obtain ⟨lb, lo, lc, el, _, hld⟩ := RdL.line (hcv.kp kr) hx
  have hii : (i : Int).toNat = i := by omega
  have ia : ∀ K : Value → Prop, iaS 7 cv (.int .i64 i) K = K (.pointer (some ⟨lb, lo + i * 7, none⟩)) := fun K => by
    rw [el, r_iaS _ _ _ _ _ _ _ (by omega) (by omega), hii]
  rw [ia, hld]
  refine r_box fun b9 w2 e9 s9 h9 k9 => ?_
  refine st78_box h9 s9 fun w3 cg3 h93 => ?_
  have k03 : Kp wr w3 := Kp.of_chg k9 cg3 fun i e => by omega
  have c4 : w3.cell? ⟨b9, 4, none⟩ = some (.int .i64 x.2.1) := by rw [cell_row h93]; rfl
  obtain ⟨dg, dcap, ed, hdb, dc, df, dset⟩ := BoolsAt.put (hdr.kp k03) (q := x.2.1.toNat) (by omega) true
  have hsl : (southL N C).length = N := (south_at hC (c := x.2.1.toNat) (by omega)).1
  obtain ⟨sg, scap, es, _, sc, _, _⟩ := BoolsAt.put (hsv.kp (Kp.trans kr k03)) (q := x.2.1.toNat) (by omega) true
  have iad : ∀ K : Value → Prop, iaS 1 dv (.int .i64 x.2.1) K = K (.pointer (some ⟨dg, x.2.1.toNat, none⟩)) := fun K => by
    rw [ed, r_iaS _ _ _ _ _ _ _ (by omega) (by omega), Nat.mul_one, Nat.zero_add]
  have ias : ∀ K : Value → Prop, iaS 1 sv (.int .i64 x.2.1) K = K (.pointer (some ⟨sg, x.2.1.toNat, none⟩)) := fun K => by
    rw [es, r_iaS _ _ _ _ _ _ _ (by omega) (by omega), Nat.mul_one, Nat.zero_add]
  simp only [r_fa, Nat.zero_add, r_ld c4, iad, r_ld dc]
  have skip : (s.2.getD x.2.1.toNat false = true ∨ (southL N C).getD x.2.1.toNat false = false) → k' (.int .i64 s.1) w3 := fun hc => by
    have e : closeF N h C s x = s := if_pos hc
    rw [e] at hk'
    exact hk' _ _ ⟨rfl, hdr.kp k03, Kp.trans kr k03⟩
  cases hd : s.2.getD x.2.1.toNat false with
  | true =>
    simp only [r_gdTF, r_gdU, r_pickT, r_condT]
    exact skip (.inl hd)
  | false =>
    simp only [r_gdFF, r_fa, Nat.zero_add, r_ld c4, ias, r_ld sc, r_not, r_pickF]
    cases hso : (southL N C).getD x.2.1.toNat false with
    | false =>
      simp only [Bool.not_false, r_condT]
      exact skip (.inr hso)
    | true =>
      simp only [Bool.not_true, r_condF, r_fa, Nat.zero_add, r_ld c4, iad]
      have e : closeF N h C s x = (min (s.1 + (stepsL C (unitL N x.2.1.toNat) h).getD x.2.1.toNat 0) 1099511627777, s.2.set x.2.1.toNat true) := if_neg fun hc => by
        rcases hc with hc | hc
        · rw [show s.2.getD (lnN x).toNat false = false from hd] at hc; cases hc
        · rw [show (southL N C).getD (lnN x).toNat false = true from hso] at hc; cases hc
      rw [e] at hk'
      rw [st4 dc df]
      have hch : Chg (fun q => q = dg) w3 (w3.setCell ⟨dg, x.2.1.toNat, none⟩ (.bool true)) := Chg.setCell _ _ rfl
      have hsz : (w3.setCell ⟨dg, x.2.1.toNat, none⟩ (.bool true)).heap.size = w3.heap.size := setCell_size _ _ _
      have h94 : (w3.setCell ⟨dg, x.2.1.toNat, none⟩ (.bool true)).heap[b9]? = some (.cells (lnV x).cells 89 (0, 0)) := hch.at h93 fun e => by
        have := (hdr.lt (k := dg) (by rw [ed]; rfl)).2
        omega
      generalize w3.setCell ⟨dg, x.2.1.toNat, none⟩ (.bool true) = w4 at *
      have k14 : Kp w1 w4 := Kp.of_chg (Kp.trans kr k03) hch fun q e => by rw [e]; exact hdb
      refine r_use fok25 (codes_calls w4 hW.2) rfl ?_
      rintro _ _ ⟨rfl, rfl⟩
      refine ⟨_, rfl, ?_⟩
      rw [← eN]
      refine mk31' (by omega) fun uv w5 ou k5 hub => ?_
      have h95 := block_below h94 k5
      have c45 : w5.cell? ⟨b9, 4, none⟩ = some (.int .i64 x.2.1) := by rw [cell_row h95]; rfl
      obtain ⟨ug, ucap, eu, hub2, uc, uf, uset⟩ := IntsAt.put ou (q := x.2.1.toNat) (by rw [List.length_replicate]; omega) 1
      have iau : ∀ K : Value → Prop, iaS 1 uv (.int .i64 x.2.1) K = K (.pointer (some ⟨ug, x.2.1.toNat, none⟩)) := fun K => by
        rw [eu, r_iaS _ _ _ _ _ _ _ (by omega) (by rw [List.length_replicate]; omega), Nat.mul_one, Nat.zero_add]
      simp only [r_fa, Nat.zero_add, r_ld c45, iau]
      rw [st3 uc uf]
      have hch2 : Chg (fun q => q = ug) w5 (w5.setCell ⟨ug, x.2.1.toNat, none⟩ (.int .i64 1)) := Chg.setCell _ _ rfl
      have h96 : (w5.setCell ⟨ug, x.2.1.toNat, none⟩ (.int .i64 1)).heap[b9]? = some (.cells (lnV x).cells 89 (0, 0)) := hch2.at h95 fun e => by
        have := block_lt h94
        omega
      change IntsAt w4.heap.size _ uv (unitL N x.2.1.toNat) at uset
      generalize w5.setCell ⟨ug, x.2.1.toNat, none⟩ (.int .i64 1) = w6 at *
      have k46 : Kp w4 w6 := Kp.of_chg k5 hch2 fun q e => by rw [e]; exact hub2
      refine r_drew fun w7 k7 _ => ?_
      have k47 := Kp.trans k46 k7
      have h97 := block_below h96 k7
      have c47 : w7.cell? ⟨b9, 4, none⟩ = some (.int .i64 x.2.1) := by rw [cell_row h97]; rfl
      simp only [r_fa, Nat.zero_add, r_ld c47]
      have hul := unit_len N x.2.1.toNat
      have hur := unit_rng N x.2.1.toNat
      have huv : RdInts w7 uv (unitL N x.2.1.toNat) := ((uset.kp k7).rd iC_len).ints (by omega)
      refine r_use fok23 (steps_calls (h := h) w7 (hcv.kp (Kp.trans k14 k47)) (by rw [hul]; exact hC) huv hur (by omega) (by omega) hh) rfl ?_
      rintro _ w8 ⟨rv, rfl, k8, hrv⟩
      refine ⟨_, rfl, k8, ?_⟩
      obtain ⟨hrr, hrl⟩ := steps_rng (L := C) hur h
      rw [hul] at hrl
      obtain ⟨rb, ro, rc, er, rcell⟩ := hrv.at (j := x.2.1.toNat) (by omega)
      have hrg := rng_getD hrr x.2.1.toNat
      rw [er, r_iaS _ _ _ _ _ _ _ (by omega) (by omega), Nat.mul_one, r_ld rcell, r_add _ _ (by omega) (by omega), r_min2]
      refine hk' _ _ ⟨rfl, dset.kp (Kp.trans k47 k8), Kp.trans k14 (Kp.trans k47 k8)⟩
set_option maxRecDepth 100000 in
set_option maxHeartbeats 1000000 in
theorem r86_0 {cv sv : Value} {C : List Line} {W h N : Nat} {w1 w : World} {R : Ending → World → Prop} (hW : 1 ≤ W ∧ W ≤ 4) (eN : N = 8 ^ W) (hh : h ≤ 4) (hC : LnOk N C) (hCl : C.length ≤ 100000) (hcv : RdL w1 cv C) (hsv : BoolsAt w1.heap.size w sv (List.replicate N false)) (hk : Kp w1 w)
    (hR : ∀ w', Kp w1 w' → R (.returned (.int .i64 (closedS N h C).1)) w') : S14L0 (.int .i64 W) (.int .i64 h) cv sv (.int .i64 C.length) R w := by
  have hN : N ≤ 4096 := by rw [eN]; exact pow8N_le hW.2
  obtain ⟨ca, cc, ecv, _⟩ := hcv.len
  unfold S14L0
  refine ⟨fun t25 wr => ∃ i : Nat, i ≤ C.length ∧ t25 = .int .i64 i ∧ BoolsAt w1.heap.size wr sv ((C.take i).foldl (fun s x => s.set (lnSo x).toNat true) (List.replicate N false)) ∧ Kp w1 wr, fun t25 _ => C.length - (intOf t25).toNat, ⟨0, by omega, rfl, hsv, hk⟩, ?_⟩
  rintro _ _ wr ⟨i, hi, rfl, hsr, kr⟩
  by_cases hlt : i < C.length
  case neg =>
    have hlt' : ¬ (i : Int) < (C.length : Int) := by omega
    rw [List.take_of_length_le (by omega)] at hsr
    simp only [r_lss, hlt', decide_false, r_condF]
    refine r_drew fun w2 k2 _ => ?_
    refine r_use fok25 (codes_calls w2 hW.2) rfl ?_
    rintro _ _ ⟨rfl, rfl⟩
    refine ⟨_, rfl, ?_⟩
    rw [← eN]
    refine mk91 (by omega) fun dv w3 od k3 _ => ⟨k3, ?_⟩
    dsimp only
    have lnc : ∀ K : Value → Prop, ln1 cv K = K (.int .i64 C.length) := fun K => by rw [ecv]; rfl
    rw [lnc]
    have k12 := Kp.trans kr k2
    exact r86_1 (w1 := w2) (b := w1.heap.size) hW eN hh hC hCl (hcv.kp k12) (hsr.kp k2) od k3 fun w' k' => hR w' (Kp.trans k12 k')
  have hlt' : (i : Int) < (C.length : Int) := by omega
  have hx : C[i]? = some C[i] := List.getElem?_eq_getElem hlt
  have hxm : C[i] ∈ C := List.getElem_mem hlt
  have htake : (C.take (i + 1)).foldl (fun s x => s.set (lnSo x).toNat true) (List.replicate N false) = ((C.take i).foldl (fun s x => s.set (lnSo x).toNat true) (List.replicate N false)).set (lnSo C[i]).toNat true := by
    rw [take_succ' _ _ hlt, List.foldl_append]; rfl
  have hlen : ((C.take i).foldl (fun s x => s.set (lnSo x).toNat true) (List.replicate N false)).length = N := by
    have key : ∀ (M : List Line) (s : List Bool), (M.foldl (fun s x => s.set (lnSo x).toNat true) s).length = s.length := by
      intro M
      induction M with
      | nil => intro s; rfl
      | cons x M ih => intro s; rw [List.foldl_cons, ih]; simp
    rw [key]; simp
  generalize C[i] = x at *
  generalize (C.take i).foldl (fun s x => s.set (lnSo x).toNat true) (List.replicate N false) = S at *
  obtain ⟨_, x1, x2⟩ := hC x hxm
  obtain ⟨lb, lo, lc, el, _, hld⟩ := RdL.line (hcv.kp kr) hx
  have hii : (i : Int).toNat = i := by omega
  have ia : ∀ K : Value → Prop, iaS 7 cv (.int .i64 i) K = K (.pointer (some ⟨lb, lo + i * 7, none⟩)) := fun K => by
    rw [el, r_iaS _ _ _ _ _ _ _ (by omega) (by omega), hii]
  simp only [r_lss, decide_eq_true hlt', r_condT]
  rw [ia, hld]
  refine r_box fun b9 w2 e9 s9 h9 k9 => ?_
  refine st78_box h9 s9 fun w3 cg3 h93 => ?_
  have k03 : Kp wr w3 := Kp.of_chg k9 cg3 fun i e => by omega
  have c5 : w3.cell? ⟨b9, 5, none⟩ = some (.int .i64 x.2.2.1) := by rw [cell_row h93]; rfl
  obtain ⟨dg, dcap, ed, hdb, dc, df, dset⟩ := BoolsAt.put (hsr.kp k03) (q := x.2.2.1.toNat) (by omega) true
  simp only [r_fa, Nat.zero_add, r_ld c5]
  rw [ed, r_iaS _ _ _ _ _ _ _ (by omega) (by omega), Nat.mul_one, Nat.zero_add, st4 dc df, r_add _ _ (by omega) (by omega), ← ed]
  refine ⟨⟨i + 1, by omega, by go_num, ?_, Kp.of_chg (Kp.trans kr k03) (Chg.setCell (S := fun q => q = dg) _ _ rfl) fun q e => by rw [e]; exact hdb⟩, by simp only [intOf]; omega⟩
  rw [htake]
  exact dset
set_option maxRecDepth 100000 in
theorem closed86_calls {v : Value} {l : List Tile} (hs : IsSet l) {W h : Nat} (hW : 1 ≤ W ∧ W ≤ 4) (hh : h ≤ 4) (w : World) (hr : RdT w v l) :
    Calls Tryz.prog 14 #[v, .int .i64 W, .int .i64 h] w fun e w' => e = .returned (.int .i64 (closedS (8 ^ W) h (closedL (linesL l W))).1) ∧ Kp w w' := by
  have h8 := pow8N_le hW.2
  have hll := lines_len hs hW.2
  have hlo := lines_ok hs hW.2
  refine lift14 ?_
  unfold S14
  refine r_use fok24 (rows_calls hs hW w hr) rfl ?_
  rintro _ w1 ⟨lv, rfl, k1, hL⟩
  refine ⟨_, rfl, ?_⟩
  change LnAt _ _ _ (linesL l W) at hL
  refine r_use fok33 (delete_calls w w1 hL k1 (by omega)) rfl ?_
  rintro _ w2 ⟨cv, rfl, k2, hC⟩
  refine ⟨_, rfl, ?_⟩
  refine r_use fok25 (codes_calls w2 hW.2) rfl ?_
  rintro _ _ ⟨rfl, rfl⟩
  refine ⟨_, rfl, ?_⟩
  refine mk91 (by omega) fun sv w3 os k3 _ => ?_
  obtain ⟨ca, cc, ecv, _⟩ := hC.len
  rw [ecv, r_ln, ← ecv]
  have hCl : (closedL (linesL l W)).length ≤ (linesL l W).length := List.length_filter_le _ _
  refine r86_0 (w1 := w2) hW rfl hh (fun x hx => hlo x (List.mem_filter.1 hx).1) (by omega) hC os k3 fun w' k' => ⟨rfl, Kp.trans k2 k'⟩

end Go.Proofs.YtfmppkplmfbjpaaGreatDoor
