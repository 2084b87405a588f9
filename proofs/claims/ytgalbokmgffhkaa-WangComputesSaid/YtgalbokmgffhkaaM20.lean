/- Texts of my own, merged by program: N1 Sj J3. -/
import Derived.Test.YtgalbokmgffhkaaM19
import Derived.Test.YtgalbokmgffhkaaM02
import Derived.Test.YtgalbokmgffhkaaM17
import Derived.Test.YtgalbokmgffhkaaM12
set_option linter.all false
/- Closed boards, plainly: ways round. No program. -/
namespace Go.Proofs.Ytgalbokmgffhkaa
open Go.Wg

/-- In how many ways k rows lead from a to c. -/
def Pt {α : Type} (C : List α) (f g : α → Int) (a : Int) : Nat → Int → Nat
  | 0, c => if a = c then 1 else 0
  | k + 1, c => tot (fun x => if g x = c then Pt C f g a k (f x) else 0) C
/-- Ways round, by their last row. -/
def roundN {α : Type} (C : List α) (f g : α → Int) (h : Nat) : Nat := tot (fun x => Pt C f g (g x) (h - 1) (f x)) C

theorem pt_label {α : Type} {C : List α} {f g f' g' : α → Int} (h : ∀ x ∈ C, ∀ y ∈ C, g x = f y ↔ g' x = f' y) {x : α} (hx : x ∈ C) : ∀ (k : Nat) {y : α}, y ∈ C → Pt C f g (g x) k (f y) = Pt C f' g' (g' x) k (f' y)
  | 0, y, hy => by
    unfold Pt
    by_cases e : g x = f y
    · rw [if_pos e, if_pos ((h x hx y hy).1 e)]
    · rw [if_neg e, if_neg fun e' => e ((h x hx y hy).2 e')]
  | k + 1, y, hy => by
    unfold Pt
    refine tot_congr fun z hz => ?_
    by_cases e : g z = f y
    · rw [if_pos e, if_pos ((h z hz y hy).1 e), pt_label h hx k hz]
    · rw [if_neg e, if_neg fun e' => e ((h z hz y hy).2 e')]
theorem round_label {α : Type} {C : List α} {f g f' g' : α → Int} (h : ∀ x ∈ C, ∀ y ∈ C, g x = f y ↔ g' x = f' y) (n : Nat) : roundN C f g n = roundN C f' g' n :=
  tot_congr fun _ hx => pt_label h hx (n - 1) hx
theorem pt_map {α β : Type} (φ : α → β) (C : List α) (f g : β → Int) (a : Int) : ∀ (k : Nat) (c : Int), Pt (C.map φ) f g a k c = Pt C (fun x => f (φ x)) (fun x => g (φ x)) a k c
  | 0, _ => rfl
  | k + 1, c => by
    unfold Pt
    rw [tot_map]
    refine tot_congr fun x _ => ?_
    rw [pt_map φ C f g a k]
theorem round_map {α β : Type} (φ : α → β) (C : List α) (f g : β → Int) (n : Nat) : roundN (C.map φ) f g n = roundN C (fun x => f (φ x)) (fun x => g (φ x)) n := by
  unfold roundN
  rw [tot_map]
  exact tot_congr fun x _ => pt_map φ C f g _ _ _

theorem round_sum {α : Type} {N h : Nat} {C : List α} {f g : α → Int} (hg : ∀ x ∈ C, 0 ≤ g x ∧ g x < N) (hh : 0 < h) : tot (fun a : Nat => Pt C f g (a : Int) h (a : Int)) (List.range N) = roundN C f g h := by
  obtain ⟨m, rfl⟩ : ∃ m, h = m + 1 := ⟨h - 1, by omega⟩
  have e : tot (fun a : Nat => Pt C f g (a : Int) (m + 1) (a : Int)) (List.range N) = tot (fun a : Nat => tot (fun x => if g x = (a : Int) then Pt C f g (a : Int) m (f x) else 0) C) (List.range N) := rfl
  rw [e, tot_swap (f := g) (g := fun x c => Pt C f g (c : Int) m (f x)) hg]
  refine tot_congr fun x hx => ?_
  have := hg x hx
  rw [show (((g x).toNat : Nat) : Int) = g x by omega, Nat.add_sub_cancel]

theorem pt_south {α : Type} {C : List α} {f g : α → Int} {a c : Int} {k : Nat} (h : ∀ x ∈ C, g x ≠ c) : Pt C f g a (k + 1) c = 0 := by
  unfold Pt
  exact tot_zero fun x hx => if_neg (h x hx)
theorem pt_north {α : Type} {C : List α} {f g : α → Int} {a : Int} (h : ∀ x ∈ C, f x ≠ a) : ∀ (k : Nat) (c : Int), Pt C f g a (k + 1) c = 0
  | 0, c => by
    unfold Pt
    refine tot_zero fun x hx => ?_
    split
    · exact if_neg fun e => h x hx e.symm
    · rfl
  | k + 1, c => by
    rw [Pt]
    refine tot_zero fun x hx => ?_
    split
    · exact pt_north h k _
    · rfl

/-! ### the program's way: steps from one list of Norths -/
def unitL (N : Nat) (a : Nat) : List Int := (List.replicate N 0).set a 1
abbrev lnN (x : Line) : Int := x.2.1
abbrev lnS (x : Line) : Int := x.2.2.1
theorem unit_len (N a : Nat) : (unitL N a).length = N := by simp [unitL]
theorem unit_rng (N a : Nat) : Rng (unitL N a) := fun x hx => by
  rcases List.mem_or_eq_of_mem_set hx with h | h
  · rw [List.eq_of_mem_replicate h]; decide
  · rw [h]; decide
theorem steps_from {L : List Line} {N a : Nat} (hL : LnOk N L) : ∀ k, (stepsL L (unitL N a) k).length = N ∧ ∀ c : Nat, c < N → (stepsL L (unitL N a) k).getD c 0 = capI (Pt L lnN lnS (a : Int) k (c : Int))
  | 0 => ⟨by simp [stepsL, unit_len], fun c hc => by
    rw [stepsL, unitL, Pt]
    by_cases e : a = c
    · subst e
      rw [List.getD_eq_getElem?_getD, List.getElem?_set_self (by simpa using hc), if_pos rfl]; rfl
    · rw [List.getD_eq_getElem?_getD, List.getElem?_set_ne e, List.getElem?_replicate, if_pos hc, if_neg (by omega)]; rfl⟩
  | k + 1 => by
    obtain ⟨h1, h2⟩ := steps_from (a := a) hL k
    have hl : (stepsL L (unitL N a) (k + 1)).length = N := by
      have := (steps_rng (L := L) (unit_rng N a) (k + 1)).2
      rw [unit_len] at this
      exact this
    refine ⟨hl, fun c hc => ?_⟩
    have := stepF_exact hL h1 h2 L (List.replicate N 0) (fun _ => 0) (fun x hx => hx) (by simp) (fun c hc => by rw [getD_lt _ _ _ (by simpa using hc), List.getElem_replicate]; rfl) c hc
    rw [stepsL, stepL, h1, this, Nat.zero_add]
    rfl

/-- Of all lines, those that close. -/
def closedL (L : List Line) : List Line := L.filter fun x => x.2.2.2
def southL (N : Nat) (C : List Line) : List Bool := C.foldl (fun s x => s.set (lnS x).toNat true) (List.replicate N false)
theorem south_at {N : Nat} {C : List Line} (hC : LnOk N C) {c : Nat} (hc : c < N) : (southL N C).length = N ∧ ((southL N C).getD c false = true ↔ ∃ x ∈ C, lnS x = (c : Int)) := by
  have key : ∀ (M : List Line) (s : List Bool), (∀ x ∈ M, x ∈ C) → s.length = N → (M.foldl (fun s x => s.set (lnS x).toNat true) s).length = N ∧ ((M.foldl (fun s x => s.set (lnS x).toNat true) s).getD c false = true ↔ s.getD c false = true ∨ ∃ x ∈ M, lnS x = (c : Int)) := by
    intro M
    induction M with
    | nil => intro s _ hs; simp [hs]
    | cons x M ih =>
      intro s hM hs
      rw [List.foldl_cons]
      obtain ⟨h1, h2⟩ := ih (s.set (lnS x).toNat true) (fun y hy => hM y (by simp [hy])) (by simpa using hs)
      refine ⟨h1, h2.trans ?_⟩
      have hx := (hC x (hM x (by simp))).2
      have e : (s.set (lnS x).toNat true).getD c false = true ↔ s.getD c false = true ∨ lnS x = (c : Int) := by
        by_cases e : (lnS x).toNat = c
        · subst e
          rw [List.getD_eq_getElem?_getD, List.getElem?_set_self (by omega)]
          simp only [Option.getD_some, true_iff]
          right; show x.2.2.1 = ((x.2.2.1.toNat : Nat) : Int); omega
        · rw [List.getD_eq_getElem?_getD, List.getElem?_set_ne e, ← List.getD_eq_getElem?_getD]
          refine ⟨.inl, fun h => h.resolve_right fun h => e ?_⟩
          show x.2.2.1.toNat = c
          have : x.2.2.1 = (c : Int) := h
          omega
      rw [e]
      simp only [List.mem_cons, exists_eq_or_imp, or_assoc]
  obtain ⟨h1, h2⟩ := key C (List.replicate N false) (fun x hx => hx) (by simp)
  refine ⟨h1, h2.trans ⟨fun h => h.resolve_left (by rw [List.getD_eq_getElem?_getD, List.getElem?_replicate, if_pos hc]; simp), .inr⟩⟩

def closeF (N h : Nat) (C : List Line) (s : Int × List Bool) (x : Line) : Int × List Bool :=
  if s.2.getD (lnN x).toNat false = true ∨ (southL N C).getD (lnN x).toNat false = false then s
  else (min (s.1 + (stepsL C (unitL N (lnN x).toNat) h).getD (lnN x).toNat 0) 1099511627777, s.2.set (lnN x).toNat true)
/-- What the program counts. -/
def closedS (N h : Nat) (C : List Line) : Int × List Bool := C.foldl (closeF N h C) (0, List.replicate N false)

theorem tot_update {N i : Nat} {F G G' : Nat → Nat} (hi : i < N) (h1 : G i = 0) (h2 : G' i = F i) (h3 : ∀ j, j ≠ i → G' j = G j) : tot G' (List.range N) = tot G (List.range N) + F i := by
  have e : tot G' (List.range N) = tot (fun j => G j + if j = i then F i else 0) (List.range N) := tot_congr fun j _ => by
    by_cases e : j = i
    · subst e; rw [h2, h1, if_pos rfl, Nat.zero_add]
    · rw [h3 j e, if_neg e, Nat.add_zero]
  rw [e, tot_add, tot_range_eq (i := i) hi fun j _ hj => if_neg hj, if_pos rfl]

theorem closeF_exact {N h : Nat} {C : List Line} (hC : LnOk N C) : ∀ (M : List Line) (s : Int × List Bool), (∀ x ∈ M, x ∈ C) → s.2.length = N → s.1 = capI (tot (fun a : Nat => if s.2.getD a false = true then Pt C lnN lnS (a : Int) h (a : Int) else 0) (List.range N)) →
    (M.foldl (closeF N h C) s).2.length = N ∧ (M.foldl (closeF N h C) s).1 = capI (tot (fun a : Nat => if (M.foldl (closeF N h C) s).2.getD a false = true then Pt C lnN lnS (a : Int) h (a : Int) else 0) (List.range N)) ∧
    ∀ a, a < N → ((M.foldl (closeF N h C) s).2.getD a false = true ↔ s.2.getD a false = true ∨ ((∃ x ∈ M, lnN x = (a : Int)) ∧ (southL N C).getD a false = true))
  | [], s, _, hl, hs => ⟨hl, hs, fun a _ => by simp⟩
  | x :: M, s, hM, hl, hs => by
    have hx := (hC x (hM x (by simp))).1
    have hxc : (((lnN x).toNat : Nat) : Int) = lnN x := by show ((x.2.1.toNat : Nat) : Int) = x.2.1; omega
    have hlt : (lnN x).toNat < N := by show x.2.1.toNat < N; omega
    rw [List.foldl_cons]
    by_cases hc : s.2.getD (lnN x).toNat false = true ∨ (southL N C).getD (lnN x).toNat false = false
    · have e : closeF N h C s x = s := if_pos hc
      rw [e]
      obtain ⟨h1, h2, h3⟩ := closeF_exact hC M s (fun y hy => hM y (by simp [hy])) hl hs
      refine ⟨h1, h2, fun a ha => (h3 a ha).trans ?_⟩
      simp only [List.mem_cons, exists_eq_or_imp]
      constructor
      · rintro (h4 | ⟨h4, h5⟩)
        · exact .inl h4
        · exact .inr ⟨.inr h4, h5⟩
      · rintro (h4 | ⟨h4 | h4, h5⟩)
        · exact .inl h4
        · have e2 : (lnN x).toNat = a := by omega
          rw [e2] at hc
          rcases hc with h6 | h6
          · exact .inl h6
          · rw [h6] at h5; cases h5
        · exact .inr ⟨h4, h5⟩
    · have e : closeF N h C s x = (min (s.1 + (stepsL C (unitL N (lnN x).toNat) h).getD (lnN x).toNat 0) 1099511627777, s.2.set (lnN x).toNat true) := if_neg hc
      have hd : s.2.getD (lnN x).toNat false = false := by
        cases hh : s.2.getD (lnN x).toNat false with
        | false => rfl
        | true => exact absurd (.inl hh) hc
      have hso : (southL N C).getD (lnN x).toNat false = true := by
        cases hh : (southL N C).getD (lnN x).toNat false with
        | true => rfl
        | false => exact absurd (.inr hh) hc
      have hset : ∀ a, a ≠ (lnN x).toNat → (s.2.set (lnN x).toNat true).getD a false = s.2.getD a false := fun a ha => by
        rw [List.getD_eq_getElem?_getD, List.getElem?_set_ne (Ne.symm ha), ← List.getD_eq_getElem?_getD]
      have hself : (s.2.set (lnN x).toNat true).getD (lnN x).toNat false = true := by
        rw [List.getD_eq_getElem?_getD, List.getElem?_set_self (by omega)]; rfl
      rw [e]
      obtain ⟨h1, h2, h3⟩ := closeF_exact (h := h) hC M (min (s.1 + (stepsL C (unitL N (lnN x).toNat) h).getD (lnN x).toNat 0) 1099511627777, s.2.set (lnN x).toNat true) (fun y hy => hM y (by simp [hy])) (by simpa using hl) (by
        dsimp only
        rw [hs, (steps_from hC h).2 _ hlt, capI_add]
        congr 1
        symm
        refine tot_update (F := fun a : Nat => Pt C lnN lnS (a : Int) h (a : Int)) hlt ?_ ?_ fun j hj => ?_
        · rw [if_neg (by rw [hd]; decide)]
        · rw [if_pos hself]
        · rw [hset j hj])
      refine ⟨h1, h2, fun a ha => (h3 a ha).trans ?_⟩
      simp only [List.mem_cons, exists_eq_or_imp]
      by_cases ea : a = (lnN x).toNat
      · subst ea
        rw [hself]
        simp only [true_or, true_iff]
        exact .inr ⟨.inl (by omega), hso⟩
      · rw [hset a ea]
        constructor
        · rintro (h4 | ⟨h4, h5⟩)
          · exact .inl h4
          · exact .inr ⟨.inr h4, h5⟩
        · rintro (h4 | ⟨h4 | h4, h5⟩)
          · exact .inl h4
          · exact absurd (by omega) ea
          · exact .inr ⟨h4, h5⟩

/-- What closed counts. -/
theorem closed_exact {N h : Nat} {C : List Line} (hC : LnOk N C) (hh : 0 < h) : (closedS N h C).1 = capI (roundN C lnN lnS h) := by
  obtain ⟨m, rfl⟩ : ∃ m, h = m + 1 := ⟨h - 1, by omega⟩
  have hf : ∀ a, (List.replicate N false).getD a false = false := fun a => by
    rw [List.getD_eq_getElem?_getD, List.getElem?_replicate]
    split <;> rfl
  obtain ⟨h1, h2, h3⟩ := closeF_exact (h := m + 1) hC C (0, List.replicate N false) (fun x hx => hx) (by simp) (by
    rw [tot_zero fun a _ => by rw [hf]; rfl]; rfl)
  rw [closedS, h2, ← round_sum (N := N) (fun x hx => (hC x hx).2) hh]
  congr 1
  refine tot_congr fun a ha => ?_
  have hal := List.mem_range.1 ha
  have h4 := h3 a hal
  by_cases hd : (C.foldl (closeF N (m + 1) C) (0, List.replicate N false)).2.getD a false = true
  · rw [if_pos hd]
  · rw [if_neg hd]
    symm
    by_cases hn : ∃ x ∈ C, lnN x = (a : Int)
    · refine pt_south fun x hx e => hd (h4.2 (.inr ⟨hn, ((south_at hC hal).2).2 ⟨x, hx, e⟩⟩))
    · exact pt_north (fun x hx e => hn ⟨x, hx, e⟩) m _

end Go.Proofs.Ytgalbokmgffhkaa

/- Lifted texts, printed by program (gen.py): what each function's code asks. The ties are by the kernel. -/
namespace Go.Proofs.Ytgalbokmgffhkaa
open Go.Lf Go.RowKit

def S27L0 (t1 t10 t12 t13 t24 : Value) (R : Ending → World → Prop) (w : World) : Prop :=
  Loop2 (.slice none 0 0) t13 w fun _ t11 t13_2 w next =>
    ld1 w t13_2 fun t31 =>
    binQ Try.prog w .geq 3 true t31 (.int .i64 0) fun t32 =>
    condW t32 (
      callW Try.prog (.func (.func 77) #[] #[]) [t24, (.func (.func 78) #[] #[t12, t10, t13_2])] w fun t37 w =>
      binQ Try.prog w .lss 3 true t37 (.int .i64 0) fun t39 =>
      condW t39 (
        R (.returned (.tuple #[(.slice none 0 0), (.int .i64 10)])) w
      ) (
        Drew w fun w =>
        ∃ X : Nat → Prop,
        takeX X w (fun w k => k t11) fun t40 =>
        takeX X w (fun w k => k t24) fun t41 =>
        takeX X w (fun w k => k t37) fun t42 =>
        takeX X w (fun w k => iaS 7 t41 t42 k) fun t43 =>
        takeX X w (fun w k => fa1 t43 0 k) fun t44 =>
        takeX X w (fun w k => k t1) fun t45 =>
        takeX X w (fun w k => slA 4 1 t44 none (some t45) k) fun t46 =>
        takeX X w (fun w k => k t24) fun t50 =>
        takeX X w (fun w k => k t37) fun t51 =>
        takeX X w (fun w k => iaS 7 t50 t51 k) fun t52 =>
        takeX X w (fun w k => fa1 t52 5 k) fun t53 =>
        takeX X w (fun w k => ld1 w t53 k) fun t54 =>
        callW Try.prog (.func (.func 79) #[] #[]) [t46] w <| keepX X w fun t47 w =>
        bsW Try.prog 23 1 [(0, t47)] w <| keepX X w fun t48 w =>
        semW Try.prog (apS [23, 23] 23 [t40, t48]) w <| keepX X w fun t49 w =>
        takeX X w (fun w k => k t49) fun t11_2 =>
        stW Try.prog 3 t12 t54 w fun w =>
        ld1 w t13_2 fun t55 =>
        boxW 3 (.int .i64 0) w fun t13_3 w =>
        stW Try.prog 3 t13_3 t55 w fun w =>
        ld1 w t13_3 fun t33 =>
        binQ Try.prog w .sub 3 true t33 (.int .i64 1) fun t34 =>
        stW Try.prog 3 t13_3 t34 w fun w =>
        next t11_2 t13_3 w
      )
    ) (
      R (.returned (.tuple #[t11, (.int .i64 0)])) w
    )

def S27 (t0 t1 t2 : Value) (w : World) (R : Ending → World → Prop) : Prop :=
  callW Try.prog (.func (.func 53) #[] #[]) [t0, t1, t2] w fun t18 w =>
  binQ Try.prog w .neq 26 true t18 (.int .i64 0) fun t20 =>
  condW t20 (
    R (.returned (.tuple #[(.slice none 0 0), t18])) w
  ) (
    callW Try.prog (.func (.func 59) #[] #[]) [t0, t1] w fun t24 w =>
    callW Try.prog (.func (.func 76) #[] #[]) [t24, t1, t2] w fun t28 w =>
    boxW 88 (.slice none 0 0) w fun t10 w =>
    stW Try.prog 88 t10 t28 w fun w =>
    boxW 3 (.int .i64 0) w fun t12 w =>
    stW Try.prog 3 t12 (.int .i64 (-1)) w fun w =>
    binQ Try.prog w .sub 3 true t2 (.int .i64 1) fun t30 =>
    boxW 3 (.int .i64 0) w fun t13 w =>
    stW Try.prog 3 t13 t30 w fun w =>
    S27L0 t1 t10 t12 t13 t24 R w
  )

def A27 : Ann where
  live := fun
    | 0 => [11, 13]
    | _ => []
  wr := fun
    | 0 => fun i => (Nat.ble 6 i && Nat.ble i 7) || Nat.beq i 11 || (Nat.ble 13 i && Nat.ble i 14) || (Nat.ble 31 i && Nat.ble i 55)
    | _ => fun _ => false
  sched := fun
    | 14 => (.cls (.take 0 (.take 1 (.take 2 (.take 3 (.take 4 (.take 5 (.take 6 (.take 10 (.take 11 (.take 12 (.take 13 (.take 14 (.eff 7 (.eff 8 (.eff 9 (.take 15 (.bar 16 .done))))))))))))))))))
    | _ => .done

set_option maxRecDepth 100000 in
theorem ok27 : (codeOk Try.f27.ntmps A27 (Try.f27.body.getD .skip) 0 && Nat.ble 3 Try.f27.ntmps) = true := by kernel_rfl
set_option maxRecDepth 100000 in
theorem lift27 {t0 t1 t2 : Value} {w : World} {R : Ending → World → Prop} (h : S27 t0 t1 t2 w R) : Calls Try.prog 27 #[t0, t1, t2] w R :=
  calls_of_cw (fn := Try.f27) (c := Try.f27.body.getD .skip) A27 mixes Try.func27 (by kernel_rfl) ok27
    ((by kernel_rfl : (S27 t0 t1 t2 w R) = cw Try.prog A27 (Try.f27.body.getD .skip) 0 (bodyQ Try.prog Try.f27 R) (frOf #[t0, t1, t2]) w).mp h)

def S77L0 (t0 t1 t7 : Value) (R : Ending → World → Prop) (w : World) : Prop :=
  Loop1 (.int .i64 0) w fun _ t8 w next =>
    binQ Try.prog w .lss 3 false t8 t7 fun t9 =>
    condW t9 (
      iaS 7 t0 t8 fun t14 =>
      ldN 7 w t14 fun t15 =>
      callW Try.prog t1 [t15] w fun t16 w =>
      condW t16 (
        R (.returned t8) w
      ) (
        binQ Try.prog w .add 3 true t8 (.int .i64 1) fun t18 =>
        next t18 w
      )
    ) (
      R (.returned (.int .i64 (-1))) w
    )



def S77 (t0 t1 : Value) (w : World) (R : Ending → World → Prop) : Prop :=
  ln1 t0 fun t7 =>
  S77L0 t0 t1 t7 R w

def A77 : Ann where
  live := fun
    | 0 => [8]
    | _ => []
  wr := fun
    | 0 => fun i => (Nat.ble 4 i && Nat.ble i 5) || (Nat.ble 8 i && Nat.ble i 18)
    | _ => fun _ => false
  sched := fun _ => .done

set_option maxRecDepth 100000 in
theorem ok77 : (codeOk Try.f77.ntmps A77 (Try.f77.body.getD .skip) 0 && Nat.ble 2 Try.f77.ntmps) = true := by kernel_rfl
set_option maxRecDepth 100000 in
theorem lift77 {t0 t1 : Value} {w : World} {R : Ending → World → Prop} (h : S77 t0 t1 w R) : Calls Try.prog 77 #[t0, t1] w R :=
  calls_of_cw (fn := Try.f77) (c := Try.f77.body.getD .skip) A77 mixes Try.func77 (by kernel_rfl) ok77
    ((by kernel_rfl : (S77 t0 t1 w R) = cw Try.prog A77 (Try.f77.body.getD .skip) 0 (bodyQ Try.prog Try.f77 R) (frOf #[t0, t1]) w).mp h)

def S78 (t0 t1 t2 t3 : Value) (w : World) (R : Ending → World → Prop) : Prop :=
  boxW 78 t0 w fun t4 w =>
  Drew w fun w =>
  ld1 w t1 fun t6 =>
  binQ Try.prog w .lss 3 true t6 (.int .i64 0) fun t7 =>
  gdQ t7 false (fun k => fa1 t4 4 k) fun t9 =>
  gdQ t7 false (fun k => ld1 w t9 k) fun t10 =>
  gdQ t7 false (fun k => ld1 w t1 k) fun t11 =>
  gdQ t7 false (fun k => binQ Try.prog w .eql 3 false t10 t11 k) fun t12 =>
  pickQ t7 (.bool true) t12 fun t13 =>
  gdQ t13 true (fun k => ld1 w t2 k) fun t15 =>
  gdQ t13 true (fun k => ld1 w t3 k) fun t16 =>
  gdQ t13 true (fun k => iaS 1 t15 t16 k) fun t17 =>
  gdQ t13 true (fun k => ld1 w t17 k) fun t18 =>
  gdQ t13 true (fun k => fa1 t4 5 k) fun t19 =>
  gdQ t13 true (fun k => ld1 w t19 k) fun t20 =>
  gdQ t13 true (fun k => iaS 1 t18 t20 k) fun t21 =>
  gdQ t13 true (fun k => ld1 w t21 k) fun t22 =>
  pickQ t13 t22 (.bool false) fun t23 =>
  R (.returned t23) w

def A78 : Ann where
  live := fun _ => []
  wr := fun _ _ => false
  sched := fun
    | 1 => (.take 0 (.take 1 (.take 2 (.take 3 (.take 4 (.take 5 (.take 6 (.take 7 (.take 8 (.take 9 (.take 10 (.take 11 (.take 12 (.take 13 (.take 14 (.take 15 (.take 16 (.take 17 (.take 18 .done)))))))))))))))))))
    | _ => .done

set_option maxRecDepth 100000 in
theorem ok78 : (codeOk Try.f78.ntmps A78 (Try.f78.body.getD .skip) 0 && Nat.ble 4 Try.f78.ntmps) = true := by kernel_rfl
set_option maxRecDepth 100000 in
theorem lift78 {t0 t1 t2 t3 : Value} {w : World} {R : Ending → World → Prop} (h : S78 t0 t1 t2 t3 w R) : Calls Try.prog 78 #[t0, t1, t2, t3] w R :=
  calls_of_cw (fn := Try.f78) (c := Try.f78.body.getD .skip) A78 mixes Try.func78 (by kernel_rfl) ok78
    ((by kernel_rfl : (S78 t0 t1 t2 t3 w R) = cw Try.prog A78 (Try.f78.body.getD .skip) 0 (bodyQ Try.prog Try.f78 R) (frOf #[t0, t1, t2, t3]) w).mp h)

def S24 (t0 t1 : Value) (w : World) (R : Ending → World → Prop) : Prop :=
  callW Try.prog (.func (.func 70) #[] #[]) [t0] w fun t6 w =>
  ln1 t6 fun t7 =>
  callW Try.prog (.func (.func 69) #[] #[]) [t7, t1] w fun t9 w =>
  binQ Try.prog w .mul 3 true t9 (.int .i64 8) fun t10 =>
  R (.returned t10) w

def A24 : Ann where
  live := fun _ => []
  wr := fun _ _ => false
  sched := fun _ => .done

set_option maxRecDepth 100000 in
theorem ok24 : (codeOk Try.f24.ntmps A24 (Try.f24.body.getD .skip) 0 && Nat.ble 2 Try.f24.ntmps) = true := by kernel_rfl
set_option maxRecDepth 100000 in
theorem lift24 {t0 t1 : Value} {w : World} {R : Ending → World → Prop} (h : S24 t0 t1 w R) : Calls Try.prog 24 #[t0, t1] w R :=
  calls_of_cw (fn := Try.f24) (c := Try.f24.body.getD .skip) A24 mixes Try.func24 (by kernel_rfl) ok24
    ((by kernel_rfl : (S24 t0 t1 w R) = cw Try.prog A24 (Try.f24.body.getD .skip) 0 (bodyQ Try.prog Try.f24 R) (frOf #[t0, t1]) w).mp h)

def S26 (t0 t1 t2 : Value) (w : World) (R : Ending → World → Prop) : Prop :=
  callW Try.prog (.func (.func 23) #[] #[]) [t0, t1, t2] w fun t13 w =>
  binQ Try.prog w .neq 26 true t13 (.int .i64 0) fun t15 =>
  condW t15 (
    R (.returned (.tuple #[(.int .i64 0), t13])) w
  ) (
    callW Try.prog (.func (.func 75) #[] #[]) [t0, t1, t2] w fun t20 w =>
    iaS 1 t20 (.int .i64 0) fun t21 =>
    ld1 w t21 fun t22 =>
    iaS 1 t22 (.int .i64 0) fun t23 =>
    ld1 w t23 fun t24 =>
    binQ Try.prog w .gtr 3 true t24 (.int .i64 1099511627776) fun t26 =>
    condW t26 (
      R (.returned (.tuple #[(.int .i64 0), (.int .i64 8)])) w
    ) (
      R (.returned (.tuple #[t24, (.int .i64 0)])) w
    )
  )

def A26 : Ann where
  live := fun _ => []
  wr := fun _ _ => false
  sched := fun _ => .done

set_option maxRecDepth 100000 in
theorem ok26 : (codeOk Try.f26.ntmps A26 (Try.f26.body.getD .skip) 0 && Nat.ble 3 Try.f26.ntmps) = true := by kernel_rfl
set_option maxRecDepth 100000 in
theorem lift26 {t0 t1 t2 : Value} {w : World} {R : Ending → World → Prop} (h : S26 t0 t1 t2 w R) : Calls Try.prog 26 #[t0, t1, t2] w R :=
  calls_of_cw (fn := Try.f26) (c := Try.f26.body.getD .skip) A26 mixes Try.func26 (by kernel_rfl) ok26
    ((by kernel_rfl : (S26 t0 t1 t2 w R) = cw Try.prog A26 (Try.f26.body.getD .skip) 0 (bodyQ Try.prog Try.f26 R) (frOf #[t0, t1, t2]) w).mp h)

def S28L1 (t0 t1 t11 t13 t14 t27 t35 : Value) (k_3 : Value → Value → World → Prop) (w : World) : Prop :=
  Loop3 t11 t13 (.int .i64 0) w fun _ t11_3 t13_4 t15 w next_2 =>
    ln1 t0 fun t45 =>
    binQ Try.prog w .lss 3 false t15 t45 fun t46 =>
    condW t46 (
      iaS 4 t0 t15 fun t51 =>
      ldN 4 w t51 fun t52 =>
      callW Try.prog (.func (.func 80) #[] #[]) [t52, t35, t1, t14, t11_3] w fun t57 w =>
      binQ Try.prog w .geq 3 true t57 (.int .i64 0) fun t59 =>
      gd t59 true (fun k => k t27 w) w fun t61 w =>
      gd t59 true (fun k => k t14 w) w fun t62 w =>
      gd t59 true (fun k => binQ Try.prog w .add 3 true t62 (.int .i64 1) fun v => k v w) w fun t63 w =>
      gd t59 true (fun k => iaS 1 t61 t63 fun v => k v w) w fun t64 w =>
      gd t59 true (fun k => ld1 w t64 fun v => k v w) w fun t65 w =>
      gd t59 true (fun k => k t57 w) w fun t66 w =>
      gd t59 true (fun k => iaS 1 t65 t66 fun v => k v w) w fun t67 w =>
      gd t59 true (fun k => ld1 w t67 fun v => k v w) w fun t68 w =>
      gd t59 true (fun k => binQ Try.prog w .gtr 3 true t68 (.int .i64 0) fun v => k v w) w fun t69 w =>
      pickQ t59 t69 (.bool false) fun t70 =>
      condW t70 (
        bsW Try.prog 30 1 [(0, t15)] w fun t74 w =>
        semW Try.prog (apS [30, 30] 30 [t13_4, t74]) w fun t75 w =>
        k_3 t57 t75 w
      ) (
        binQ Try.prog w .add 3 true t15 (.int .i64 1) fun t48 =>
        next_2 t11_3 t13_4 t48 w
      )
    ) (
      k_3 t11_3 t13_4 w
    )

def S28L0 (t0 t1 t2 t27 t35 : Value) (R : Ending → World → Prop) (w : World) : Prop :=
  Loop4 (.int .i64 0) (.slice none 0 0) (.slice none 0 0) (.int .i64 0) w fun _ t11 t12 t13 t14 w next =>
    binQ Try.prog w .mul 3 false t1 t2 fun t39 =>
    binQ Try.prog w .lss 3 false t14 t39 fun t40 =>
    condW t40 (
      Join (fun (k_3 : Value → Value → World → Prop) =>
        S28L1 t0 t1 t11 t13 t14 t27 t35 k_3 w
      ) fun t11_2 t13_3 w =>
      ln1 t13_3 fun t77_2 =>
      binQ Try.prog w .eql 3 false t77_2 t1 fun t79_2 =>
      Join (fun (k_4 : Value → Value → World → Prop) =>
        condW t79_2 (
          bsW Try.prog 23 1 [(0, t13_3)] w fun t82_2 w =>
          semW Try.prog (apS [23, 23] 23 [t12, t82_2]) w fun t83_2 w =>
          k_4 t83_2 (.slice none 0 0) w
        ) (
          k_4 t12 t13_3 w
        )
      ) fun t12_3 t13_5 w =>
      binQ Try.prog w .add 3 true t14 (.int .i64 1) fun t42_4 =>
      next t11_2 t12_3 t13_5 t42_4 w
    ) (
      R (.returned (.tuple #[t12, (.int .i64 0)])) w
    )

def S28 (t0 t1 t2 : Value) (w : World) (R : Ending → World → Prop) : Prop :=
  callW Try.prog (.func (.func 23) #[] #[]) [t0, t1, t2] w fun t20 w =>
  binQ Try.prog w .neq 26 true t20 (.int .i64 0) fun t22 =>
  condW t22 (
    R (.returned (.tuple #[(.slice none 0 0), t20])) w
  ) (
    callW Try.prog (.func (.func 75) #[] #[]) [t0, t1, t2] w fun t27 w =>
    iaS 1 t27 (.int .i64 0) fun t29 =>
    ld1 w t29 fun t30 =>
    iaS 1 t30 (.int .i64 0) fun t31 =>
    ld1 w t31 fun t32 =>
    binQ Try.prog w .eql 3 true t32 (.int .i64 0) fun t33 =>
    condW t33 (
      R (.returned (.tuple #[(.slice none 0 0), (.int .i64 10)])) w
    ) (
      callW Try.prog (.func (.func 70) #[] #[]) [t0] w fun t35 w =>
      S28L0 t0 t1 t2 t27 t35 R w
    )
  )

def A28 : Ann where
  live := fun
    | 0 => [11, 12, 13, 14]
    | 2 => [11, 13, 15]
    | _ => []
  wr := fun
    | 0 => fun i => (Nat.ble 11 i && Nat.ble i 16) || (Nat.ble 36 i && Nat.ble i 83)
    | 2 => fun i => Nat.beq i 11 || Nat.beq i 13 || (Nat.ble 15 i && Nat.ble i 16) || (Nat.ble 43 i && Nat.ble i 75)
    | _ => fun _ => false
  sched := fun _ => .done

set_option maxRecDepth 100000 in
theorem ok28 : (codeOk Try.f28.ntmps A28 (Try.f28.body.getD .skip) 0 && Nat.ble 3 Try.f28.ntmps) = true := by kernel_rfl
set_option maxRecDepth 100000 in
theorem lift28 {t0 t1 t2 : Value} {w : World} {R : Ending → World → Prop} (h : S28 t0 t1 t2 w R) : Calls Try.prog 28 #[t0, t1, t2] w R :=
  calls_of_cw (fn := Try.f28) (c := Try.f28.body.getD .skip) A28 mixes Try.func28 (by kernel_rfl) ok28
    ((by kernel_rfl : (S28 t0 t1 t2 w R) = cw Try.prog A28 (Try.f28.body.getD .skip) 0 (bodyQ Try.prog Try.f28 R) (frOf #[t0, t1, t2]) w).mp h)

def S69L0 (t0 t1 : Value) (R : Ending → World → Prop) (w : World) : Prop :=
  Loop2 (.int .i64 1) (.int .i64 0) w fun _ t5 t6 w next =>
    binQ Try.prog w .lss 3 false t6 t1 fun t9 =>
    condW t9 (
      binQ Try.prog w .mul 3 false t5 t0 fun t14 =>
      binQ Try.prog w .add 3 true t6 (.int .i64 1) fun t11 =>
      next t14 t11 w
    ) (
      R (.returned t5) w
    )



def S69 (t0 t1 : Value) (w : World) (R : Ending → World → Prop) : Prop :=
  S69L0 t0 t1 R w

def A69 : Ann where
  live := fun
    | 0 => [5, 6]
    | _ => []
  wr := fun
    | 0 => fun i => (Nat.ble 5 i && Nat.ble i 14)
    | _ => fun _ => false
  sched := fun _ => .done

set_option maxRecDepth 100000 in
theorem ok69 : (codeOk Try.f69.ntmps A69 (Try.f69.body.getD .skip) 0 && Nat.ble 2 Try.f69.ntmps) = true := by kernel_rfl
set_option maxRecDepth 100000 in
theorem lift69 {t0 t1 : Value} {w : World} {R : Ending → World → Prop} (h : S69 t0 t1 w R) : Calls Try.prog 69 #[t0, t1] w R :=
  calls_of_cw (fn := Try.f69) (c := Try.f69.body.getD .skip) A69 mixes Try.func69 (by kernel_rfl) ok69
    ((by kernel_rfl : (S69 t0 t1 w R) = cw Try.prog A69 (Try.f69.body.getD .skip) 0 (bodyQ Try.prog Try.f69 R) (frOf #[t0, t1]) w).mp h)

def S70L1 (t0 t3 t4 : Value) (next : Value → Value → World → Prop) (w : World) : Prop :=
  Loop2 (.bool false) (.int .i64 0) w fun _ t5 t6 w next_2 =>
    ln1 t0 fun t13 =>
    binQ Try.prog w .lss 3 false t6 t13 fun t14 =>
    condW t14 (
      gd t5 false (fun k => k t0 w) w fun t19 w =>
      gd t5 false (fun k => k t6 w) w fun t20 w =>
      gd t5 false (fun k => iaS 4 t19 t20 fun v => k v w) w fun t21 w =>
      gd t5 false (fun k => fa1 t21 0 fun v => k v w) w fun t22 w =>
      gd t5 false (fun k => ld1 w t22 fun v => k v w) w fun t23 w =>
      gd t5 false (fun k => k t4 w) w fun t24 w =>
      gd t5 false (fun k => binQ Try.prog w .eql 3 false t23 t24 fun v => k v w) w fun t25 w =>
      pickQ t5 (.bool true) t25 fun t26 =>
      gd t26 false (fun k => k t0 w) w fun t28 w =>
      gd t26 false (fun k => k t6 w) w fun t29 w =>
      gd t26 false (fun k => iaS 4 t28 t29 fun v => k v w) w fun t30 w =>
      gd t26 false (fun k => fa1 t30 2 fun v => k v w) w fun t31 w =>
      gd t26 false (fun k => ld1 w t31 fun v => k v w) w fun t32 w =>
      gd t26 false (fun k => k t4 w) w fun t33 w =>
      gd t26 false (fun k => binQ Try.prog w .eql 3 false t32 t33 fun v => k v w) w fun t34 w =>
      pickQ t26 (.bool true) t34 fun t35 =>
      binQ Try.prog w .add 3 true t6 (.int .i64 1) fun t16 =>
      next_2 t35 t16 w
    ) (
      Join (fun (k_2 : Value → World → Prop) =>
        condW t5 (
          bsW Try.prog 30 1 [(0, t4)] w fun t39 w =>
          semW Try.prog (apS [30, 30] 30 [t3, t39]) w fun t40 w =>
          k_2 t40 w
        ) (
          k_2 t3 w
        )
      ) fun t3_2 w =>
      binQ Try.prog w .add 3 true t4 (.int .i64 1) fun t10_2 =>
      next t3_2 t10_2 w
    )

def S70L0 (t0 : Value) (R : Ending → World → Prop) (w : World) : Prop :=
  Loop2 (.slice none 0 0) (.int .i64 0) w fun _ t3 t4 w next =>
    binQ Try.prog w .leq 3 true t4 (.int .i64 7) fun t8 =>
    condW t8 (
      S70L1 t0 t3 t4 next w
    ) (
      R (.returned t3) w
    )



def S70 (t0 : Value) (w : World) (R : Ending → World → Prop) : Prop :=
  S70L0 t0 R w

def A70 : Ann where
  live := fun
    | 0 => [3, 4]
    | 2 => [5, 6]
    | _ => []
  wr := fun
    | 0 => fun i => (Nat.ble 3 i && Nat.ble i 40)
    | 2 => fun i => (Nat.ble 5 i && Nat.ble i 6) || (Nat.ble 11 i && Nat.ble i 35)
    | _ => fun _ => false
  sched := fun _ => .done

set_option maxRecDepth 100000 in
theorem ok70 : (codeOk Try.f70.ntmps A70 (Try.f70.body.getD .skip) 0 && Nat.ble 1 Try.f70.ntmps) = true := by kernel_rfl
set_option maxRecDepth 100000 in
theorem lift70 {t0 : Value} {w : World} {R : Ending → World → Prop} (h : S70 t0 w R) : Calls Try.prog 70 #[t0] w R :=
  calls_of_cw (fn := Try.f70) (c := Try.f70.body.getD .skip) A70 mixes Try.func70 (by kernel_rfl) ok70
    ((by kernel_rfl : (S70 t0 w R) = cw Try.prog A70 (Try.f70.body.getD .skip) 0 (bodyQ Try.prog Try.f70 R) (frOf #[t0]) w).mp h)

def S75L3 (t0 t1 t13 t14 t19 t31 : Value) (next_3 : Value → World → Prop) (w : World) : Prop :=
  Loop2 (.int .i64 0) (.int .i64 0) w fun _ t15 t16 w next_4 =>
    ln1 t0 fun t72 =>
    binQ Try.prog w .lss 3 false t16 t72 fun t73 =>
    condW t73 (
      iaS 4 t0 t16 fun t78 =>
      ldN 4 w t78 fun t79 =>
      callW Try.prog (.func (.func 80) #[] #[]) [t79, t19, t1, t13, t14] w fun t84 w =>
      binQ Try.prog w .geq 3 true t84 (.int .i64 0) fun t86 =>
      Join (fun (k_2 : Value → World → Prop) =>
        condW t86 (
          binQ Try.prog w .add 3 true t13 (.int .i64 1) fun t90 =>
          iaS 1 t31 t90 fun t91 =>
          ld1 w t91 fun t92 =>
          iaS 1 t92 t84 fun t94 =>
          ld1 w t94 fun t95 =>
          binQ Try.prog w .add 3 false t15 t95 fun t96 =>
          callW Try.prog (.func (.func 88) #[] #[]) [t96] w fun t97 w =>
          k_2 t97 w
        ) (
          k_2 t15 w
        )
      ) fun t15_2 w =>
      binQ Try.prog w .add 3 true t16 (.int .i64 1) fun t75_2 =>
      next_4 t15_2 t75_2 w
    ) (
      iaS 1 t31 t13 fun t100 =>
      ld1 w t100 fun t101 =>
      iaS 1 t101 t14 fun t104 =>
      stW Try.prog 3 t104 t15 w fun w =>
      binQ Try.prog w .add 3 true t14 (.int .i64 1) fun t69 =>
      next_3 t69 w
    )

def S75L2 (t0 t1 t13 t19 t26 t31 : Value) (next_2 : Value → World → Prop) (w : World) : Prop :=
  Loop1 (.int .i64 0) w fun _ t14 w next_3 =>
    binQ Try.prog w .lss 3 false t14 t26 fun t67 =>
    condW t67 (
      S75L3 t0 t1 t13 t14 t19 t31 next_3 w
    ) (
      binQ Try.prog w .sub 3 true t13 (.int .i64 1) fun t59 =>
      next_2 t59 w
    )

def S75L1 (t0 t1 t19 t26 t31 t55 : Value) (R : Ending → World → Prop) (w : World) : Prop :=
  Loop1 t55 w fun _ t13 w next_2 =>
    binQ Try.prog w .geq 3 true t13 (.int .i64 0) fun t57 =>
    condW t57 (
      mkW Try.prog 30 t26 t26 w fun t63 w =>
      iaS 1 t31 t13 fun t64 =>
      stW Try.prog 30 t64 t63 w fun w =>
      S75L2 t0 t1 t13 t19 t26 t31 next_2 w
    ) (
      R (.returned t31) w
    )

def S75L0 (t0 t1 t2 t19 t26 t31 : Value) (R : Ending → World → Prop) (w : World) : Prop :=
  Loop1 (.int .i64 0) w fun _ t12 w next =>
    binQ Try.prog w .lss 3 false t12 t26 fun t41 =>
    condW t41 (
      binQ Try.prog w .mul 3 false t1 t2 fun t47 =>
      iaS 1 t31 t47 fun t48 =>
      ld1 w t48 fun t49 =>
      iaS 1 t49 t12 fun t51 =>
      stW Try.prog 3 t51 (.int .i64 1) w fun w =>
      binQ Try.prog w .add 3 true t12 (.int .i64 1) fun t43 =>
      next t43 w
    ) (
      binQ Try.prog w .mul 3 false t1 t2 fun t54 =>
      binQ Try.prog w .sub 3 true t54 (.int .i64 1) fun t55 =>
      S75L1 t0 t1 t19 t26 t31 t55 R w
    )



def S75 (t0 t1 t2 : Value) (w : World) (R : Ending → World → Prop) : Prop :=
  callW Try.prog (.func (.func 70) #[] #[]) [t0] w fun t19 w =>
  ln1 t19 fun t21 =>
  callW Try.prog (.func (.func 69) #[] #[]) [t21, t1] w fun t24 w =>
  binQ Try.prog w .mul 3 false t24 (.int .i64 8) fun t26 =>
  binQ Try.prog w .mul 3 false t1 t2 fun t29 =>
  binQ Try.prog w .add 3 true t29 (.int .i64 1) fun t30 =>
  mkW Try.prog 23 t30 t30 w fun t31 w =>
  binQ Try.prog w .mul 3 false t1 t2 fun t35 =>
  mkW Try.prog 30 t26 t26 w fun t37 w =>
  iaS 1 t31 t35 fun t38 =>
  stW Try.prog 30 t38 t37 w fun w =>
  S75L0 t0 t1 t2 t19 t26 t31 R w

def A75 : Ann where
  live := fun
    | 0 => [12]
    | 2 => [13]
    | 4 => [14]
    | 6 => [15, 16]
    | _ => []
  wr := fun
    | 0 => fun i => Nat.beq i 12 || (Nat.ble 39 i && Nat.ble i 51)
    | 2 => fun i => (Nat.ble 13 i && Nat.ble i 17) || (Nat.ble 56 i && Nat.ble i 104)
    | 4 => fun i => (Nat.ble 14 i && Nat.ble i 17) || (Nat.ble 65 i && Nat.ble i 104)
    | 6 => fun i => (Nat.ble 15 i && Nat.ble i 17) || (Nat.ble 70 i && Nat.ble i 97)
    | _ => fun _ => false
  sched := fun _ => .done

set_option maxRecDepth 100000 in
theorem ok75 : (codeOk Try.f75.ntmps A75 (Try.f75.body.getD .skip) 0 && Nat.ble 3 Try.f75.ntmps) = true := by kernel_rfl
set_option maxRecDepth 100000 in
theorem lift75 {t0 t1 t2 : Value} {w : World} {R : Ending → World → Prop} (h : S75 t0 t1 t2 w R) : Calls Try.prog 75 #[t0, t1, t2] w R :=
  calls_of_cw (fn := Try.f75) (c := Try.f75.body.getD .skip) A75 mixes Try.func75 (by kernel_rfl) ok75
    ((by kernel_rfl : (S75 t0 t1 t2 w R) = cw Try.prog A75 (Try.f75.body.getD .skip) 0 (bodyQ Try.prog Try.f75 R) (frOf #[t0, t1, t2]) w).mp h)

def S80 (t0 t1 t2 t3 t4 : Value) (w : World) (R : Ending → World → Prop) : Prop :=
  boxW 32 t0 w fun t5 w =>
  ln1 t1 fun t17 =>
  binQ Try.prog w .rem 3 false t3 t2 fun t20 =>
  callW Try.prog (.func (.func 69) #[] #[]) [t17, t20] w fun t23 w =>
  binQ Try.prog w .mul 3 false t23 (.int .i64 8) fun t25 =>
  binQ Try.prog w .quo 3 false t4 t25 fun t28 =>
  binQ Try.prog w .rem 3 false t28 t17 fun t30 =>
  Drew w fun w =>
  binQ Try.prog w .geq 3 false t3 t2 fun t33 =>
  gdQ t33 true (fun k => k t1) fun t35 =>
  gdQ t33 true (fun k => k t30) fun t36 =>
  gdQ t33 true (fun k => iaS 1 t35 t36 k) fun t37 =>
  gdQ t33 true (fun k => ld1 w t37 k) fun t38 =>
  gdQ t33 true (fun k => fa1 t5 0 k) fun t39 =>
  gdQ t33 true (fun k => ld1 w t39 k) fun t40 =>
  gdQ t33 true (fun k => binQ Try.prog w .neq 3 false t38 t40 k) fun t41 =>
  pickQ t33 t41 (.bool false) fun t42 =>
  gdQ t42 false (fun k => k t20) fun t44 =>
  gdQ t42 false (fun k => binQ Try.prog w .gtr 3 true t44 (.int .i64 0) k) fun t45 =>
  gdQ t42 false (fun k => k t45) fun t46 =>
  gdQ t46 true (fun k => k t4) fun t47 =>
  gdQ t46 true (fun k => k (.int .i64 8)) fun t48 =>
  gdQ t46 true (fun k => binQ Try.prog w .rem 3 false t47 t48 k) fun t49 =>
  gdQ t46 true (fun k => fa1 t5 3 k) fun t50 =>
  gdQ t46 true (fun k => ld1 w t50 k) fun t51 =>
  gdQ t46 true (fun k => binQ Try.prog w .neq 3 false t49 t51 k) fun t52 =>
  gdQ t42 false (fun k => pickQ t46 t52 (.bool false) k) fun t53 =>
  pickQ t42 (.bool true) t53 fun t54 =>
  condW t54 (
    R (.returned (.int .i64 (-1))) w
  ) (
    Drew w fun w =>
    binQ Try.prog w .mul 3 false t30 t25 fun t58 =>
    binQ Try.prog w .sub 3 false t4 t58 fun t59 =>
    fa1 t5 2 fun t61 =>
    ld1 w t61 fun t62 =>
    binQ Try.prog w .rem 3 false t4 (.int .i64 8) fun t69 =>
    fa1 t5 1 fun t71 =>
    ld1 w t71 fun t72 =>
    callW Try.prog (.func (.func 107) #[] #[]) [t1, t62] w <| keepB w fun t63 w =>
    binQ Try.prog w .mul 3 false t63 t25 fun t65 =>
    binQ Try.prog w .add 3 false t59 t65 fun t66 =>
    binQ Try.prog w .sub 3 false t66 t69 fun t70 =>
    binQ Try.prog w .add 3 false t70 t72 fun t73 =>
    R (.returned t73) w
  )

def A80 : Ann where
  live := fun _ => []
  wr := fun _ _ => false
  sched := fun
    | 5 => (.take 0 (.take 1 (.take 2 (.take 3 (.take 4 (.take 5 (.take 6 (.take 7 (.take 8 (.take 9 (.take 10 (.take 11 (.take 12 (.take 13 (.take 14 (.take 15 (.take 16 (.take 17 (.take 18 (.take 19 (.take 20 (.take 21 (.take 22 (.take 23 .done))))))))))))))))))))))))
    | 7 => (.take 0 (.take 1 (.take 2 (.take 3 (.take 4 (.take 5 (.take 6 (.take 7 (.take 9 (.take 12 (.take 13 (.take 14 (.take 16 (.take 17 (.eff 8 (.take 10 (.take 11 (.take 15 (.take 18 (.take 19 .done))))))))))))))))))))
    | _ => .done

set_option maxRecDepth 100000 in
theorem ok80 : (codeOk Try.f80.ntmps A80 (Try.f80.body.getD .skip) 0 && Nat.ble 5 Try.f80.ntmps) = true := by kernel_rfl
set_option maxRecDepth 100000 in
theorem lift80 {t0 t1 t2 t3 t4 : Value} {w : World} {R : Ending → World → Prop} (h : S80 t0 t1 t2 t3 t4 w R) : Calls Try.prog 80 #[t0, t1, t2, t3, t4] w R :=
  calls_of_cw (fn := Try.f80) (c := Try.f80.body.getD .skip) A80 mixes Try.func80 (by kernel_rfl) ok80
    ((by kernel_rfl : (S80 t0 t1 t2 t3 t4 w R) = cw Try.prog A80 (Try.f80.body.getD .skip) 0 (bodyQ Try.prog Try.f80 R) (frOf #[t0, t1, t2, t3, t4]) w).mp h)

def S88 (t0 : Value) (w : World) (R : Ending → World → Prop) : Prop :=
  mnQ false [t0, (.int .i64 1099511627777)] fun t4 =>
  R (.returned t4) w

def A88 : Ann where
  live := fun _ => []
  wr := fun _ _ => false
  sched := fun _ => .done

set_option maxRecDepth 100000 in
theorem ok88 : (codeOk Try.f88.ntmps A88 (Try.f88.body.getD .skip) 0 && Nat.ble 1 Try.f88.ntmps) = true := by kernel_rfl
set_option maxRecDepth 100000 in
theorem lift88 {t0 : Value} {w : World} {R : Ending → World → Prop} (h : S88 t0 w R) : Calls Try.prog 88 #[t0] w R :=
  calls_of_cw (fn := Try.f88) (c := Try.f88.body.getD .skip) A88 mixes Try.func88 (by kernel_rfl) ok88
    ((by kernel_rfl : (S88 t0 w R) = cw Try.prog A88 (Try.f88.body.getD .skip) 0 (bodyQ Try.prog Try.f88 R) (frOf #[t0]) w).mp h)

def S107L0 (t0 t1 : Value) (R : Ending → World → Prop) (w : World) : Prop :=
  Loop1 (.int .i64 0) w fun _ t5 w next =>
    ln1 t0 fun t8 =>
    binQ Try.prog w .lss 3 false t5 t8 fun t9 =>
    condW t9 (
      iaS 1 t0 t5 fun t14 =>
      ld1 w t14 fun t15 =>
      binQ Try.prog w .eql 3 false t15 t1 fun t17 =>
      condW t17 (
        R (.returned t5) w
      ) (
        binQ Try.prog w .add 3 true t5 (.int .i64 1) fun t11 =>
        next t11 w
      )
    ) (
      R (.returned (.int .i64 (-1))) w
    )



def S107 (t0 t1 : Value) (w : World) (R : Ending → World → Prop) : Prop :=
  S107L0 t0 t1 R w

def A107 : Ann where
  live := fun
    | 0 => [5]
    | _ => []
  wr := fun
    | 0 => fun i => (Nat.ble 4 i && Nat.ble i 18)
    | _ => fun _ => false
  sched := fun _ => .done

set_option maxRecDepth 100000 in
theorem ok107 : (codeOk Try.f107.ntmps A107 (Try.f107.body.getD .skip) 0 && Nat.ble 2 Try.f107.ntmps) = true := by kernel_rfl
set_option maxRecDepth 100000 in
theorem lift107 {t0 t1 : Value} {w : World} {R : Ending → World → Prop} (h : S107 t0 t1 w R) : Calls Try.prog 107 #[t0, t1] w R :=
  calls_of_cw (fn := Try.f107) (c := Try.f107.body.getD .skip) A107 mixes Try.func107 (by kernel_rfl) ok107
    ((by kernel_rfl : (S107 t0 t1 w R) = cw Try.prog A107 (Try.f107.body.getD .skip) 0 (bodyQ Try.prog Try.f107 R) (frOf #[t0, t1]) w).mp h)

def S6 (t0 t1 t2 : Value) (w : World) (R : Ending → World → Prop) : Prop :=
  ln1 t0 fun t15 =>
  binQ Try.prog w .gtr 3 true t15 (.int .i64 40) fun t16 =>
  gd t16 false (fun k => k t0 w) w fun t18 w =>
  gd t16 false (fun k => k t1 w) w fun t19 w =>
  gd t16 false (fun k => k t2 w) w fun t20 w =>
  gd t16 false (fun k => callW Try.prog (.func (.func 23) #[] #[]) [t18, t19, t20] w k) w fun t21 w =>
  gd t16 false (fun k => binQ Try.prog w .eql 26 true t21 (.int .i64 0) fun v => k v w) w fun t22 w =>
  gd t16 false (fun k => k t22 w) w fun t23 w =>
  gd t23 true (fun k => k t0 w) w fun t24 w =>
  gd t23 true (fun k => k t1 w) w fun t25 w =>
  gd t23 true (fun k => callW Try.prog (.func (.func 24) #[] #[]) [t24, t25] w k) w fun t26 w =>
  gd t23 true (fun k => binQ Try.prog w .gtr 3 true t26 (.int .i64 60000) fun v => k v w) w fun t27 w =>
  gd t16 false (fun k => pickQ t23 t27 (.bool false) fun v => k v w) w fun t28 w =>
  pickQ t16 (.bool true) t28 fun t29 =>
  condW t29 (
    callW Try.prog (.func (.func 18) #[] #[]) [] w fun t30 w =>
    R (.returned t30) w
  ) (
    bsW Try.prog 22 0 [] w fun t31 w =>
    semW Try.prog (apS [22, 22] 22 [t31, t0]) w fun t33 w =>
    callW Try.prog (.func (.func 25) #[] #[]) [t33, t1, t2] w fun t38 w =>
    exQ t38 0 fun t39 =>
    exQ t38 1 fun t40 =>
    callW Try.prog (.func (.func 26) #[] #[]) [t0, t1, t2] w fun t45 w =>
    exQ t45 0 fun t46 =>
    exQ t45 1 fun t47 =>
    binQ Try.prog w .neq 3 false t39 t46 fun t50 =>
    gd t50 false (fun k => k t40 w) w fun t52 w =>
    gd t50 false (fun k => k t47 w) w fun t53 w =>
    gd t50 false (fun k => binQ Try.prog w .neq 26 false t52 t53 fun v => k v w) w fun t54 w =>
    pickQ t50 (.bool true) t54 fun t55 =>
    condW t55 (
      R (.returned (.bool false)) w
    ) (
      callW Try.prog (.func (.func 27) #[] #[]) [t33, t1, t2] w fun t60 w =>
      exQ t60 0 fun t61 =>
      exQ t60 1 fun t62 =>
      callW Try.prog (.func (.func 28) #[] #[]) [t0, t1, t2] w fun t67 w =>
      exQ t67 0 fun t68 =>
      exQ t67 1 fun t69 =>
      binQ Try.prog w .eql 26 false t62 t69 fun t72 =>
      gd t72 true (fun k => k t61 w) w fun t74 w =>
      gd t72 true (fun k => k t68 w) w fun t75 w =>
      gd t72 true (fun k => callW Try.prog (.func (.func 29) #[] #[]) [t74, t75] w k) w fun t76 w =>
      pickQ t72 t76 (.bool false) fun t77 =>
      gd t77 true (fun k => k t33 w) w fun t79 w =>
      gd t77 true (fun k => k t0 w) w fun t80 w =>
      gd t77 true (fun k => callW Try.prog (.func (.func 30) #[] #[]) [t79, t80] w k) w fun t81 w =>
      pickQ t77 t81 (.bool false) fun t82 =>
      gd t82 true (fun k => callW Try.prog (.func (.func 18) #[] #[]) [] w k) w fun t84 w =>
      pickQ t82 t84 (.bool false) fun t85 =>
      R (.returned t85) w
    )
  )

def A6 : Ann where
  live := fun _ => []
  wr := fun _ _ => false
  sched := fun _ => .done

set_option maxRecDepth 100000 in
theorem ok6 : (codeOk Try.f6.ntmps A6 (Try.f6.body.getD .skip) 0 && Nat.ble 3 Try.f6.ntmps) = true := by kernel_rfl
set_option maxRecDepth 100000 in
theorem lift6 {t0 t1 t2 : Value} {w : World} {R : Ending → World → Prop} (h : S6 t0 t1 t2 w R) : Calls Try.prog 6 #[t0, t1, t2] w R :=
  calls_of_cw (fn := Try.f6) (c := Try.f6.body.getD .skip) A6 mixes Try.func6 (by kernel_rfl) ok6
    ((by kernel_rfl : (S6 t0 t1 t2 w R) = cw Try.prog A6 (Try.f6.body.getD .skip) 0 (bodyQ Try.prog Try.f6 R) (frOf #[t0, t1, t2]) w).mp h)

theorem fok27 : fnOk Try.prog 27 = true := by kernel_rfl
theorem fok77 : fnOk Try.prog 77 = true := by kernel_rfl
theorem fok78 : fnOk Try.prog 78 = true := by kernel_rfl
theorem fok24 : fnOk Try.prog 24 = true := by kernel_rfl
theorem fok26 : fnOk Try.prog 26 = true := by kernel_rfl
theorem fok28 : fnOk Try.prog 28 = true := by kernel_rfl
theorem fok69 : fnOk Try.prog 69 = true := by kernel_rfl
theorem fok70 : fnOk Try.prog 70 = true := by kernel_rfl
theorem fok75 : fnOk Try.prog 75 = true := by kernel_rfl
theorem fok80 : fnOk Try.prog 80 = true := by kernel_rfl
theorem fok88 : fnOk Try.prog 88 = true := by kernel_rfl
theorem fok107 : fnOk Try.prog 107 = true := by kernel_rfl
theorem fok6 : fnOk Try.prog 6 = true := by kernel_rfl
end Go.Proofs.Ytgalbokmgffhkaa

/- Contracts: Lines, index, power, put of the specification. -/
namespace Go.Proofs.Ytgalbokmgffhkaa
open Go.Lf Go.RowKit Go.Wg

set_option maxRecDepth 100000 in
theorem power_calls {n k : Nat} (w : World) (hb : n ^ k ≤ 1000000) (hn : 0 < n) (hk : k ≤ 1000) : Calls Try.prog 69 #[.int .i64 n, .int .i64 k] w fun e w' => e = .returned (.int .i64 (n ^ k : Nat)) ∧ w = w' := by
  refine lift69 ?_
  unfold S69 S69L0
  refine ⟨fun t5 t6 wr => ∃ i : Nat, i ≤ k ∧ t6 = .int .i64 i ∧ t5 = .int .i64 (n ^ i : Nat) ∧ w = wr, fun _ t6 _ => k - (intOf t6).toNat, ⟨0, by omega, rfl, by simp, rfl⟩, ?_⟩
  rintro _ _ _ _ ⟨i, hi, rfl, rfl, rfl⟩
  by_cases hlt : i < k
  case neg =>
    have hlt' : ¬ (i : Int) < (k : Int) := by omega
    have : i = k := by omega
    subst this
    simp (disch := omega) only [r_ln, r_pick, r_pickT, r_pickF, r_condT, r_condF, r_gdTT, r_gdFF, r_gdTF, r_gdFT, r_gqTT, r_gqFF, r_gqTF, r_gqFT, r_not, r_lss, r_leq, r_gtr, r_geq, r_eql, r_neq, r_add, r_sub, r_min2, r_max2, r_min3, r_max3, r_fa, r_iaS, r_iaA, r_ex2a, r_ex2b, r_ex3a, r_ex3b, r_ex3c, r_nc, r_keepE, Nat.zero_add, Nat.add_zero, Nat.mul_one, Int.toNat_natCast, toNat_sub1, toNat_add1, decide_true, decide_false, Bool.not_true, Bool.not_false, if_true, if_false, Bool.false_eq_true, reduceCtorEq, hlt']
    exact ⟨by first | rfl | trivial, by first | rfl | trivial⟩
  have hlt' : (i : Int) < (k : Int) := by omega
  have hle : n ^ (i + 1) ≤ n ^ k := Nat.pow_le_pow_right hn (by omega)
  rw [Nat.pow_succ] at hle
  simp (disch := omega) only [r_ln, r_pick, r_pickT, r_pickF, r_condT, r_condF, r_gdTT, r_gdFF, r_gdTF, r_gdFT, r_gqTT, r_gqFF, r_gqTF, r_gqFT, r_not, r_lss, r_leq, r_gtr, r_geq, r_eql, r_neq, r_add, r_sub, r_min2, r_max2, r_min3, r_max3, r_fa, r_iaS, r_iaA, r_ex2a, r_ex2b, r_ex3a, r_ex3b, r_ex3c, r_nc, r_keepE, Nat.zero_add, Nat.add_zero, Nat.mul_one, Int.toNat_natCast, toNat_sub1, toNat_add1, decide_true, decide_false, Bool.not_true, Bool.not_false, if_true, if_false, Bool.false_eq_true, reduceCtorEq, decide_eq_true hlt']
  rw [r_mulN _ _ (by omega)]
  refine ⟨⟨i + 1, by omega, by go_num, by rw [Nat.pow_succ], by first | rfl | trivial⟩, by simp only [intOf]; omega⟩

set_option maxRecDepth 100000 in
theorem index107_calls {v : Value} {l : List Int} (x : Int) (w : World) (hr : RdInts w v l) : Calls Try.prog 107 #[v, .int .i64 x] w fun e w' => e = .returned (.int .i64 (idxI l x)) ∧ Kp w w' := by
  have hr' := hr
  obtain ⟨a, cap, rfl, hcap, _⟩ := hr.len
  refine lift107 ?_
  unfold S107 S107L0
  refine ⟨fun t8 wr => ∃ i : Nat, i ≤ l.length ∧ t8 = .int .i64 i ∧ x ∉ l.take i ∧ Kp w wr, fun t8 _ => l.length - (intOf t8).toNat, ⟨0, by omega, rfl, by simp, Kp.refl _⟩, ?_⟩
  rintro _ _ wr ⟨i, hi, rfl, hn, hkr⟩
  by_cases hlt : i < l.length
  case neg =>
    have hlt' : ¬ (i : Int) < (l.length : Int) := by omega
    simp (disch := omega) only [r_ln, r_pick, r_pickT, r_pickF, r_condT, r_condF, r_gdTT, r_gdFF, r_gdTF, r_gdFT, r_gqTT, r_gqFF, r_gqTF, r_gqFT, r_not, r_lss, r_leq, r_gtr, r_geq, r_eql, r_neq, r_add, r_sub, r_min2, r_max2, r_min3, r_max3, r_fa, r_iaS, r_iaA, r_ex2a, r_ex2b, r_ex3a, r_ex3b, r_ex3c, r_nc, r_keepE, Nat.zero_add, Nat.add_zero, Nat.mul_one, Int.toNat_natCast, toNat_sub1, toNat_add1, decide_true, decide_false, Bool.not_true, Bool.not_false, if_true, if_false, Bool.false_eq_true, reduceCtorEq, hlt']
    rw [List.take_of_length_le (by omega)] at hn
    exact ⟨by rw [idxI, if_neg hn], hkr⟩
  have hlt' : (i : Int) < (l.length : Int) := by omega
  obtain ⟨b1, o1, _, e1, hc⟩ := (hr'.below hkr).at hlt
  cases e1
  rw [getD_lt _ _ _ hlt] at hc
  have hii : (i : Int).toNat = i := by omega
  have hx : l[i]? = some l[i] := List.getElem?_eq_getElem hlt
  by_cases he : l[i] = x
  · simp (disch := omega) only [r_ln, r_pick, r_pickT, r_pickF, r_condT, r_condF, r_gdTT, r_gdFF, r_gdTF, r_gdFT, r_gqTT, r_gqFF, r_gqTF, r_gqFT, r_not, r_lss, r_leq, r_gtr, r_geq, r_eql, r_neq, r_add, r_sub, r_min2, r_max2, r_min3, r_max3, r_fa, r_iaS, r_iaA, r_ex2a, r_ex2b, r_ex3a, r_ex3b, r_ex3c, r_nc, r_keepE, Nat.zero_add, Nat.add_zero, Nat.mul_one, Int.toNat_natCast, toNat_sub1, toNat_add1, decide_true, decide_false, Bool.not_true, Bool.not_false, if_true, if_false, Bool.false_eq_true, reduceCtorEq, decide_eq_true hlt', hii, r_ld hc, decide_eq_true he]
    rw [he] at hx
    exact ⟨by rw [idx_first hx hn], hkr⟩
  · simp (disch := omega) only [r_ln, r_pick, r_pickT, r_pickF, r_condT, r_condF, r_gdTT, r_gdFF, r_gdTF, r_gdFT, r_gqTT, r_gqFF, r_gqTF, r_gqFT, r_not, r_lss, r_leq, r_gtr, r_geq, r_eql, r_neq, r_add, r_sub, r_min2, r_max2, r_min3, r_max3, r_fa, r_iaS, r_iaA, r_ex2a, r_ex2b, r_ex3a, r_ex3b, r_ex3c, r_nc, r_keepE, Nat.zero_add, Nat.add_zero, Nat.mul_one, Int.toNat_natCast, toNat_sub1, toNat_add1, decide_true, decide_false, Bool.not_true, Bool.not_false, if_true, if_false, Bool.false_eq_true, reduceCtorEq, decide_eq_true hlt', hii, r_ld hc, he]
    refine ⟨⟨i + 1, by omega, by go_num, ?_, hkr⟩, by simp only [intOf]; omega⟩
    intro hm
    rw [take_succ' _ _ hlt] at hm
    rcases List.mem_append.1 hm with h | h
    · exact hn h
    · exact he (by simp at h; exact h.symm)

theorem lineB_take {l : List Tile} {c i : Nat} (hi : i < l.length) : lineB (l.take (i + 1)) c = (lineB (l.take i) c || (decide (tN l[i] = (c : Int)) || decide (tS l[i] = (c : Int)))) := by
  unfold lineB
  rw [take_succ' _ _ hi, List.any_append]
  simp

set_option maxRecDepth 100000 in
theorem r70_1 {w0 w : World} {sv t3 : Value} {l : List Tile} {c : Nat} {P : List Int} {next : Value → Value → World → Prop} (hr : RdT w0 sv l) (hl : l.length ≤ 1000) (hP : IntsAt w0.heap.size w t3 P) (hPl : P.length ≤ 100) (hc : c ≤ 100) (hk : Kp w0 w)
    (hn : ∀ v w', IntsAt w0.heap.size w' v (P ++ if lineB l c = true then [(c : Int)] else []) → Kp w0 w' → next v (.int .i64 ((c : Int) + 1)) w') : S70L1 sv t3 (.int .i64 c) next w := by
  obtain ⟨sa, sc, es, _⟩ := hr.len
  have lns : ∀ K : Value → Prop, ln1 sv K = K (.int .i64 l.length) := fun K => by rw [es]; rfl
  unfold S70L1
  refine ⟨fun t5 t6 wr => ∃ i : Nat, i ≤ l.length ∧ t6 = .int .i64 i ∧ t5 = .bool (lineB (l.take i) c) ∧ Kp w wr, fun _ t6 _ => l.length - (intOf t6).toNat, ⟨0, by omega, rfl, rfl, Kp.refl _⟩, ?_⟩
  rintro _ _ _ wr ⟨i, hi, rfl, rfl, kr⟩
  have hk0 := hk
  have hk := Kp.trans hk0 kr
  have hP := hP.kp kr
  rw [lns]
  by_cases hlt : i < l.length
  case pos =>
    have hlt' : (i : Int) < (l.length : Int) := by omega
    obtain ⟨b, off, cap, e, _, hcell⟩ := (hr.kp hk).at (List.getElem?_eq_getElem hlt)
    have hii : (i : Int).toNat = i := by omega
    have ia : ∀ K : Value → Prop, iaS 4 sv (.int .i64 i) K = K (.pointer (some ⟨b, off + i * 4, none⟩)) := fun K => by rw [e, r_iaS _ _ _ _ _ _ _ (by omega) (by omega), hii]
    have htk := lineB_take (c := c) hlt
    generalize l[i] = t at *
    have c0 : wr.cell? ⟨b, off + i * 4, none⟩ = some (.int .i64 (tN t)) := hcell 0 _ rfl
    have c2 : wr.cell? ⟨b, off + i * 4 + 2, none⟩ = some (.int .i64 (tS t)) := hcell 2 _ rfl
    have go : ∀ b : Bool, b = lineB (l.take (i + 1)) c → (∃ j : Nat, j ≤ l.length ∧ Value.int .i64 ((i : Int) + 1) = .int .i64 j ∧ Value.bool b = .bool (lineB (l.take j) c) ∧ Kp w wr) ∧ l.length - (intOf (.int .i64 ((i : Int) + 1))).toNat < l.length - (intOf (.int .i64 (i : Int))).toNat := fun b hb => ⟨⟨i + 1, by omega, by go_num, by rw [hb], kr⟩, by simp only [intOf]; omega⟩
    cases hB : lineB (l.take i) c with
    | true =>
      simp (disch := omega) only [r_ln, r_pick, r_pickT, r_pickF, r_condT, r_condF, r_gdTT, r_gdFF, r_gdTF, r_gdFT, r_gqTT, r_gqFF, r_gqTF, r_gqFT, r_not, r_lss, r_leq, r_gtr, r_geq, r_eql, r_neq, r_add, r_sub, r_min2, r_max2, r_min3, r_max3, r_fa, r_iaS, r_iaA, r_ex2a, r_ex2b, r_ex3a, r_ex3b, r_ex3c, r_nc, r_keepE, Nat.zero_add, Nat.add_zero, Nat.mul_one, Int.toNat_natCast, toNat_sub1, toNat_add1, decide_true, decide_false, Bool.not_true, Bool.not_false, if_true, if_false, Bool.false_eq_true, reduceCtorEq, decide_eq_true hlt', r_gdU]
      exact go true (by rw [htk, hB]; rfl)
    | false =>
      by_cases g1 : tN t = (c : Int)
      · simp (disch := omega) only [r_ln, r_pick, r_pickT, r_pickF, r_condT, r_condF, r_gdTT, r_gdFF, r_gdTF, r_gdFT, r_gqTT, r_gqFF, r_gqTF, r_gqFT, r_not, r_lss, r_leq, r_gtr, r_geq, r_eql, r_neq, r_add, r_sub, r_min2, r_max2, r_min3, r_max3, r_fa, r_iaS, r_iaA, r_ex2a, r_ex2b, r_ex3a, r_ex3b, r_ex3c, r_nc, r_keepE, Nat.zero_add, Nat.add_zero, Nat.mul_one, Int.toNat_natCast, toNat_sub1, toNat_add1, decide_true, decide_false, Bool.not_true, Bool.not_false, if_true, if_false, Bool.false_eq_true, reduceCtorEq, decide_eq_true hlt', r_gdU, ia, r_ld c0, decide_eq_true g1]
        exact go true (by rw [htk, decide_eq_true g1, Bool.true_or, Bool.or_true])
      by_cases g2 : tS t = (c : Int)
      · simp (disch := omega) only [r_ln, r_pick, r_pickT, r_pickF, r_condT, r_condF, r_gdTT, r_gdFF, r_gdTF, r_gdFT, r_gqTT, r_gqFF, r_gqTF, r_gqFT, r_not, r_lss, r_leq, r_gtr, r_geq, r_eql, r_neq, r_add, r_sub, r_min2, r_max2, r_min3, r_max3, r_fa, r_iaS, r_iaA, r_ex2a, r_ex2b, r_ex3a, r_ex3b, r_ex3c, r_nc, r_keepE, Nat.zero_add, Nat.add_zero, Nat.mul_one, Int.toNat_natCast, toNat_sub1, toNat_add1, decide_true, decide_false, Bool.not_true, Bool.not_false, if_true, if_false, Bool.false_eq_true, reduceCtorEq, decide_eq_true hlt', r_gdU, ia, r_ld c0, g1, r_ld c2, decide_eq_true g2]
        exact go true (by rw [htk, decide_eq_true g2, Bool.or_true, Bool.or_true])
      · simp (disch := omega) only [r_ln, r_pick, r_pickT, r_pickF, r_condT, r_condF, r_gdTT, r_gdFF, r_gdTF, r_gdFT, r_gqTT, r_gqFF, r_gqTF, r_gqFT, r_not, r_lss, r_leq, r_gtr, r_geq, r_eql, r_neq, r_add, r_sub, r_min2, r_max2, r_min3, r_max3, r_fa, r_iaS, r_iaA, r_ex2a, r_ex2b, r_ex3a, r_ex3b, r_ex3c, r_nc, r_keepE, Nat.zero_add, Nat.add_zero, Nat.mul_one, Int.toNat_natCast, toNat_sub1, toNat_add1, decide_true, decide_false, Bool.not_true, Bool.not_false, if_true, if_false, Bool.false_eq_true, reduceCtorEq, decide_eq_true hlt', r_gdU, ia, r_ld c0, g1, r_ld c2, g2]
        exact go false (by rw [htk, decide_eq_false g1, decide_eq_false g2, hB]; rfl)
  have hlt' : ¬ (i : Int) < (l.length : Int) := by omega
  rw [List.take_of_length_le (by omega)]
  simp (disch := omega) only [r_lss, hlt', decide_false, r_condF]
  refine r_join1 (fun v w' => IntsAt w0.heap.size w' v (P ++ if lineB l c = true then [(c : Int)] else []) ∧ Kp w0 w') ?_ fun k' hk' => ?_
  · rintro v w' ⟨ho, kk⟩
    rw [r_add _ _ (by omega) (by omega)]
    exact hn v w' ho kk
  cases hB : lineB l c with
  | false =>
    rw [hB] at hk'
    simp only [r_condF]
    exact hk' _ _ ⟨by simpa using hP, hk⟩
  | true =>
    rw [hB] at hk'
    simp only [r_condT]
    refine r_pushRec (x := (c : Int)) slt30 iC_len rfl (bs30 _ _ _) (by intro u hu; simp [iC] at hu; rw [hu]; rfl) (by omega) hP (by omega) hk.size fun v w' ho hch _ => ?_
    exact hk' _ _ ⟨by simpa using ho, Kp.of_chg hk hch fun k e => (hP.lt e).1⟩

set_option maxRecDepth 100000 in
theorem lines_calls {sv : Value} {l : List Tile} (w : World) (hr : RdT w sv l) (hl : l.length ≤ 1000) : Calls Try.prog 70 #[sv] w fun e w' => ∃ v, e = .returned v ∧ IntsAt w.heap.size w' v (lineL l) ∧ Kp w w' := by
  refine lift70 ?_
  unfold S70 S70L0
  refine ⟨fun t3 t4 wr => ∃ c : Nat, c ≤ 8 ∧ t4 = .int .i64 c ∧ IntsAt w.heap.size wr t3 (((List.range c).filter (lineB l)).map fun c : Nat => (c : Int)) ∧ Kp w wr, fun _ t4 _ => 8 - (intOf t4).toNat, ⟨0, by omega, rfl, RecAt.nil, Kp.refl _⟩, ?_⟩
  rintro _ t3 _ wr ⟨c, hc, rfl, hP, kr⟩
  by_cases hlt : c < 8
  case neg =>
    have hlt' : ¬ (c : Int) ≤ 7 := by omega
    have ec : c = 8 := by omega
    subst ec
    simp (disch := omega) only [r_ln, r_pick, r_pickT, r_pickF, r_condT, r_condF, r_gdTT, r_gdFF, r_gdTF, r_gdFT, r_gqTT, r_gqFF, r_gqTF, r_gqFT, r_not, r_lss, r_leq, r_gtr, r_geq, r_eql, r_neq, r_add, r_sub, r_min2, r_max2, r_min3, r_max3, r_fa, r_iaS, r_iaA, r_ex2a, r_ex2b, r_ex3a, r_ex3b, r_ex3c, r_nc, r_keepE, Nat.zero_add, Nat.add_zero, Nat.mul_one, Int.toNat_natCast, toNat_sub1, toNat_add1, decide_true, decide_false, Bool.not_true, Bool.not_false, if_true, if_false, Bool.false_eq_true, reduceCtorEq, hlt']
    exact ⟨_, rfl, hP, kr⟩
  have hlt' : (c : Int) ≤ 7 := by omega
  simp (disch := omega) only [r_ln, r_pick, r_pickT, r_pickF, r_condT, r_condF, r_gdTT, r_gdFF, r_gdTF, r_gdFT, r_gqTT, r_gqFF, r_gqTF, r_gqFT, r_not, r_lss, r_leq, r_gtr, r_geq, r_eql, r_neq, r_add, r_sub, r_min2, r_max2, r_min3, r_max3, r_fa, r_iaS, r_iaA, r_ex2a, r_ex2b, r_ex3a, r_ex3b, r_ex3c, r_nc, r_keepE, Nat.zero_add, Nat.add_zero, Nat.mul_one, Int.toNat_natCast, toNat_sub1, toNat_add1, decide_true, decide_false, Bool.not_true, Bool.not_false, if_true, if_false, Bool.false_eq_true, reduceCtorEq, decide_eq_true hlt']
  have hPl : (((List.range c).filter (lineB l)).map fun c : Nat => (c : Int)).length ≤ c := by
    rw [List.length_map]
    have := List.length_filter_le (lineB l) (List.range c)
    simpa using this
  refine r70_1 hr hl hP (by omega) (by omega) kr fun v w' ho kk => ?_
  refine ⟨⟨c + 1, by omega, by go_num, ?_, kk⟩, by simp only [intOf]; omega⟩
  rw [List.range_succ, List.filter_append, List.map_append]
  by_cases h : lineB l c = true
  · rw [if_pos h] at ho
    simpa [h] using ho
  · rw [if_neg h] at ho
    simpa [h] using ho

def putV (o : Option Nat) : Int := match o with
  | none => -1
  | some s => (s : Int)

end Go.Proofs.Ytgalbokmgffhkaa
