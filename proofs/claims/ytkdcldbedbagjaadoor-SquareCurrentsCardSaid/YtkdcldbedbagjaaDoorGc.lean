/- How many spanning trees have a wire, and Foster's theorem, plainly. No program. -/
import Derived.Test.YtkdcldbedbagjaaDoorGb
set_option linter.all false
namespace Go.Dt

theorem cnt_cons (P : List Wr → Prop) (e : Wr) (l : List Wr) : cnt P (e :: l) = cnt P l + cnt (fun s => P (e :: s)) l := rfl

/-- How many of the sets that are counted have the wire with that index. -/
noncomputable def withI : Nat → (List Wr → Prop) → List Wr → Nat
  | _, _, [] => 0
  | 0, P, e :: l => cnt (fun s => P (e :: s)) l
  | i + 1, P, e :: l => withI i P l + withI i (fun s => P (e :: s)) l

def sumL (f : Nat → Nat) : Nat → Nat
  | 0 => 0
  | n + 1 => f 0 + sumL (fun i => f (i + 1)) n
theorem sumL_add (f g : Nat → Nat) : ∀ n, sumL (fun i => f i + g i) n = sumL f n + sumL g n := by
  intro n
  induction n generalizing f g with
  | zero => rfl
  | succ n ih => simp only [sumL]; rw [ih (fun i => f (i + 1)) (fun i => g (i + 1))]; omega
theorem sumL_congr {f g : Nat → Nat} {n : Nat} (h : ∀ i, i < n → f i = g i) : sumL f n = sumL g n := by
  induction n generalizing f g with
  | zero => rfl
  | succ n ih => simp only [sumL]; rw [h 0 (by omega), ih fun i hi => h (i + 1) (by omega)]
theorem sumL_last (f : Nat → Nat) (n : Nat) : sumL f (n + 1) = sumL f n + f n := by
  induction n generalizing f with
  | zero => simp [sumL]
  | succ n ih =>
    rw [show sumL f (n + 2) = f 0 + sumL (fun i => f (i + 1)) (n + 1) from rfl, ih]
    simp only [sumL]; omega

theorem with_sum : ∀ {l : List Wr} {P : List Wr → Prop} {m : Nat}, (∀ s, s.Sublist l → P s → s.length = m) → sumL (fun i => withI i P l) l.length = m * cnt P l
  | [], P, m, h => by
    simp only [List.length_nil, sumL]
    unfold cnt
    split
    · have := h [] (List.Sublist.refl _) (by assumption)
      rw [← this]; rfl
    · rfl
  | e :: l, P, m, h => by
    have e1 : sumL (fun i => withI i P (e :: l)) (e :: l).length = cnt (fun s => P (e :: s)) l + (sumL (fun i => withI i P l) l.length + sumL (fun i => withI i (fun s => P (e :: s)) l) l.length) := by
      rw [List.length_cons, ← sumL_add]; rfl
    rw [e1, with_sum (P := P) fun s hs => h s (hs.cons _), cnt_cons]
    match m, h with
    | 0, h =>
      have z : cnt (fun s => P (e :: s)) l = 0 := cnt_false fun s hs hp => by have := h _ (hs.cons_cons e) hp; simp at this
      rw [with_sum (P := fun s => P (e :: s)) (m := 0) fun s hs hp => by have := h _ (hs.cons_cons e) hp; simp at this, z]
      simp
    | m + 1, h =>
      rw [with_sum (P := fun s => P (e :: s)) (m := m) fun s hs hp => by have := h _ (hs.cons_cons e) hp; simpa using this]
      rw [Nat.mul_add, Nat.add_mul m 1 (cnt (fun s => P (e :: s)) l)]
      omega

theorem with_at : ∀ {i : Nat} {l : List Wr} {P : List Wr → Prop} (_ : ∀ s s', s.Perm s' → P s → P s') (hi : i < l.length), withI i P l = cnt (fun s => P (l[i] :: s)) (l.eraseIdx i)
  | i, [], P, _, hi => absurd hi (by simp)
  | 0, e :: l, P, _, _ => rfl
  | i + 1, e :: l, P, hp, hi => by
    have hi' : i < l.length := by simpa using hi
    simp only [withI, List.eraseIdx_cons_succ, List.getElem_cons_succ]
    rw [with_at hp hi', with_at (P := fun s => P (e :: s)) (fun s s' p => hp _ _ (p.cons e)) hi', cnt_cons]
    rw [cnt_iff (P := fun s => P (e :: l[i] :: s)) (Q := fun s => P (l[i] :: e :: s)) fun s _ => ⟨hp _ _ (List.Perm.swap ..), hp _ _ (List.Perm.swap ..)⟩]

theorem perm_at : ∀ {i : Nat} {l : List Wr} (hi : i < l.length), l.Perm (l[i] :: l.eraseIdx i)
  | i, [], hi => absurd hi (by simp)
  | 0, e :: l, _ => List.Perm.refl _
  | i + 1, e :: l, hi => by
    have hi' : i < l.length := by simpa using hi
    simp only [List.eraseIdx_cons_succ, List.getElem_cons_succ]
    exact ((perm_at hi').cons e).trans (List.Perm.swap ..)

/-- The trees that have a wire are as many as the forests of two between its ends. -/
theorem with_volt {n : Nat} {l : List Wr} (hl : Wf n l) {i : Nat} (hi : i < l.length) : withI i (RF n (one 0)) l = volt n l l[i].1 l[i].2 := by
  have hw := hl _ (List.getElem_mem hi)
  have hl' : Wf n (l[i] :: l.eraseIdx i) := fun x hx => hl x ((perm_at hi).symm.subset hx)
  rw [with_at (PI_RF n _) hi]
  unfold volt
  rw [cnt_perm (perm_at hi) (PI_RF n _), cnt_cons]
  rw [cnt_false (P := fun s => RF n (ins (one l[i].2) l[i].1) (l[i] :: s)) fun s hs => RF.shut (fun x hx => hl' x ((hs.cons_cons _).subset hx)) (ins_self _ _) (ins_of (one_self _)), Nat.add_zero]
  refine cnt_iff fun s hs => ?_
  have hls : Wf n (l[i] :: s) := fun x hx => hl' x ((hs.cons_cons _).subset hx)
  rw [← RF.grow' hls (one_self _) (one_not hw.2.2)]
  exact ⟨RF_one (by omega) hw.2.1, RF_one hw.2.1 (by omega)⟩

/-- FOSTER. -/
theorem foster {n : Nat} {l : List Wr} (hl : Wf n l) (hn : 1 ≤ n) : sumL (fun i => volt n l (l.getD i (0, 0)).1 (l.getD i (0, 0)).2) l.length = (n - 1) * trees n l := by
  unfold trees
  rw [← with_sum (P := RF n (one 0)) (m := n - 1) fun s _ h => by have := h.1; rw [cnt_one (by omega)] at this; omega]
  refine sumL_congr fun i hi => ?_
  rw [with_volt hl hi]
  simp [List.getD_eq_getElem?_getD, hi]

end Go.Dt
