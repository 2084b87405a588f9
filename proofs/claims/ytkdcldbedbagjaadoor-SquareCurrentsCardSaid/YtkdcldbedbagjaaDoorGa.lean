/- Networks, plainly: connection, forests with roots, how many there are, and determinants (Kirchhoff). No program. -/
import Derived.Test.YtkdcldbedbagjaaDoorDa
set_option linter.all false
namespace Go.Dt

abbrev Wr := Nat × Nat
def Wf (n : Nat) (l : List Wr) : Prop := ∀ e ∈ l, e.1 < n ∧ e.2 < n ∧ e.1 ≠ e.2
theorem Wf.tail {n : Nat} {e : Wr} {l : List Wr} (h : Wf n (e :: l)) : Wf n l := fun x hx => h x (List.mem_cons_of_mem _ hx)
theorem Wf.sub {n : Nat} {s l : List Wr} (h : Wf n l) (hs : s.Sublist l) : Wf n s := fun x hx => h x (hs.subset hx)
theorem Wf.perm {n : Nat} {s l : List Wr} (h : Wf n l) (hs : s.Perm l) : Wf n s := fun x hx => h x (hs.subset hx)

inductive Conn (l : List Wr) : Nat → Nat → Prop
  | refl (v : Nat) : Conn l v v
  | step {u v w : Nat} : Conn l u v → ((v, w) ∈ l ∨ (w, v) ∈ l) → Conn l u w
theorem Conn.mono {l l' : List Wr} (h : ∀ e ∈ l, e ∈ l') {u v : Nat} (c : Conn l u v) : Conn l' u v := by
  induction c with
  | refl => exact .refl _
  | step _ h2 ih => exact .step ih (h2.imp (h _) (h _))
theorem Conn.trans {l : List Wr} {u v w : Nat} (a : Conn l u v) (b : Conn l v w) : Conn l u w := by
  induction b with
  | refl => exact a
  | step _ h2 ih => exact .step ih h2
theorem Conn.one {l : List Wr} {u v : Nat} (h : (u, v) ∈ l ∨ (v, u) ∈ l) : Conn l u v := .step (.refl _) h
theorem Conn.symm {l : List Wr} {u v : Nat} (a : Conn l u v) : Conn l v u := by
  induction a with
  | refl => exact .refl _
  | step _ h2 ih => exact (Conn.one h2.symm).trans ih
theorem Conn.cons {e : Wr} {l : List Wr} {u v : Nat} (c : Conn l u v) : Conn (e :: l) u v := c.mono fun _ h => List.mem_cons_of_mem _ h
theorem Conn.head (e : Wr) (l : List Wr) : Conn (e :: l) e.1 e.2 := .one (.inl (List.mem_cons_self ..))
/-- A way is one without a wire, or it comes to an end of that wire without it. -/
theorem Conn.first {e : Wr} {l : List Wr} {u v : Nat} (c : Conn (e :: l) u v) : Conn l u v ∨ Conn l u e.1 ∨ Conn l u e.2 := by
  induction c with
  | refl => exact .inl (.refl _)
  | step _ h2 ih =>
    rcases ih with h | h | h
    · rcases h2 with h2 | h2
      · rcases List.mem_cons.1 h2 with e1 | h2
        · rw [← e1]; exact .inr (.inl h)
        · exact .inl (.step h (.inl h2))
      · rcases List.mem_cons.1 h2 with e1 | h2
        · rw [← e1]; exact .inr (.inr h)
        · exact .inl (.step h (.inr h2))
    · exact .inr (.inl h)
    · exact .inr (.inr h)
theorem Conn.nil {u v : Nat} (c : Conn [] u v) : u = v := by
  induction c with
  | refl => rfl
  | step _ h2 _ => simp at h2
theorem Conn.lt {n : Nat} {l : List Wr} (hl : Wf n l) {u v : Nat} (c : Conn l u v) (hu : u < n) : v < n := by
  induction c with
  | refl => exact hu
  | step _ h2 ih =>
    rcases h2 with h2 | h2
    · exact (hl _ h2).2.1
    · exact (hl _ h2).1

def cntS : Nat → (Nat → Bool) → Nat
  | 0, _ => 0
  | n + 1, S => cntS n S + if S n then 1 else 0
def ins (S : Nat → Bool) (b : Nat) : Nat → Bool := fun v => S v || decide (v = b)
theorem ins_self (S : Nat → Bool) (b : Nat) : ins S b b = true := by simp [ins]
theorem ins_of {S : Nat → Bool} {b v : Nat} (h : S v = true) : ins S b v = true := by simp [ins, h]
theorem ins_iff {S : Nat → Bool} {b v : Nat} : ins S b v = true ↔ S v = true ∨ v = b := by simp [ins]
theorem ins_comm (S : Nat → Bool) (a b : Nat) : ins (ins S a) b = ins (ins S b) a := by
  funext v; simp only [ins, Bool.or_assoc, Bool.or_comm (decide (v = a))]
theorem ins_old {S : Nat → Bool} {b : Nat} (h : S b = true) : ins S b = S := by
  funext v
  unfold ins
  by_cases e : v = b
  · subst e; simp [h]
  · simp [e]
theorem cnt_congr {S T : Nat → Bool} : ∀ {n : Nat}, (∀ v, v < n → S v = T v) → cntS n S = cntS n T
  | 0, _ => rfl
  | n + 1, h => by unfold cntS; rw [cnt_congr fun v hv => h v (by omega), h n (by omega)]
theorem cnt_ins {S : Nat → Bool} {b : Nat} (hS : S b = false) : ∀ {n : Nat}, b < n → cntS n (ins S b) = cntS n S + 1
  | 0, h => by omega
  | n + 1, h => by
    unfold cntS
    by_cases e : b = n
    · subst e
      rw [ins_self, hS, cnt_congr (T := S) fun v hv => by simp [ins, show ¬ v = b by omega]]
      simp
    · rw [cnt_ins hS (by omega)]
      have : ins S b n = S n := by simp [ins, show ¬ n = b by omega]
      rw [this]; omega
theorem cnt_ins_le {S : Nat → Bool} {b : Nat} (n : Nat) : cntS n (ins S b) ≤ cntS n S + 1 := by
  by_cases h : S b = true
  · rw [ins_old h]; omega
  · have h : S b = false := by simpa using h
    by_cases hb : b < n
    · rw [cnt_ins h hb]; omega
    · rw [cnt_congr (T := S) fun v hv => by simp [ins, show ¬ v = b by omega]]; omega
theorem cnt_all {S : Nat → Bool} : ∀ {n : Nat}, (∀ v, v < n → S v = true) → cntS n S = n
  | 0, _ => rfl
  | n + 1, h => by unfold cntS; rw [cnt_all fun v hv => h v (by omega), h n (by omega)]; rfl
theorem cnt_le (S : Nat → Bool) : ∀ n, cntS n S ≤ n
  | 0 => Nat.le_refl _
  | n + 1 => by have := cnt_le S n; unfold cntS; split <;> omega
theorem cnt_none {S : Nat → Bool} : ∀ {n : Nat}, (∀ v, v < n → S v = false) → cntS n S = 0
  | 0, _ => rfl
  | n + 1, h => by unfold cntS; rw [cnt_none fun v hv => h v (by omega), h n (by omega)]; rfl

def Spans (n : Nat) (S : Nat → Bool) (l : List Wr) : Prop := ∀ v, v < n → ∃ s, s < n ∧ S s = true ∧ Conn l v s
theorem Spans.cons {n : Nat} {S : Nat → Bool} {e : Wr} {l : List Wr} (h : Spans n S l) : Spans n S (e :: l) := fun v hv =>
  let ⟨s, h1, h2, h3⟩ := h v hv
  ⟨s, h1, h2, h3.cons⟩
/-- One end of a wire comes to S without it: the other one as a root makes up for the wire. -/
theorem Spans.drop {n : Nat} {S : Nat → Bool} {e : Wr} {l : List Wr} (hl : Wf n (e :: l)) (h : Spans n S (e :: l)) (ha : ∃ s, s < n ∧ S s = true ∧ Conn l e.1 s) : Spans n (ins S e.2) l := fun v hv => by
  have he := hl e (List.mem_cons_self ..)
  obtain ⟨s, h1, h2, h3⟩ := h v hv
  rcases h3.first with h | h | h
  · exact ⟨s, h1, ins_of h2, h⟩
  · obtain ⟨r, r1, r2, r3⟩ := ha
    exact ⟨r, r1, ins_of r2, h.trans r3⟩
  · exact ⟨e.2, he.2.1, ins_self .., h⟩
theorem Conn.flip {e : Wr} {l : List Wr} {u v : Nat} (c : Conn (e :: l) u v) : Conn ((e.2, e.1) :: l) u v := by
  induction c with
  | refl => exact .refl _
  | step _ h2 ih =>
    refine .step ih ?_
    rcases h2 with h2 | h2
    · rcases List.mem_cons.1 h2 with e1 | h2
      · exact .inr (by rw [← e1]; exact List.mem_cons_self ..)
      · exact .inl (List.mem_cons_of_mem _ h2)
    · rcases List.mem_cons.1 h2 with e1 | h2
      · exact .inl (by rw [← e1]; exact List.mem_cons_self ..)
      · exact .inr (List.mem_cons_of_mem _ h2)
theorem Wf.flip {n : Nat} {e : Wr} {l : List Wr} (h : Wf n (e :: l)) : Wf n ((e.2, e.1) :: l) := fun x hx => by
  rcases List.mem_cons.1 hx with rfl | hx
  · have := h e (List.mem_cons_self ..); exact ⟨this.2.1, this.1, this.2.2.symm⟩
  · exact h x (List.mem_cons_of_mem _ hx)
theorem Spans.flip {n : Nat} {S : Nat → Bool} {e : Wr} {l : List Wr} (h : Spans n S (e :: l)) : Spans n S ((e.2, e.1) :: l) := fun v hv =>
  let ⟨s, h1, h2, h3⟩ := h v hv
  ⟨s, h1, h2, h3.flip⟩
/-- The last wire of a way: one of its ends comes to the way's end without it. -/
theorem Spans.oneEnd {n : Nat} {S : Nat → Bool} {e : Wr} {l : List Wr} (hl : Wf n (e :: l)) (h : Spans n S (e :: l)) : (∃ s, s < n ∧ S s = true ∧ Conn l e.1 s) ∨ (∃ s, s < n ∧ S s = true ∧ Conn l e.2 s) := by
  have he := hl e (List.mem_cons_self ..)
  obtain ⟨s, h1, h2, h3⟩ := h e.1 he.1
  rcases h3.symm.first with h | h | h
  · exact .inl ⟨s, h1, h2, h.symm⟩
  · exact .inl ⟨s, h1, h2, h.symm⟩
  · exact .inr ⟨s, h1, h2, h.symm⟩
theorem Spans.count {n : Nat} : ∀ {l : List Wr} {S : Nat → Bool}, Wf n l → Spans n S l → n ≤ cntS n S + l.length
  | [], S, _, h => by
    rw [cnt_all fun v hv => by obtain ⟨s, _, h2, h3⟩ := h v hv; rw [h3.nil]; exact h2]
    omega
  | e :: l, S, hl, h => by
    rw [List.length_cons]
    rcases h.oneEnd hl with ha | hb
    · have := (h.drop hl ha).count hl.tail
      have := cnt_ins_le (S := S) (b := e.2) n
      omega
    · have h1 : n ≤ cntS n (ins S e.1) + l.length := (h.flip.drop hl.flip hb).count hl.tail
      have := cnt_ins_le (S := S) (b := e.1) n
      omega

/-- A forest in which each tree has just one of the roots. -/
def RF (n : Nat) (S : Nat → Bool) (l : List Wr) : Prop := cntS n S + l.length = n ∧ Spans n S l
theorem RF.perm {n : Nat} {S : Nat → Bool} {l l' : List Wr} (h : RF n S l) (p : l.Perm l') : RF n S l' :=
  ⟨by rw [← p.length_eq]; exact h.1, fun v hv => let ⟨s, h1, h2, h3⟩ := h.2 v hv; ⟨s, h1, h2, h3.mono fun _ he => p.subset he⟩⟩
theorem RF.flip {n : Nat} {S : Nat → Bool} {e : Wr} {l : List Wr} (h : RF n S (e :: l)) : RF n S ((e.2, e.1) :: l) := ⟨h.1, h.2.flip⟩
theorem RF.flip_iff {n : Nat} {S : Nat → Bool} {e : Wr} {l : List Wr} : RF n S (e :: l) ↔ RF n S ((e.2, e.1) :: l) := ⟨RF.flip, fun h => by have := h.flip; exact this⟩
theorem RF.grow {n : Nat} {S : Nat → Bool} {e : Wr} {l : List Wr} (hl : Wf n (e :: l)) (ha : S e.1 = true) (hb : S e.2 = false) : RF n S (e :: l) ↔ RF n (ins S e.2) l := by
  have he := hl e (List.mem_cons_self ..)
  unfold RF
  rw [cnt_ins hb he.2.1, List.length_cons]
  constructor
  · rintro ⟨h1, h2⟩
    exact ⟨by omega, h2.drop hl ⟨e.1, he.1, ha, .refl _⟩⟩
  · rintro ⟨h1, h2⟩
    refine ⟨by omega, fun v hv => ?_⟩
    obtain ⟨s, h3, h4, h5⟩ := h2 v hv
    rcases ins_iff.1 h4 with h4 | rfl
    · exact ⟨s, h3, h4, h5.cons⟩
    · exact ⟨e.1, he.1, ha, h5.cons.trans (Conn.head e l).symm⟩
theorem RF.grow' {n : Nat} {S : Nat → Bool} {e : Wr} {l : List Wr} (hl : Wf n (e :: l)) (ha : S e.2 = true) (hb : S e.1 = false) : RF n S (e :: l) ↔ RF n (ins S e.1) l :=
  RF.flip_iff.trans (RF.grow hl.flip ha hb)
theorem RF.shut {n : Nat} {S : Nat → Bool} {e : Wr} {l : List Wr} (hl : Wf n (e :: l)) (ha : S e.1 = true) (hb : S e.2 = true) : ¬ RF n S (e :: l) := fun h => by
  have he := hl e (List.mem_cons_self ..)
  have h1 := h.2.drop hl ⟨e.1, he.1, ha, .refl _⟩
  rw [ins_old hb] at h1
  have := h1.count hl.tail
  have := h.1
  rw [List.length_cons] at this
  omega
/-- Two roots are in different trees. -/
theorem RF.apart {n : Nat} {S : Nat → Bool} {l : List Wr} (hl : Wf n l) (h : RF n S l) {a b : Nat} (ha : S a = true) (hb : S b = true) (la : a < n) (lb : b < n) (hab : a ≠ b) : ¬ Conn l a b := fun c => by
  let T : Nat → Bool := fun v => S v && !decide (v = a)
  have hT : S = ins T a := by
    funext v
    unfold ins
    by_cases e : v = a
    · subst e; simp [ha]
    · simp [T, e]
  have hTa : T a = false := by simp [T]
  have h1 : Spans n T l := fun v hv => by
    obtain ⟨s, h1, h2, h3⟩ := h.2 v hv
    by_cases e : s = a
    · subst e; exact ⟨b, lb, by simp [T, hb, Ne.symm hab], h3.trans c⟩
    · exact ⟨s, h1, by simp [T, h2, e], h3⟩
  have h2 := h1.count hl
  have h3 := h.1
  rw [hT, cnt_ins hTa la] at h3
  omega
/-- Where no wire touches the roots no other vertex comes to them. -/
theorem Conn.off {S : Nat → Bool} {l : List Wr} (h : ∀ e ∈ l, S e.1 = false ∧ S e.2 = false) {u v : Nat} (c : Conn l u v) (hu : S u = false) : S v = false := by
  induction c with
  | refl => exact hu
  | step _ h2 ih =>
    rcases h2 with h2 | h2
    · exact (h _ h2).2
    · exact (h _ h2).1

/-! ### how many sets of wires have a property -/
open Classical in
noncomputable def cnt (P : List Wr → Prop) : List Wr → Nat
  | [] => if P [] then 1 else 0
  | e :: l => cnt P l + cnt (fun s => P (e :: s)) l
theorem cnt_iff : ∀ {l : List Wr} {P Q : List Wr → Prop}, (∀ s, s.Sublist l → (P s ↔ Q s)) → cnt P l = cnt Q l
  | [], P, Q, h => by
    have h0 := h [] (List.Sublist.refl _)
    unfold cnt
    by_cases hp : P []
    · rw [if_pos hp, if_pos (h0.1 hp)]
    · rw [if_neg hp, if_neg fun hq => hp (h0.2 hq)]
  | e :: l, P, Q, h => by
    unfold cnt
    rw [cnt_iff fun s hs => h s (hs.cons _), cnt_iff (P := fun s => P (e :: s)) (Q := fun s => Q (e :: s)) fun s hs => h _ (hs.cons_cons _)]
theorem cnt_false : ∀ {l : List Wr} {P : List Wr → Prop}, (∀ s, s.Sublist l → ¬ P s) → cnt P l = 0
  | [], P, h => by unfold cnt; rw [if_neg (h [] (List.Sublist.refl _))]
  | e :: l, P, h => by
    unfold cnt
    rw [cnt_false fun s hs => h s (hs.cons _), cnt_false (P := fun s => P (e :: s)) fun s hs => h _ (hs.cons_cons _)]
theorem cnt_mono : ∀ {l : List Wr} {P Q : List Wr → Prop}, (∀ s, s.Sublist l → P s → Q s) → cnt P l ≤ cnt Q l
  | [], P, Q, h => by
    unfold cnt
    have := h [] (List.Sublist.refl _)
    split
    · rw [if_pos (this (by assumption))]; exact Nat.le_refl _
    · omega
  | e :: l, P, Q, h => by
    unfold cnt
    have h1 := cnt_mono fun s hs => h s (hs.cons e)
    have h2 := cnt_mono (P := fun s => P (e :: s)) (Q := fun s => Q (e :: s)) fun s hs => h _ (hs.cons_cons e)
    omega
theorem cnt_or : ∀ {l : List Wr} {P Q : List Wr → Prop}, (∀ s, s.Sublist l → P s → ¬ Q s) → cnt (fun s => P s ∨ Q s) l = cnt P l + cnt Q l
  | [], P, Q, h => by
    unfold cnt
    have := h [] (List.Sublist.refl _)
    by_cases hp : P []
    · rw [if_pos (.inl hp), if_pos hp, if_neg (this hp)]
    · by_cases hq : Q []
      · rw [if_pos (.inr hq), if_neg hp, if_pos hq]
      · rw [if_neg (by simp [hp, hq]), if_neg hp, if_neg hq]
  | e :: l, P, Q, h => by
    unfold cnt
    rw [cnt_or fun s hs => h s (hs.cons e), cnt_or (P := fun s => P (e :: s)) (Q := fun s => Q (e :: s)) fun s hs => h _ (hs.cons_cons e)]
    omega
theorem cnt_perm {l l' : List Wr} (p : l.Perm l') : ∀ {P : List Wr → Prop}, (∀ s s', s.Perm s' → P s → P s') → cnt P l = cnt P l' := by
  induction p with
  | nil => intro P _; rfl
  | cons e _ ih =>
    intro P h
    unfold cnt
    rw [ih h, ih fun s s' p => h _ _ (p.cons e)]
  | swap a b l =>
    intro P h
    simp only [cnt]
    rw [cnt_iff (P := fun s => P (a :: b :: s)) (Q := fun s => P (b :: a :: s)) fun s _ => ⟨h _ _ (List.Perm.swap ..), h _ _ (List.Perm.swap ..)⟩]
    omega
  | trans _ _ ih1 ih2 => intro P h; rw [ih1 h, ih2 h]

/-! ### the Laplacian matrix -/
def ends (e : Wr) : Nat → Int := fun i => unit e.1 i - unit e.2 i
def lap : List Wr → Nat → Nat → Int
  | [], _, _ => 0
  | e :: l, i, j => lap l i j + ends e i * ends e j
theorem lap_perm {l l' : List Wr} (p : l.Perm l') : lap l = lap l' := by
  induction p with
  | nil => rfl
  | cons e _ ih => funext i j; simp only [lap, ih]
  | swap a b l => funext i j; simp only [lap]; omega
  | trans _ _ ih1 ih2 => rw [ih1, ih2]
theorem lap_symm (l : List Wr) (i j : Nat) : lap l i j = lap l j i := by
  induction l with
  | nil => rfl
  | cons e l ih => simp only [lap]; rw [ih, Int.mul_comm]
theorem ends_sum {n : Nat} {e : Wr} (x : Nat → Int) (h1 : e.1 < n) (h2 : e.2 < n) : sumN (fun j => ends e j * x j) n = x e.1 - x e.2 := by
  rw [sum_congr (g := fun j => unit e.1 j * x j - unit e.2 j * x j) fun j _ => by rw [ends, Int.sub_mul], sum_sub,
    sum_one (f := fun j => unit e.1 j * x j) h1 fun j _ h => by simp [unit, h], sum_one (f := fun j => unit e.2 j * x j) h2 fun j _ h => by simp [unit, h]]
  simp [unit]
theorem lap_sum {n : Nat} (x : Nat → Int) (i : Nat) : ∀ {l : List Wr}, Wf n l → sumN (fun j => lap l i j * x j) n = (l.map fun e => ends e i * (x e.1 - x e.2)).sum
  | [], _ => by simp only [lap, Int.zero_mul, List.map_nil, List.sum_nil]; exact sum_zero n
  | e :: l, h => by
    have he := h e (List.mem_cons_self ..)
    rw [sum_congr (g := fun j => lap l i j * x j + ends e i * (ends e j * x j)) fun j _ => by simp only [lap, Int.add_mul, Int.mul_assoc], sum_add, lap_sum x i h.tail, sum_mul, ends_sum x he.1 he.2.1,
      List.map_cons, List.sum_cons]
    omega
def MS (S : Nat → Bool) (l : List Wr) : Nat → Nat → Int := fun i j => if S j = true then unit j i else lap l i j
theorem MS_ins (S : Nat → Bool) (l : List Wr) (b : Nat) : setCol (MS S l) b (unit b) = MS (ins S b) l := by
  funext i j
  unfold setCol MS
  by_cases e : j = b
  · subst e; rw [if_pos rfl, ins_self, if_pos rfl]
  · have : ins S b j = S j := by simp [ins, e]
    rw [if_neg e, this]
theorem ends_off {e : Wr} {j : Nat} (h1 : j ≠ e.1) (h2 : j ≠ e.2) : ends e j = 0 := by simp [ends, unit, h1, h2]
theorem MS_shut {S : Nat → Bool} {e : Wr} {l : List Wr} (ha : S e.1 = true) (hb : S e.2 = true) : MS S (e :: l) = MS S l := by
  funext i j
  unfold MS
  split
  · rfl
  · rename_i h
    rw [lap, ends_off (j := j) (fun e1 => h (by rw [e1]; exact ha)) (fun e1 => h (by rw [e1]; exact hb))]; omega
theorem MS_grow {S : Nat → Bool} {e : Wr} {l : List Wr} (ha : S e.1 = true) (hb : S e.2 = false) : MS S (e :: l) = setCol (MS S l) e.2 fun i => MS S l i e.2 + (unit e.2 i + -1 * unit e.1 i) := by
  funext i j
  unfold MS setCol
  by_cases hj : j = e.2
  · rw [if_pos hj, hj, hb]
    simp only [Bool.false_eq_true, if_false, lap]
    have hne : e.2 ≠ e.1 := fun h => by rw [h, ha] at hb; cases hb
    have : ends e e.2 = -1 := by simp [ends, unit, hne]
    rw [this]; unfold ends; omega
  · rw [if_neg hj]
    show (if S j = true then unit j i else lap (e :: l) i j) = if S j = true then unit j i else lap l i j
    split
    · rfl
    · rename_i h
      rw [lap, ends_off (j := j) (fun e1 => h (by rw [e1]; exact ha)) hj]; omega
theorem det_grow {n : Nat} {S : Nat → Bool} {e : Wr} {l : List Wr} (h1 : e.1 < n) (h2 : e.2 < n) (ha : S e.1 = true) (hb : S e.2 = false) : det n (MS S (e :: l)) = det n (MS S l) + det n (MS (ins S e.2) l) := by
  have hne : e.2 ≠ e.1 := fun h => by rw [h, ha] at hb; cases hb
  rw [MS_grow ha hb, det_col_add _ _ _ h2, setCol_self]
  have e1 := det_addCol (n := n) (setCol (MS S l) e.2 (unit e.2)) (-1) (unit e.1) h2 h1 hne fun i _ => by
    unfold setCol MS; rw [if_neg (Ne.symm hne), ha]; simp
  rw [setCol_twice] at e1
  rw [← MS_ins S l e.2, ← e1]
  refine congrArg _ (congrArg _ (congrArg _ (funext fun i => ?_)))
  simp only [setCol, if_pos]
theorem MS_flip (S : Nat → Bool) (e : Wr) (l : List Wr) : MS S (e :: l) = MS S ((e.2, e.1) :: l) := by
  funext i j
  unfold MS
  simp only [lap, ends]
  split
  · rfl
  · grind
theorem det_unit : ∀ n, det n (fun i j => unit j i) = 1
  | 0 => rfl
  | n + 1 => by
    rw [det_col_first _ fun i _ => rfl, ← det_unit n]
    refine det_congr fun i j _ _ => ?_
    simp [unit]

theorem free_sum {n : Nat} {S : Nat → Bool} {l : List Wr} (hl : Wf n l) (h : ∀ e ∈ l, S e.1 = false ∧ S e.2 = false) (i : Nat) : sumN (fun j => lap l i j * if S j = true then 0 else 1) n = 0 := by
  rw [lap_sum _ _ hl]
  have : ∀ e ∈ l, ends e i * ((if S e.1 = true then 0 else 1) - (if S e.2 = true then 0 else 1)) = 0 := fun e he => by
    rw [(h e he).1, (h e he).2]; simp
  clear h hl
  induction l with
  | nil => rfl
  | cons e l ih => rw [List.map_cons, List.sum_cons, this e (List.mem_cons_self ..), ih fun e he => this e (List.mem_cons_of_mem _ he)]; rfl

theorem PI_RF (n : Nat) (S : Nat → Bool) : ∀ s s' : List Wr, s.Perm s' → RF n S s → RF n S s' := fun _ _ p h => h.perm p

/-- KIRCHHOFF: the determinant of the Laplacian without the roots counts the forests with the roots. -/
theorem kirchhoff {n : Nat} : ∀ (k : Nat) {l : List Wr} {S : Nat → Bool}, l.length = k → Wf n l → det n (MS S l) = (cnt (RF n S) l : Nat) := by
  intro k
  induction k with
  | zero =>
    intro l S hk hl
    obtain rfl : l = [] := List.length_eq_zero_iff.1 hk
    by_cases hS : ∀ v, v < n → S v = true
    · have h1 : RF n S [] := ⟨by rw [cnt_all hS]; rfl, fun v hv => ⟨v, hv, hS v hv, .refl _⟩⟩
      rw [det_congr (m' := fun i j => unit j i) fun i j _ hj => by unfold MS; rw [hS j hj]; rfl, det_unit]
      unfold cnt; rw [if_pos h1]; rfl
    · obtain ⟨v, hv⟩ := Classical.not_forall.1 hS
      obtain ⟨hv, hvS⟩ := Classical.not_imp.1 hv
      have hvS : S v = false := by simpa using hvS
      have h1 : ¬ RF n S [] := fun h => by
        obtain ⟨s, _, h2, h3⟩ := h.2 v hv
        rw [← h3.nil, hvS] at h2; cases h2
      unfold cnt; rw [if_neg h1]
      rw [show MS S [] = setCol (MS S []) v fun _ => 0 by
        funext i j
        simp only [setCol, MS]
        by_cases h : j = v
        · subst h; rw [if_pos rfl, hvS]; rfl
        · rw [if_neg h]]
      exact det_col_zero _ hv
  | succ k ih =>
    intro l S hk hl
    by_cases hx : ∃ e ∈ l, S e.1 = true ∨ S e.2 = true
    · obtain ⟨e, he, h⟩ := hx
      have p := List.perm_cons_erase he
      have hl' := hl.perm p.symm
      have hlen : (l.erase e).length = k := by have := p.length_eq; rw [List.length_cons] at this; omega
      have b := hl' e (List.mem_cons_self ..)
      have e0 : MS S l = MS S (e :: l.erase e) := by unfold MS; rw [lap_perm p]
      rw [e0, cnt_perm p (PI_RF n S)]
      generalize l.erase e = l' at *
      by_cases ha : S e.1 = true
      · by_cases hb : S e.2 = true
        · rw [MS_shut ha hb, ih hlen hl'.tail]
          unfold cnt
          rw [cnt_false (P := fun s => RF n S (e :: s)) fun s hs => RF.shut (hl'.sub (hs.cons_cons e)) ha hb]
          rw [Nat.add_zero]
          cases l' <;> rfl
        · have hb : S e.2 = false := by simpa using hb
          rw [det_grow b.1 b.2.1 ha hb, ih hlen hl'.tail, ih hlen hl'.tail]
          conv => rhs; unfold cnt
          rw [cnt_iff (P := fun s => RF n S (e :: s)) fun s hs => RF.grow (hl'.sub (hs.cons_cons e)) ha hb]
          omega
      · have ha : S e.1 = false := by simpa using ha
        have hb : S e.2 = true := by rcases h with h | h; (rw [ha] at h; cases h); exact h
        rw [MS_flip, det_grow (e := (e.2, e.1)) b.2.1 b.1 hb ha, ih hlen hl'.tail, ih hlen hl'.tail]
        conv => rhs; unfold cnt
        rw [cnt_iff (P := fun s => RF n S (e :: s)) fun s hs => RF.grow' (hl'.sub (hs.cons_cons e)) hb ha]
        dsimp only
        omega
    · have hoff : ∀ e ∈ l, S e.1 = false ∧ S e.2 = false := fun e he => by
        refine ⟨?_, ?_⟩
        · cases h : S e.1 with
          | false => rfl
          | true => exact absurd ⟨e, he, .inl h⟩ hx
        · cases h : S e.2 with
          | false => rfl
          | true => exact absurd ⟨e, he, .inr h⟩ hx
      obtain ⟨e, he⟩ : ∃ e, e ∈ l := by
        cases l with
        | nil => simp at hk
        | cons e l => exact ⟨e, List.mem_cons_self ..⟩
      have b := hl e he
      have hv := (hoff e he).1
      rw [cnt_false fun s hs h => by
        obtain ⟨r, _, h2, h3⟩ := h.2 e.1 b.1
        rw [h3.off (fun x hx => hoff x (hs.subset hx)) hv] at h2; cases h2]
      have h1 := det_combo (n := n) (MS S l) (c := e.1) (fun j => if S j = true then 0 else 1) b.1
      rw [hv] at h1
      simp only [Bool.false_eq_true, if_false, Int.one_mul] at h1
      rw [← h1]
      have h2 : (fun i => sumN (fun j => (if S j = true then 0 else 1) * MS S l i j) n) = fun _ => (0 : Int) := by
        funext i
        refine Eq.trans (sum_congr fun j _ => ?_) (free_sum hl hoff i)
        unfold MS
        split <;> simp
      rw [h2]
      exact det_col_zero _ b.1
theorem trees_det {n : Nat} {l : List Wr} {S : Nat → Bool} (hl : Wf n l) : det n (MS S l) = (cnt (RF n S) l : Nat) := kirchhoff _ rfl hl

end Go.Dt
