/- Lifting, part 3: frames; rows of operations; regions that draw their order. -/
import Derived.Test.YtbekeccfjmoonaaDoorLift2
set_option linter.all false
namespace Go.Lf
open Go.RowKit

def upd (fr : Fr) (d : Option Nat) (v : Value) : Fr :=
  match d with
  | none => fr
  | some d => fun i => bif Nat.beq i d then v else fr i

/-- The frame that fr is, as the machine holds it: n slots, nothing deferred. -/
structure Mt (n : Nat) (fr : Fr) (a : Act) : Prop where
  defers : a.defers = []
  size : a.tmps.size = n
  slot : ∀ i, a.tmps.getD i undef = fr i

theorem Mt.eval {n : Nat} {fr : Fr} {a : Act} (h : Mt n fr a) : a.eval = evO fr := by
  funext x
  cases x with
  | tmp t => exact h.slot t
  | _ => rfl

theorem Mt.put {n : Nat} {fr : Fr} {a : Act} (h : Mt n fr a) {d : Option Nat} (hd : ∀ x, d = some x → x < n) (v : Value) : Mt n (upd fr d v) (a.put d v) := by
  cases d with
  | none => exact h
  | some d =>
    have hd' := hd d rfl
    refine ⟨h.defers, by simp [Act.put, h.size], fun i => ?_⟩
    have hs := h.slot i
    by_cases hi : i = d
    · subst hi
      simp [Act.put, upd, h.size, hd']
    · have hb : Nat.beq i d = false := by rw [← Bool.not_eq_true, Nat.beq_eq]; exact hi
      have : (a.tmps.setIfInBounds d v)[i]? = a.tmps[i]? := Array.getElem?_setIfInBounds_ne (fun e => hi e.symm)
      simp only [Act.put, upd, hb, cond_false]
      rw [← hs]
      simp [this]

def gval (all : Array Oper) (j : Nat) (fr : Fr) : Value :=
  match (all[j]?).bind (·.dst) with
  | some d => fr d
  | none => undef

def gd (g : Value) (want : Bool) (run : (Value → World → Prop) → Prop) (w : World) (K : Value → World → Prop) : Prop :=
  match g with
  | .bool b => if b = want then run K else K undef w
  | _ => K undef w

def gdQ (g : Value) (want : Bool) (run : (Value → Prop) → Prop) (K : Value → Prop) : Prop :=
  match g with
  | .bool b => if b = want then run K else K undef
  | _ => K undef

theorem yielded_gval {n : Nat} {fr : Fr} {a : Act} (h : Mt n fr a) (all : Array Oper) (j : Nat) :
    yielded all a.tmps j = match gval all j fr with | .bool b => some b | _ => none := by
  unfold yielded gval
  cases hd : (all[j]?).bind (·.dst) with
  | none => rfl
  | some d =>
    have hs := h.slot d
    simp only [Option.bind_some]
    cases ht : a.tmps[d]? with
    | none =>
      have : fr d = undef := by rw [← hs]; simp [ht]
      rw [this]
      rfl
    | some v =>
      have : fr d = v := by rw [← hs]; simp [ht]
      rw [this]
      cases v <;> rfl

/-- One operation, its guard asked first. -/
def oneW (P : Program) (all : Array Oper) (o : Oper) (fr : Fr) (w : World) (K : Value → World → Prop) : Prop :=
  match o.guard with
  | none => opW P o (evO fr) w K
  | some (j, want) => gd (gval all j fr) want (fun k => opW P o (evO fr) w k) w K

def oneQ (P : Program) (all : Array Oper) (o : Oper) (fr : Fr) (w : World) (K : Value → Prop) : Prop :=
  match o.guard with
  | none => opQ P o.op (evO fr) w K
  | some (j, want) => gdQ (gval all j fr) want (fun k => opQ P o.op (evO fr) w k) K

def opsW (P : Program) (all : Array Oper) : List Oper → (Fr → World → Prop) → Fr → World → Prop
  | [], K, fr, w => K fr w
  | o :: rest, K, fr, w => oneW P all o fr w fun v w' => opsW P all rest K (upd fr o.dst v) w'

/-- What one operation does to a machine's frame. -/
def stepB (P : Program) (all : Array Oper) (o : Oper) (a : Act) (w : World) (K : Value → World → Prop) : Prop :=
  if Region.wanted o (yielded all a.tmps) = true then semW P (execOp a.eval o) w K else K undef w

theorem wanted_gval {n : Nat} {fr : Fr} {a : Act} (h : Mt n fr a) (all : Array Oper) {o : Oper} {j : Nat} {want : Bool} (hg : o.guard = some (j, want)) :
    (Region.wanted o (yielded all a.tmps) = true) ↔ gval all j fr = .bool want := by
  simp only [Region.wanted, hg, yielded_gval h]
  cases gval all j fr <;> simp

theorem oneW_step {P : Program} {all : Array Oper} {o : Oper} {n : Nat} {fr : Fr} {a : Act} {w : World} {K : Value → World → Prop} (h : Mt n fr a) (hh : oneW P all o fr w K) : stepB P all o a w K := by
  unfold oneW at hh
  unfold stepB
  split at hh
  · rename_i hg
    have : Region.wanted o (yielded all a.tmps) = true := by simp [Region.wanted, hg]
    rw [if_pos this, h.eval]
    exact opW_sem hh
  · rename_i j want hg
    have hw := wanted_gval h all hg
    unfold gd at hh
    split at hh
    · rename_i b hb
      split at hh
      · rename_i hbw
        rw [if_pos (hw.2 (by rw [hb, hbw])), h.eval]
        exact opW_sem hh
      · rename_i hbw
        rw [if_neg (fun e => hbw (by have := hw.1 e; rw [hb] at this; cases this; rfl))]
        exact hh
    · rename_i hb
      rw [if_neg (fun e => hb want (hw.1 e))]
      exact hh

/-- The quiet kind: one value in every world that w grows into. -/
theorem oneQ_step {P : Program} {all : Array Oper} {o : Oper} {n : Nat} {fr : Fr} {a : Act} {w : World} {K : Value → Prop} (h : Mt n fr a) (hh : oneQ P all o fr w K) :
    ∃ v, K v ∧ ((Region.wanted o (yielded all a.tmps) = true ∧ Yld P w (execOp a.eval o) v) ∨ (Region.wanted o (yielded all a.tmps) = false ∧ v = undef)) := by
  unfold oneQ at hh
  split at hh
  · rename_i hg
    have : Region.wanted o (yielded all a.tmps) = true := by simp [Region.wanted, hg]
    obtain ⟨v, hy, hk⟩ := opQ_yld hh
    exact ⟨v, hk, .inl ⟨this, by rw [h.eval]; exact hy⟩⟩
  · rename_i j want hg
    have hw := wanted_gval h all hg
    unfold gdQ at hh
    split at hh
    · rename_i b hb
      split at hh
      · rename_i hbw
        obtain ⟨v, hy, hk⟩ := opQ_yld hh
        exact ⟨v, hk, .inl ⟨hw.2 (by rw [hb, hbw]), by rw [h.eval]; exact hy⟩⟩
      · rename_i hbw
        exact ⟨undef, hh, .inr ⟨by rw [← Bool.not_eq_true]; exact fun e => hbw (by have := hw.1 e; rw [hb] at this; cases this; rfl), rfl⟩⟩
    · rename_i hb
      exact ⟨undef, hh, .inr ⟨by rw [← Bool.not_eq_true]; exact fun e => hb want (hw.1 e), rfl⟩⟩

theorem semW_wp {P : Program} {o : Oper} {a : Act} {w : World} {K : Value → World → Prop} {Q : Exit → Act → World → Prop} (h : semW P (execOp a.eval o) w K) :
    o.wp P a w (fun a' w' => ∃ v, a' = a.put o.dst v ∧ K v w') Q := by
  unfold Oper.wp
  unfold semW at h
  cases hr : (execOp a.eval o).run P w with
  | halt x w' => rw [hr] at h; exact h.elim
  | ok n w' =>
    rw [hr] at h
    cases n <;> simp only at h
    case value v => exact ⟨v, rfl, h⟩
    case skip => exact ⟨undef, rfl, h⟩
    case enter f args =>
      refine h.mono fun e w'' he => ?_
      obtain ⟨v, rfl, hk⟩ := he
      exact ⟨v, rfl, hk⟩

theorem step_wpOp {P : Program} {all : Array Oper} {i : Nat} {o : Oper} {a : Act} {w : World} {K : Value → World → Prop} {Q : Exit → Act → World → Prop} (ho : all[i]? = some o) (h : stepB P all o a w K) :
    wpOp P all Q i (fun a' w' => ∃ v, a' = a.put o.dst v ∧ K v w') a w := by
  unfold wpOp
  simp only [ho]
  unfold stepB at h
  split
  · rename_i hw
    rw [if_pos hw] at h
    exact .inl (semW_wp h)
  · rename_i hw
    rw [if_neg hw] at h
    exact ⟨undef, rfl, h⟩

/-- What becomes of a frame through a row of operations: it matches, and has turned at their slots alone. -/
def Post (n : Nat) (S : List Nat) (fr0 : Fr) (K : Fr → World → Prop) (a : Act) (w : World) : Prop :=
  ∃ fr, Mt n fr a ∧ (∀ i, i ∉ S → fr i = fr0 i) ∧ K fr w

def dstsOf (l : List Oper) : List Nat := l.filterMap (·.dst)

theorem upd_other {fr : Fr} {d : Option Nat} {v : Value} {i : Nat} (h : d ≠ some i) : upd fr d v i = fr i := by
  cases d with
  | none => rfl
  | some d =>
    have : Nat.beq i d = false := by rw [← Bool.not_eq_true, Nat.beq_eq]; intro e; exact h (by rw [e])
    simp [upd, this]

theorem opsW_wp {P : Program} {all : Array Oper} {n : Nat} {Q : Exit → Act → World → Prop} {K : Fr → World → Prop} {S : List Nat} {fr0 : Fr} (hQ : ∀ a w, Post n S fr0 K a w → Q .normal a w) :
    ∀ (l : List Oper) (k : Nat) (fr : Fr) (a : Act) (w : World), (∀ j, l[j]? = all[k + j]?) → (∀ d ∈ dstsOf l, d < n ∧ d ∈ S) → (∀ i, i ∉ S → fr i = fr0 i) → Mt n fr a →
      opsW P all l K fr w → wpOps P all Q (List.range' k l.length) a w
  | [], k, fr, a, w, _, _, hs, hm, h => hQ _ _ ⟨fr, hm, hs, h⟩
  | o :: l, k, fr, a, w, hl, hd, hs, hm, h => by
    have h0 : all[k]? = some o := by simpa using (hl 0).symm
    have hst := oneW_step hm (K := fun v w' => opsW P all l K (upd fr o.dst v) w') h
    have := step_wpOp (Q := Q) h0 hst
    simp only [List.length_cons, List.range'_succ]
    rw [wpOps_cons]
    refine wpOp_mono (fun a' w' ⟨v, ha, hk⟩ => ?_) this
    subst ha
    have hdo : ∀ x, o.dst = some x → x < n ∧ x ∈ S := fun x hx => hd x (by simp [dstsOf, hx])
    refine opsW_wp hQ l (k + 1) _ _ _ (fun j => by have := hl (j + 1); simpa [Nat.add_assoc, Nat.add_comm 1 j] using this) (fun d hd' => hd d ?_) (fun i hi => ?_) (hm.put (fun x hx => (hdo x hx).1) v) hk
    · simp only [dstsOf, List.filterMap_cons] at hd' ⊢
      cases o.dst <;> simp_all
    · rw [upd_other (fun e => hi (hdo i e).2)]
      exact hs i hi

theorem region_wp {P : Program} {id n : Nat} {ops : Array Oper} {Q : Exit → Act → World → Prop} {K : Fr → World → Prop} {fr : Fr} {a : Act} {w : World}
    (hd : ∀ d ∈ dstsOf ops.toList, d < n) (hm : Mt n fr a) (h : opsW P ops ops.toList K fr w) (hQ : ∀ a w, Post n (dstsOf ops.toList) fr K a w → Q .normal a w) :
    (Code.region id ops false).wp P Q a w := by
  refine wp_region ?_
  have := opsW_wp (P := P) hQ ops.toList 0 fr a w (fun j => by simp) (fun d hd' => ⟨hd d hd', hd'⟩) (fun _ _ => rfl) hm h
  simpa [List.range_eq_range'] using this

end Go.Lf
