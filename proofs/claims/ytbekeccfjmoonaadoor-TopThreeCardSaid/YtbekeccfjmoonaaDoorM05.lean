/- Texts of my own, merged by program: Lift3 Lift4. -/
import Derived.Test.YtbekeccfjmoonaaDoorM04
set_option linter.all false
/- Lifting, part 3: frames; rows of operations; regions that draw their order. -/
namespace Go.Lf
open Go.RowKit

def upd (fr : Fr) (d : Option Nat) (v : Value) : Fr :=
  match d with
  | none => fr
  | some d => fun i => bif Nat.beq i d then v else fr i

/-- The frame that fr is, as the machine holds it: n slots, nothing deferred. -/
structure Mt (n : Nat) (fr : Fr) (a : Act) : Prop where
  defers : a.defers = []
  size : a.tmps.size = n
  slot : ∀ i, a.tmps.getD i undef = fr i

theorem Mt.eval {n : Nat} {fr : Fr} {a : Act} (h : Mt n fr a) : a.eval = evO fr := by
  funext x
  cases x with
  | tmp t => exact h.slot t
  | _ => rfl

theorem Mt.put {n : Nat} {fr : Fr} {a : Act} (h : Mt n fr a) {d : Option Nat} (hd : ∀ x, d = some x → x < n) (v : Value) : Mt n (upd fr d v) (a.put d v) := by
  cases d with
  | none => exact h
  | some d =>
    have hd' := hd d rfl
    refine ⟨h.defers, by simp [Act.put, h.size], fun i => ?_⟩
    have hs := h.slot i
    by_cases hi : i = d
    · subst hi
      simp [Act.put, upd, h.size, hd']
    · have hb : Nat.beq i d = false := by rw [← Bool.not_eq_true, Nat.beq_eq]; exact hi
      have : (a.tmps.setIfInBounds d v)[i]? = a.tmps[i]? := Array.getElem?_setIfInBounds_ne (fun e => hi e.symm)
      simp only [Act.put, upd, hb, cond_false]
      rw [← hs]
      simp [this]

def gval (all : Array Oper) (j : Nat) (fr : Fr) : Value :=
  match (all[j]?).bind (·.dst) with
  | some d => fr d
  | none => undef

def gd (g : Value) (want : Bool) (run : (Value → World → Prop) → Prop) (w : World) (K : Value → World → Prop) : Prop :=
  match g with
  | .bool b => if b = want then run K else K undef w
  | _ => K undef w

def gdQ (g : Value) (want : Bool) (run : (Value → Prop) → Prop) (K : Value → Prop) : Prop :=
  match g with
  | .bool b => if b = want then run K else K undef
  | _ => K undef

theorem yielded_gval {n : Nat} {fr : Fr} {a : Act} (h : Mt n fr a) (all : Array Oper) (j : Nat) :
    yielded all a.tmps j = match gval all j fr with | .bool b => some b | _ => none := by
  unfold yielded gval
  cases hd : (all[j]?).bind (·.dst) with
  | none => rfl
  | some d =>
    have hs := h.slot d
    simp only [Option.bind_some]
    cases ht : a.tmps[d]? with
    | none =>
      have : fr d = undef := by rw [← hs]; simp [ht]
      rw [this]
      rfl
    | some v =>
      have : fr d = v := by rw [← hs]; simp [ht]
      rw [this]
      cases v <;> rfl

/-- One operation, its guard asked first. -/
def oneW (P : Program) (all : Array Oper) (o : Oper) (fr : Fr) (w : World) (K : Value → World → Prop) : Prop :=
  match o.guard with
  | none => opW P o (evO fr) w K
  | some (j, want) => gd (gval all j fr) want (fun k => opW P o (evO fr) w k) w K

def oneQ (P : Program) (all : Array Oper) (o : Oper) (fr : Fr) (w : World) (K : Value → Prop) : Prop :=
  match o.guard with
  | none => opQ P o.op (evO fr) w K
  | some (j, want) => gdQ (gval all j fr) want (fun k => opQ P o.op (evO fr) w k) K

def opsW (P : Program) (all : Array Oper) : List Oper → (Fr → World → Prop) → Fr → World → Prop
  | [], K, fr, w => K fr w
  | o :: rest, K, fr, w => oneW P all o fr w fun v w' => opsW P all rest K (upd fr o.dst v) w'

/-- What one operation does to a machine's frame. -/
def stepB (P : Program) (all : Array Oper) (o : Oper) (a : Act) (w : World) (K : Value → World → Prop) : Prop :=
  if Region.wanted o (yielded all a.tmps) = true then semW P (execOp a.eval o) w K else K undef w

theorem wanted_gval {n : Nat} {fr : Fr} {a : Act} (h : Mt n fr a) (all : Array Oper) {o : Oper} {j : Nat} {want : Bool} (hg : o.guard = some (j, want)) :
    (Region.wanted o (yielded all a.tmps) = true) ↔ gval all j fr = .bool want := by
  simp only [Region.wanted, hg, yielded_gval h]
  cases gval all j fr <;> simp

theorem oneW_step {P : Program} {all : Array Oper} {o : Oper} {n : Nat} {fr : Fr} {a : Act} {w : World} {K : Value → World → Prop} (h : Mt n fr a) (hh : oneW P all o fr w K) : stepB P all o a w K := by
  unfold oneW at hh
  unfold stepB
  split at hh
  · rename_i hg
    have : Region.wanted o (yielded all a.tmps) = true := by simp [Region.wanted, hg]
    rw [if_pos this, h.eval]
    exact opW_sem hh
  · rename_i j want hg
    have hw := wanted_gval h all hg
    unfold gd at hh
    split at hh
    · rename_i b hb
      split at hh
      · rename_i hbw
        rw [if_pos (hw.2 (by rw [hb, hbw])), h.eval]
        exact opW_sem hh
      · rename_i hbw
        rw [if_neg (fun e => hbw (by have := hw.1 e; rw [hb] at this; cases this; rfl))]
        exact hh
    · rename_i hb
      rw [if_neg (fun e => hb want (hw.1 e))]
      exact hh

/-- The quiet kind: one value in every world that w grows into. -/
theorem oneQ_step {P : Program} {all : Array Oper} {o : Oper} {n : Nat} {fr : Fr} {a : Act} {w : World} {K : Value → Prop} (h : Mt n fr a) (hh : oneQ P all o fr w K) :
    ∃ v, K v ∧ ((Region.wanted o (yielded all a.tmps) = true ∧ Yld P w (execOp a.eval o) v) ∨ (Region.wanted o (yielded all a.tmps) = false ∧ v = undef)) := by
  unfold oneQ at hh
  split at hh
  · rename_i hg
    have : Region.wanted o (yielded all a.tmps) = true := by simp [Region.wanted, hg]
    obtain ⟨v, hy, hk⟩ := opQ_yld hh
    exact ⟨v, hk, .inl ⟨this, by rw [h.eval]; exact hy⟩⟩
  · rename_i j want hg
    have hw := wanted_gval h all hg
    unfold gdQ at hh
    split at hh
    · rename_i b hb
      split at hh
      · rename_i hbw
        obtain ⟨v, hy, hk⟩ := opQ_yld hh
        exact ⟨v, hk, .inl ⟨hw.2 (by rw [hb, hbw]), by rw [h.eval]; exact hy⟩⟩
      · rename_i hbw
        exact ⟨undef, hh, .inr ⟨by rw [← Bool.not_eq_true]; exact fun e => hbw (by have := hw.1 e; rw [hb] at this; cases this; rfl), rfl⟩⟩
    · rename_i hb
      exact ⟨undef, hh, .inr ⟨by rw [← Bool.not_eq_true]; exact fun e => hb want (hw.1 e), rfl⟩⟩

theorem semW_wp {P : Program} {o : Oper} {a : Act} {w : World} {K : Value → World → Prop} {Q : Exit → Act → World → Prop} (h : semW P (execOp a.eval o) w K) :
    o.wp P a w (fun a' w' => ∃ v, a' = a.put o.dst v ∧ K v w') Q := by
  unfold Oper.wp
  unfold semW at h
  cases hr : (execOp a.eval o).run P w with
  | halt x w' => rw [hr] at h; exact h.elim
  | ok n w' =>
    rw [hr] at h
    cases n <;> simp only at h
    case value v => exact ⟨v, rfl, h⟩
    case skip => exact ⟨undef, rfl, h⟩
    case enter f args =>
      refine h.mono fun e w'' he => ?_
      obtain ⟨v, rfl, hk⟩ := he
      exact ⟨v, rfl, hk⟩

theorem step_wpOp {P : Program} {all : Array Oper} {i : Nat} {o : Oper} {a : Act} {w : World} {K : Value → World → Prop} {Q : Exit → Act → World → Prop} (ho : all[i]? = some o) (h : stepB P all o a w K) :
    wpOp P all Q i (fun a' w' => ∃ v, a' = a.put o.dst v ∧ K v w') a w := by
  unfold wpOp
  simp only [ho]
  unfold stepB at h
  split
  · rename_i hw
    rw [if_pos hw] at h
    exact .inl (semW_wp h)
  · rename_i hw
    rw [if_neg hw] at h
    exact ⟨undef, rfl, h⟩

/-- What becomes of a frame through a row of operations: it matches, and has turned at their slots alone. -/
def Post (n : Nat) (S : List Nat) (fr0 : Fr) (K : Fr → World → Prop) (a : Act) (w : World) : Prop :=
  ∃ fr, Mt n fr a ∧ (∀ i, i ∉ S → fr i = fr0 i) ∧ K fr w

def dstsOf (l : List Oper) : List Nat := l.filterMap (·.dst)

theorem upd_other {fr : Fr} {d : Option Nat} {v : Value} {i : Nat} (h : d ≠ some i) : upd fr d v i = fr i := by
  cases d with
  | none => rfl
  | some d =>
    have : Nat.beq i d = false := by rw [← Bool.not_eq_true, Nat.beq_eq]; intro e; exact h (by rw [e])
    simp [upd, this]

theorem opsW_wp {P : Program} {all : Array Oper} {n : Nat} {Q : Exit → Act → World → Prop} {K : Fr → World → Prop} {S : List Nat} {fr0 : Fr} (hQ : ∀ a w, Post n S fr0 K a w → Q .normal a w) :
    ∀ (l : List Oper) (k : Nat) (fr : Fr) (a : Act) (w : World), (∀ j, l[j]? = all[k + j]?) → (∀ d ∈ dstsOf l, d < n ∧ d ∈ S) → (∀ i, i ∉ S → fr i = fr0 i) → Mt n fr a →
      opsW P all l K fr w → wpOps P all Q (List.range' k l.length) a w
  | [], k, fr, a, w, _, _, hs, hm, h => hQ _ _ ⟨fr, hm, hs, h⟩
  | o :: l, k, fr, a, w, hl, hd, hs, hm, h => by
    have h0 : all[k]? = some o := by simpa using (hl 0).symm
    have hst := oneW_step hm (K := fun v w' => opsW P all l K (upd fr o.dst v) w') h
    have := step_wpOp (Q := Q) h0 hst
    simp only [List.length_cons, List.range'_succ]
    rw [wpOps_cons]
    refine wpOp_mono (fun a' w' ⟨v, ha, hk⟩ => ?_) this
    subst ha
    have hdo : ∀ x, o.dst = some x → x < n ∧ x ∈ S := fun x hx => hd x (by simp [dstsOf, hx])
    refine opsW_wp hQ l (k + 1) _ _ _ (fun j => by have := hl (j + 1); simpa [Nat.add_assoc, Nat.add_comm 1 j] using this) (fun d hd' => hd d ?_) (fun i hi => ?_) (hm.put (fun x hx => (hdo x hx).1) v) hk
    · simp only [dstsOf, List.filterMap_cons] at hd' ⊢
      cases o.dst <;> simp_all
    · rw [upd_other (fun e => hi (hdo i e).2)]
      exact hs i hi

theorem region_wp {P : Program} {id n : Nat} {ops : Array Oper} {Q : Exit → Act → World → Prop} {K : Fr → World → Prop} {fr : Fr} {a : Act} {w : World}
    (hd : ∀ d ∈ dstsOf ops.toList, d < n) (hm : Mt n fr a) (h : opsW P ops ops.toList K fr w) (hQ : ∀ a w, Post n (dstsOf ops.toList) fr K a w → Q .normal a w) :
    (Code.region id ops false).wp P Q a w := by
  refine wp_region ?_
  have := opsW_wp (P := P) hQ ops.toList 0 fr a w (fun j => by simp) (fun d hd' => ⟨hd d hd', hd'⟩) (fun _ _ => rfl) hm h
  simpa [List.range_eq_range'] using this

end Go.Lf

/- Lifting, part 4: a region that draws its order, by a schedule: quiet operations first, then what acts. -/
namespace Go.Lf
open Go.RowKit

inductive Sched where
  | done
  /-- a quiet operation -/
  | take (i : Nat) (s : Sched)
  /-- the one operation that may come up; it leaves old memory alone -/
  | eff (i : Nat) (s : Sched)
  /-- the one operation that may come up, all others before it or behind it whatever the order -/
  | bar (i : Nat) (s : Sched)
  /-- one of several that may come up; 'more': the others -/
  | alt (i : Nat) (s more : Sched)
  | nomore
  /-- all of it, some blocks being allowed to turn -/
  | cls (s : Sched)

def Sched.steps : Sched → Nat
  | .done => 0
  | .take _ s => s.steps + 1
  | .eff _ s => s.steps + 1
  | .bar _ s => s.steps + 1
  | .alt _ s more => max (s.steps + 1) more.steps
  | .nomore => 0
  | .cls _ => 0

def Sched.alts : Sched → List Nat
  | .alt i _ more => i :: more.alts
  | _ => []

def Sched.bars : Sched → List Nat
  | .done => []
  | .take _ s => s.bars
  | .eff _ s => s.bars
  | .bar i s => i :: s.bars
  | .alt _ s more => s.bars ++ more.bars
  | .nomore => []
  | .cls _ => []

def keepB (w : World) (K : Value → World → Prop) : Value → World → Prop := fun v w' => Below w.heap.size w w' ∧ K v w'

def schW (P : Program) (all : Array Oper) : Sched → (Fr → World → Prop) → Fr → World → Prop
  | .done, K, fr, w => K fr w
  | .take i s, K, fr, w => match all[i]? with
    | some o => oneQ P all o fr w fun v => schW P all s K (upd fr o.dst v) w
    | none => False
  | .eff i s, K, fr, w => match all[i]? with
    | some o => oneW P all o fr w (keepB w fun v w' => schW P all s K (upd fr o.dst v) w')
    | none => False
  | .bar i s, K, fr, w => match all[i]? with
    | some o => oneW P all o fr w fun v w' => schW P all s K (upd fr o.dst v) w'
    | none => False
  | .alt i s more, K, fr, w => (match all[i]? with
    | some o => oneW P all o fr w (keepB w fun v w' => schW P all s K (upd fr o.dst v) w')
    | none => False) ∧ schW P all more K fr w
  | .nomore, _, _, _ => True
  | .cls _, _, _, _ => False

/-- Does operation i wait for k, by way of n - 1 others at most? -/
def waitsN (all : Array Oper) : Nat → Nat → Nat → Bool
  | 0, _, _ => false
  | n + 1, i, k => match all[i]? with
    | none => false
    | some o => o.after.any fun e => Region.binds .any e && (e.on == k || waitsN all n e.on k)

def waits (all : Array Oper) (i k : Nat) : Bool := waitsN all 6 i k

def barOk (all : Array Oper) (i : Nat) : Bool := (List.range all.size).all fun k => k == i || waits all i k || waits all k i

def schOk (all : Array Oper) : Sched → Bool → Array Bool → Bool
  | .done, _, L => (Region.ready .any all L).isEmpty
  | .take i s, _, L => (Region.ready .any all L).contains i && Region.free .any all L i && schOk all s true (L.setIfInBounds i true)
  | .eff i s, _, L => (Region.ready .any all L == [i]) && schOk all s true (L.setIfInBounds i true)
  | .bar i s, _, L => (Region.ready .any all L == [i]) && barOk all i && schOk all s true (L.setIfInBounds i true)
  | .alt i s more, top, L => (!top || (!(Region.ready .any all L).isEmpty && (Region.ready .any all L).all (Sched.alt i s more).alts.contains)) && schOk all s true (L.setIfInBounds i true) && schOk all more false L
  | .nomore, top, _ => !top
  | .cls _, _, _ => false

/-- Whatever order: every operation but the 'bars' leaves old memory alone. -/
def wpB (P : Program) (all : Array Oper) (bars : List Nat) (Q : Act → World → Prop) : Nat → Array Bool → Act → World → Prop
  | 0, L, a, w => Region.ready .any all L = [] ∧ Q a w
  | f + 1, L, a, w => (Region.ready .any all L = [] → Q a w) ∧
    ∀ i ∈ Region.ready .any all L, ∀ o, all[i]? = some o →
      stepB P all o a w fun v w' => (i ∉ bars → Below w.heap.size w w') ∧ wpB P all bars Q f (L.setIfInBounds i true) (a.put o.dst v) w'

section
variable {P : Program} {all : Array Oper} {bars : List Nat} {Q : Act → World → Prop}

theorem stepB_mono {o : Oper} {a : Act} {w : World} {K K' : Value → World → Prop} (h : stepB P all o a w K) (hk : ∀ v w', K v w' → K' v w') : stepB P all o a w K' := by
  unfold stepB at *
  split
  · rename_i hw; rw [if_pos hw] at h; exact semW_mono h hk
  · rename_i hw; rw [if_neg hw] at h; exact hk _ _ h

theorem wpAny_of_B {Q' : Exit → Act → World → Prop} (hQ : ∀ a w, Q a w → Q' .normal a w) : ∀ (f : Nat) (L : Array Bool) (a : Act) (w : World), wpB P all bars Q f L a w → wpAny P .any all Q' f L a w
  | 0, _, _, _, h => ⟨h.1, hQ _ _ h.2⟩
  | f + 1, L, a, w, h => by
    refine ⟨fun h0 => hQ _ _ (h.1 h0), fun i hi => ?_⟩
    obtain ⟨_, o, ho, _⟩ := mem_ready.1 hi
    refine wpOp_mono (fun a' w' ⟨v, ha, hk⟩ => ?_) (step_wpOp (Q := Q') ho (h.2 i hi o ho))
    subst ha
    exact wpAny_of_B hQ f _ _ _ hk.2

/-- Another operation, apart from oi: whether oi's value lies in its slot already makes no difference. -/
theorem stepB_put {oi oj : Oper} {v : Value} (hap : oi.apart all oj = true) (hsj : ∀ cs b, oj.op ≠ .select cs b) {a : Act} {w : World} {K : Value → World → Prop}
    (h : stepB P all oj (a.put oi.dst v) w K) : stepB P all oj a w K := by
  obtain ⟨h1, _, _⟩ := Oper.apart_spec hap
  unfold stepB at *
  rw [wanted_put oj a oi.dst v h1, execOp_put oj hsj a oi.dst v h1] at h
  exact h

/-- In state a, in every world that w grows into, oi leaves v in its slot. -/
def YB (P : Program) (all : Array Oper) (oi : Oper) (v : Value) (a : Act) (w : World) : Prop :=
  (Region.wanted oi (yielded all a.tmps) = true ∧ Yld P w (execOp a.eval oi) v) ∨ (Region.wanted oi (yielded all a.tmps) = false ∧ v = undef)

theorem YB.step {oi : Oper} {v : Value} {a : Act} {w : World} (h : YB P all oi v a w) {K : Value → World → Prop} (hk : K v w) : stepB P all oi a w K := by
  unfold stepB
  rcases h with ⟨h1, h2⟩ | ⟨h1, rfl⟩
  · rw [if_pos h1]; exact semW_of_yld h2 hk
  · rw [if_neg (by simp [h1])]; exact hk

theorem YB.later {oi oj : Oper} {v u : Value} {a : Act} {w w' : World} (h : YB P all oi v a w) (hap : oi.apart all oj = true) (hsi : ∀ cs b, oi.op ≠ .select cs b) (hb : Below w.heap.size w w') :
    YB P all oi v (a.put oj.dst u) w' := by
  obtain ⟨_, _, h3⟩ := Oper.apart_spec hap
  unfold YB at *
  rw [wanted_put oi a oj.dst u h3, execOp_put oi hsi a oj.dst u h3]
  refine h.imp (fun h => ⟨h.1, fun w'' hb'' => h.2 w'' (hb.trans (hb''.mono hb.size))⟩) id

/-- Barriers: where one may come up, nothing else may. -/
def BarsOk (all : Array Oper) (bars : List Nat) (L : Array Bool) : Prop := ∀ j ∈ bars, j ∈ Region.ready .any all L → ∀ i ∈ Region.ready .any all L, i = j

/-- L is what a run has behind it: each operation stands behind what it waits for. -/
def Closed (all : Array Oper) (L : Array Bool) : Prop := ∀ (i : Nat) (o : Oper), all[i]? = some o → L.getD i false = true → ∀ e ∈ o.after, Region.binds .any e = true → L.getD e.on false = true

theorem Closed.set {L : Array Bool} {i : Nat} (h : Closed all L) (hi : i ∈ Region.ready .any all L) : Closed all (L.setIfInBounds i true) := by
  intro j o ho hl e he hb
  by_cases hji : j = i
  · subst hji
    obtain ⟨_, o', ho', hall⟩ := mem_ready.1 hi
    rw [ho] at ho'
    cases ho'
    exact getD_set_true (hall e he hb)
  · rw [getD_set_ne false (Ne.symm hji)] at hl
    exact getD_set_true (h j o ho hl e he hb)

theorem waits_listed {L : Array Bool} (hc : Closed all L) : ∀ (n i k : Nat), waitsN all n i k = true → L.getD i false = true → L.getD k false = true
  | 0, _, _, h, _ => by cases h
  | n + 1, i, k, h, hl => by
    unfold waitsN at h
    split at h
    · cases h
    · rename_i o ho
      obtain ⟨m, hm, he⟩ := Array.any_eq_true.1 h
      simp only [Bool.and_eq_true, Bool.or_eq_true, beq_iff_eq] at he
      have := hc i o ho hl _ (Array.getElem_mem hm) he.1
      rcases he.2 with e | e
      · rwa [e] at this
      · exact waits_listed hc n _ _ e this

theorem waits_not_ready {L : Array Bool} (hc : Closed all L) {i k : Nat} (hw : waits all i k = true) (hi : i ∈ Region.ready .any all L) (hk : k ∈ Region.ready .any all L) : False := by
  obtain ⟨_, o, ho, hall⟩ := mem_ready.1 hi
  obtain ⟨hku, _⟩ := mem_ready.1 hk
  have hlisted : L.getD k false = true → False := fun h => by
    rcases Nat.lt_or_ge k L.size with h' | h'
    · simp [h'] at h hku; rw [h] at hku; cases hku
    · simp [Array.getElem?_eq_none h'] at h
  unfold waits waitsN at hw
  simp only [ho] at hw
  obtain ⟨m, hm, he⟩ := Array.any_eq_true.1 hw
  simp only [Bool.and_eq_true, Bool.or_eq_true, beq_iff_eq] at he
  have := hall _ (Array.getElem_mem hm) he.1
  rcases he.2 with e | e
  · rw [e] at this; exact hlisted this
  · exact hlisted (waits_listed hc _ _ _ e this)

theorem ready_lt {L : Array Bool} {i : Nat} (h : i ∈ Region.ready .any all L) : i < all.size := by
  obtain ⟨_, o, ho, _⟩ := mem_ready.1 h
  exact (Array.getElem?_eq_some_iff.1 ho).1

theorem barsOk_of (h : bars.all (barOk all) = true) {L : Array Bool} (hc : Closed all L) : BarsOk all bars L := by
  intro j hj hjr i hir
  have hb := List.all_eq_true.1 h j hj
  unfold barOk at hb
  have := List.all_eq_true.1 hb i (List.mem_range.2 (ready_lt hir))
  simp only [Bool.or_eq_true, beq_iff_eq] at this
  rcases this with (h1 | h1) | h1
  · exact h1
  · exact (waits_not_ready hc h1 hjr hir).elim
  · exact (waits_not_ready hc h1 hir hjr).elim

theorem wpB_take (hbars : bars.all (barOk all) = true) (hns : Region.noSelect all = true) {i : Nat} {oi : Oper} {v : Value} (hi : all[i]? = some oi) :
    ∀ (f : Nat) (L : Array Bool) (a : Act) (w : World), Closed all L →
      (∀ j oj, all[j]? = some oj → j ≠ i → L.getD j true = false → (∀ e ∈ oj.after, Region.binds .any e = true → e.on ≠ i) → oi.apart all oj = true) →
      i ∈ Region.ready .any all L → YB P all oi v a w → wpB P all bars Q f (L.setIfInBounds i true) (a.put oi.dst v) w → wpB P all bars Q (f + 1) L a w := by
  have hsel := Region.noSelect_spec hns
  intro f
  induction f with
  | zero =>
    intro L a w hc hfree hr hy H
    refine ⟨fun h => (by rw [h] at hr; cases hr), fun j hj oj hoj => ?_⟩
    by_cases hji : j = i
    · subst hji
      rw [hi] at hoj
      cases hoj
      exact hy.step ⟨fun _ => Below.refl _ _, H⟩
    · have := ready_mono hj hji
      rw [H.1] at this
      cases this
  | succ f ih =>
    intro L a w hc hfree hr hy H
    refine ⟨fun h => (by rw [h] at hr; cases hr), fun j hj oj hoj => ?_⟩
    by_cases hji : j = i
    · subst hji
      rw [hi] at hoj
      cases hoj
      exact hy.step ⟨fun _ => Below.refl _ _, H⟩
    · have h1 := H.2 j (ready_mono hj hji) oj hoj
      obtain ⟨hjun, oj', hoj', hall⟩ := mem_ready.1 hj
      rw [hoj] at hoj'
      cases hoj'
      have hnot : ∀ e ∈ oj.after, Region.binds .any e = true → e.on ≠ i := fun e he hb heq => by
        have h1 := hall e he hb
        have h0 := (mem_ready.1 hr).1
        rw [heq] at h1
        rcases Nat.lt_or_ge i L.size with h' | h'
        · simp [h'] at h0 h1; rw [h0] at h1; cases h1
        · simp [Array.getElem?_eq_none h'] at h1
      have hap := hfree j oj hoj hji hjun hnot
      have hjb : j ∉ bars := fun hb => hji (barsOk_of hbars hc j hb hj i hr).symm
      refine stepB_mono (stepB_put hap (fun cs b => hsel j oj cs b hoj) h1) (fun u w' ⟨hk1, hk2⟩ => ⟨fun _ => hk1 hjb, ?_⟩)
      have hfree' : ∀ k ok, all[k]? = some ok → k ≠ i → (L.setIfInBounds j true).getD k true = false →
          (∀ e ∈ ok.after, Region.binds .any e = true → e.on ≠ i) → oi.apart all ok = true := fun k ok hk hki hun hno => by
        refine hfree k ok hk hki ?_ hno
        by_cases hjk : j = k
        · subst hjk; exact hjun
        · rw [getD_set_ne true hjk] at hun; exact hun
      refine ih (L.setIfInBounds j true) _ w' (hc.set hj) hfree' (ready_mono hr (Ne.symm hji)) (hy.later hap (fun cs b => hsel i oi cs b hi) (hk1 hjb)) ?_
      rw [Array.setIfInBounds_comm _ _ hji, ← Act.put_comm a v u (Oper.apart_spec hap).2.1]
      exact hk2

theorem wpB_done {L : Array Bool} {a : Act} {w : World} (hr : Region.ready .any all L = []) (h : Q a w) : ∀ f, wpB P all bars Q f L a w
  | 0 => ⟨hr, h⟩
  | _ + 1 => ⟨fun _ => h, fun i hi => by rw [hr] at hi; cases hi⟩

end

theorem alts_step {P : Program} {all : Array Oper} {K : Fr → World → Prop} {fr : Fr} {w : World} : ∀ (s : Sched) (L : Array Bool), schOk all s false L = true → schW P all s K fr w → ∀ i ∈ s.alts,
    ∃ s' o, all[i]? = some o ∧ oneW P all o fr w (keepB w fun v w' => schW P all s' K (upd fr o.dst v) w') ∧ schOk all s' true (L.setIfInBounds i true) = true ∧ s'.steps + 1 ≤ s.steps ∧ (∀ b ∈ s'.bars, b ∈ s.bars)
  | .alt j s more, L, hok, h, i, hi => by
    simp only [schOk, Bool.and_eq_true] at hok
    simp only [Sched.alts, List.mem_cons] at hi
    rcases hi with rfl | hi
    · have h1 := h.1
      cases ho : all[i]? with
      | none => rw [ho] at h1; exact h1.elim
      | some o =>
        rw [ho] at h1
        exact ⟨s, o, rfl, h1, hok.1.2, by simp [Sched.steps]; omega, fun b hb => by simp [Sched.bars, hb]⟩
    · obtain ⟨s', o, h1, h2, h3, h4, h5⟩ := alts_step more L hok.2 h.2 i hi
      exact ⟨s', o, h1, h2, h3, by simp [Sched.steps]; omega, fun b hb => by simp [Sched.bars, h5 b hb]⟩
  | .done, _, _, _, i, hi => by cases hi
  | .take _ _, _, _, _, i, hi => by cases hi
  | .eff _ _, _, _, _, i, hi => by cases hi
  | .bar _ _, _, _, _, i, hi => by cases hi
  | .nomore, _, _, _, i, hi => by cases hi
  | .cls _, _, _, _, i, hi => by cases hi

theorem schW_wpB {P : Program} {all : Array Oper} {bars : List Nat} {n : Nat} {S : List Nat} {fr0 : Fr} {K : Fr → World → Prop} (hbars : bars.all (barOk all) = true) (hns : Region.noSelect all = true)
    (hd : ∀ (i : Nat) (o : Oper) (d : Nat), all[i]? = some o → o.dst = some d → d < n ∧ d ∈ S) :
    ∀ (f : Nat) (s : Sched) (L : Array Bool) (fr : Fr) (a : Act) (w : World), s.steps ≤ f → (∀ b ∈ s.bars, b ∈ bars) → schOk all s true L = true → Closed all L → Mt n fr a → (∀ i, i ∉ S → fr i = fr0 i) →
      schW P all s K fr w → wpB P all bars (Post n S fr0 K) f L a w := by
  have next : ∀ {fr : Fr} {a : Act} {i : Nat} {o : Oper} (v : Value), all[i]? = some o → Mt n fr a → (∀ i, i ∉ S → fr i = fr0 i) → Mt n (upd fr o.dst v) (a.put o.dst v) ∧ (∀ i, i ∉ S → upd fr o.dst v i = fr0 i) := by
    intro fr a i o v ho hm hs
    refine ⟨hm.put (fun x hx => (hd i o x ho hx).1) v, fun j hj => ?_⟩
    rw [upd_other (fun e => hj (hd i o j ho e).2)]
    exact hs j hj
  intro f
  induction f with
  | zero =>
    intro s L fr a w hst hsub hok hc hm hs h
    cases s with
    | done => exact wpB_done (by simpa [schOk] using hok) ⟨fr, hm, hs, h⟩ 0
    | nomore => simp [schOk] at hok
    | cls s => simp [schOk] at hok
    | take i s => simp [Sched.steps] at hst
    | eff i s => simp [Sched.steps] at hst
    | bar i s => simp [Sched.steps] at hst
    | alt i s more => simp [Sched.steps] at hst
  | succ f ih =>
    intro s L fr a w hst hsub hok hc hm hs h
    cases s with
    | done => exact wpB_done (by simpa [schOk] using hok) ⟨fr, hm, hs, h⟩ _
    | nomore => simp [schOk] at hok
    | cls s => simp [schOk] at hok
    | take i s =>
      simp only [schOk, Bool.and_eq_true, List.contains_iff_mem] at hok
      obtain ⟨⟨h1, h2⟩, h3⟩ := hok
      simp only [schW] at h
      cases ho : all[i]? with
      | none => rw [ho] at h; exact h.elim
      | some o =>
        rw [ho] at h
        obtain ⟨v, hk, hy⟩ := oneQ_step hm h
        obtain ⟨hm', hs'⟩ := next v ho hm hs
        refine wpB_take hbars hns ho f L a w hc (Region.free_spec ho h2) h1 hy ?_
        exact ih s _ _ _ w (by simp [Sched.steps] at hst; omega) (fun b hb => hsub b (by simpa [Sched.bars] using hb)) h3 (hc.set h1) hm' hs' hk
    | eff i s =>
      simp only [schOk, Bool.and_eq_true, beq_iff_eq] at hok
      obtain ⟨h1, h3⟩ := hok
      have hir : i ∈ Region.ready .any all L := by rw [h1]; simp
      simp only [schW] at h
      refine ⟨fun h0 => (by rw [h1] at h0; cases h0), fun j hj oj hoj => ?_⟩
      rw [h1, List.mem_singleton] at hj
      subst hj
      rw [hoj] at h
      refine stepB_mono (oneW_step hm h) fun v w' ⟨hb, hk⟩ => ⟨fun _ => hb, ?_⟩
      obtain ⟨hm', hs'⟩ := next v hoj hm hs
      exact ih s _ _ _ w' (by simp [Sched.steps] at hst; omega) (fun b hb => hsub b (by simpa [Sched.bars] using hb)) h3 (hc.set hir) hm' hs' hk
    | bar i s =>
      simp only [schOk, Bool.and_eq_true, beq_iff_eq] at hok
      obtain ⟨⟨h1, h2⟩, h3⟩ := hok
      have hir : i ∈ Region.ready .any all L := by rw [h1]; simp
      simp only [schW] at h
      refine ⟨fun h0 => (by rw [h1] at h0; cases h0), fun j hj oj hoj => ?_⟩
      rw [h1, List.mem_singleton] at hj
      subst hj
      rw [hoj] at h
      refine stepB_mono (oneW_step hm h) fun v w' hk => ⟨fun hnb => absurd (hsub j (by simp [Sched.bars])) hnb, ?_⟩
      obtain ⟨hm', hs'⟩ := next v hoj hm hs
      exact ih s _ _ _ w' (by simp [Sched.steps] at hst; omega) (fun b hb => hsub b (by simp [Sched.bars, hb])) h3 (hc.set hir) hm' hs' hk
    | alt i s more =>
      have hok' : schOk all (.alt i s more) false L = true := by
        simp only [schOk, Bool.and_eq_true] at hok ⊢
        exact ⟨⟨by simp, hok.1.2⟩, hok.2⟩
      have hall : (Region.ready .any all L).all (Sched.alt i s more).alts.contains = true := by
        simp only [schOk, Bool.and_eq_true, Bool.not_true, Bool.false_or] at hok
        exact hok.1.1.2
      have hcont : ∀ j ∈ Region.ready .any all L, j ∈ (Sched.alt i s more).alts := fun j hj => by
        have := List.all_eq_true.1 hall j hj
        simpa using this
      have hsteps := alts_step (P := P) (K := K) (fr := fr) (w := w) (.alt i s more) L hok' h
      by_cases hemp : Region.ready .any all L = []
      · simp only [schOk, Bool.and_eq_true, Bool.not_true, Bool.false_or] at hok
        have := hok.1.1.1
        rw [hemp] at this
        simp at this
      · refine ⟨fun h0 => absurd h0 hemp, fun j hj oj hoj => ?_⟩
        obtain ⟨s', o, ho, h1, h2, h3, h4⟩ := hsteps j (hcont j hj)
        rw [hoj] at ho
        cases ho
        refine stepB_mono (oneW_step hm h1) fun v w' ⟨hb, hk⟩ => ⟨fun _ => hb, ?_⟩
        obtain ⟨hm', hs'⟩ := next v hoj hm hs
        exact ih s' _ _ _ w' (by omega) (fun b hb => hsub b (h4 b hb)) h2 (hc.set hj) hm' hs' hk

def drawOk (ops : Array Oper) (s : Sched) : Bool :=
  schOk ops s true (Array.replicate ops.size false) && s.bars.all (barOk ops) && Region.noSelect ops && Nat.ble s.steps ops.size

theorem draw_wp {P : Program} {id n : Nat} {ops : Array Oper} {s : Sched} {Q : Exit → Act → World → Prop} {K : Fr → World → Prop} {fr : Fr} {a : Act} {w : World} (hmix : P.follows .mixedOrders = true)
    (hok : drawOk ops s = true) (hd : ∀ d ∈ dstsOf ops.toList, d < n) (hm : Mt n fr a) (h : schW P ops s K fr w.drew) (hQ : ∀ a w, Post n (dstsOf ops.toList) fr K a w → Q .normal a w) :
    (Code.region id ops true).wp P Q a w := by
  simp only [drawOk, Bool.and_eq_true, Nat.ble_eq] at hok
  obtain ⟨⟨⟨h1, h2⟩, h3⟩, h4⟩ := hok
  refine wp_region_any hmix (wpAny_of_B (bars := s.bars) (Q := Post n (dstsOf ops.toList) fr K) hQ _ _ _ _ ?_)
  have hdst : ∀ (i : Nat) (o : Oper) (d : Nat), ops[i]? = some o → o.dst = some d → d < n ∧ d ∈ dstsOf ops.toList := fun i o d ho hdd => by
    have hmem : d ∈ dstsOf ops.toList := by
      refine List.mem_filterMap.2 ⟨o, ?_, hdd⟩
      exact Array.mem_toList_iff.2 (Array.mem_of_getElem? ho)
    exact ⟨hd d hmem, hmem⟩
  refine schW_wpB h2 h3 hdst ops.size s _ fr a w.drew h4 (fun b hb => hb) h1 ?_ hm (fun _ _ => rfl) h
  intro i o ho hl
  rcases Nat.lt_or_ge i ops.size with h' | h'
  · simp [h'] at hl
  · simp [Array.getElem?_eq_none h'] at ho

end Go.Lf
