/- Texts of my own, merged by program: Lift4x Lift5. -/
import Derived.Test.YtbekeccfjmoonaaDoorM05
import Derived.ScopeJumps
set_option linter.all false
/- Lifting, part 4, second half: regions that draw their order, where some blocks may turn meanwhile. -/
namespace Go.Lf
open Go.RowKit

/-- w' is w but for new blocks and for blocks of X. -/
structure BX (X : Nat → Prop) (w w' : World) : Prop where
  os : w'.os = w.os
  tape : w'.tape = w.tape
  output : w'.output = w.output
  size : w.heap.size ≤ w'.heap.size
  block : ∀ k, k < w.heap.size → ¬ X k → w'.heap[k]? = w.heap[k]?

theorem BX.refl (X : Nat → Prop) (w : World) : BX X w w := ⟨rfl, rfl, rfl, Nat.le_refl _, fun _ _ _ => rfl⟩
theorem BX.trans {X : Nat → Prop} {a b c : World} (h : BX X a b) (k : BX X b c) : BX X a c :=
  ⟨k.os.trans h.os, k.tape.trans h.tape, k.output.trans h.output, Nat.le_trans h.size k.size, fun i hi hs => (k.block i (Nat.lt_of_lt_of_le hi h.size) hs).trans (h.block i hi hs)⟩

def keepX (X : Nat → Prop) (w : World) (K : Value → World → Prop) : Value → World → Prop := fun v w' => BX X w w' ∧ K v w'

def keepW (X : Nat → Prop) (w : World) (K : World → Prop) : World → Prop := fun w' => BX X w w' ∧ K w'

/-- A quiet operation whose value is the same whatever becomes of the blocks of X. -/
def takeX (X : Nat → Prop) (w : World) (F : World → (Value → Prop) → Prop) (K : Value → Prop) : Prop := ∃ v, (∀ w', BX X w w' → F w' (fun u => u = v)) ∧ K v

def Sched.acts : Sched → List Nat
  | .done => []
  | .take _ s => s.acts
  | .eff i s => i :: s.acts
  | .bar i s => i :: s.acts
  | .alt i s more => i :: (s.acts ++ more.acts)
  | .nomore => []
  | .cls s => s.acts

/-- All that acts waits for i: i meets the world as it was. -/
def early (all : Array Oper) (ac : List Nat) (i : Nat) : Bool := ac.all fun k => waits all k i

/-- All blocks. -/
def topX : Nat → Prop := fun _ => True
theorem BX.top {X : Nat → Prop} {w w' : World} (h : BX X w w') : BX topX w w' := ⟨h.os, h.tape, h.output, h.size, fun _ _ hn => absurd trivial hn⟩

def isStore : Op → Bool
  | .store _ _ _ => true
  | _ => false
/-- The stores: they may turn any block, as long as what they do not wait for looks at none. -/
def lateOf (all : Array Oper) (ac : List Nat) : List Nat := ac.filter fun k => match all[k]? with | some o => isStore o.op | none => false
def clX (X : Nat → Prop) (lt : List Nat) (i : Nat) : Nat → Prop := bif lt.contains i then topX else X
def clT (all : Array Oper) (X : Nat → Prop) (lt : List Nat) (i : Nat) : Nat → Prop := bif lt.all (fun k => waits all k i) then X else topX

def schX (P : Program) (all : Array Oper) (X : Nat → Prop) (ac lt : List Nat) : Sched → (Fr → World → Prop) → Fr → World → Prop
  | .done, K, fr, w => K fr w
  | .take i s, K, fr, w => match all[i]? with
    | some o => bif early all ac i then oneQ P all o fr w fun v => schX P all X ac lt s K (upd fr o.dst v) w else takeX (clT all X lt i) w (fun w' k => oneQ P all o fr w' k) fun v => schX P all X ac lt s K (upd fr o.dst v) w
    | none => False
  | .eff i s, K, fr, w => match all[i]? with
    | some o => oneW P all o fr w (keepX (clX X lt i) w fun v w' => schX P all X ac lt s K (upd fr o.dst v) w')
    | none => False
  | .bar i s, K, fr, w => match all[i]? with
    | some o => oneW P all o fr w fun v w' => schX P all X ac lt s K (upd fr o.dst v) w'
    | none => False
  | .alt i s more, K, fr, w => (match all[i]? with
    | some o => oneW P all o fr w (keepX (clX X lt i) w fun v w' => schX P all X ac lt s K (upd fr o.dst v) w')
    | none => False) ∧ schX P all X ac lt more K fr w
  | .nomore, _, _, _ => True
  | .cls _, _, _, _ => False

/-- Whatever order: every operation but the 'bars' leaves old memory alone. -/
def wpX (P : Program) (all : Array Oper) (X : Nat → Prop) (ac lt bars : List Nat) (Q : Act → World → Prop) : Nat → Array Bool → Act → World → Prop
  | 0, L, a, w => Region.ready .any all L = [] ∧ Q a w
  | f + 1, L, a, w => (Region.ready .any all L = [] → Q a w) ∧
    ∀ i ∈ Region.ready .any all L, ∀ o, all[i]? = some o →
      stepB P all o a w fun v w' => (i ∉ bars → BX (clX X lt i) w w') ∧ (i ∉ ac → w' = w) ∧ wpX P all X ac lt bars Q f (L.setIfInBounds i true) (a.put o.dst v) w'

section
variable {P : Program} {all : Array Oper} {X : Nat → Prop} {ac lt bars : List Nat} {Q : Act → World → Prop}

theorem wpAny_of_X {Q' : Exit → Act → World → Prop} (hQ : ∀ a w, Q a w → Q' .normal a w) : ∀ (f : Nat) (L : Array Bool) (a : Act) (w : World), wpX P all X ac lt bars Q f L a w → wpAny P .any all Q' f L a w
  | 0, _, _, _, h => ⟨h.1, hQ _ _ h.2⟩
  | f + 1, L, a, w, h => by
    refine ⟨fun h0 => hQ _ _ (h.1 h0), fun i hi => ?_⟩
    obtain ⟨_, o, ho, _⟩ := mem_ready.1 hi
    refine wpOp_mono (fun a' w' ⟨v, ha, hk⟩ => ?_) (step_wpOp (Q := Q') ho (h.2 i hi o ho))
    subst ha
    exact wpAny_of_X hQ f _ _ _ hk.2.2

/-- In state a, in every world that w may turn into, oi leaves v in its slot. -/
def YX (P : Program) (all : Array Oper) (X : Nat → Prop) (oi : Oper) (v : Value) (a : Act) (w : World) : Prop :=
  ∀ w', BX X w w' → (Region.wanted oi (yielded all a.tmps) = true ∧ (execOp a.eval oi).run P w' = .ok (.value v) w') ∨ (Region.wanted oi (yielded all a.tmps) = false ∧ v = undef)

theorem YX.step {oi : Oper} {v : Value} {a : Act} {w : World} (h : YX P all X oi v a w) {K : Value → World → Prop} (hk : K v w) : stepB P all oi a w K := by
  unfold stepB
  rcases h w (BX.refl _ _) with ⟨h1, h2⟩ | ⟨h1, rfl⟩
  · rw [if_pos h1]; exact semW_of_run h2 hk
  · rw [if_neg (by simp [h1])]; exact hk

theorem YX.later {oi oj : Oper} {v u : Value} {a : Act} {w w' : World} (h : YX P all X oi v a w) (hap : oi.apart all oj = true) (hsi : ∀ cs b, oi.op ≠ .select cs b) (hb : BX X w w') :
    YX P all X oi v (a.put oj.dst u) w' := by
  obtain ⟨_, _, h3⟩ := Oper.apart_spec hap
  unfold YX at *
  rw [wanted_put oi a oj.dst u h3, execOp_put oi hsi a oj.dst u h3]
  exact fun w'' hb'' => h w'' (hb.trans hb'')

theorem cl_le {L : Array Bool} (hc : Closed all L) {i j : Nat} (hi : i ∈ Region.ready .any all L) (hj : j ∈ Region.ready .any all L) {lt : List Nat} {w w' : World} (h : BX (clX X lt j) w w') : BX (clT all X lt i) w w' := by
  unfold clT
  cases hl : lt.all (fun k => waits all k i) with
  | false => exact h.top
  | true =>
    unfold clX at h
    cases hq : lt.contains j with
    | false => rw [hq] at h; exact h
    | true => exact (waits_not_ready hc (List.all_eq_true.1 hl j (by simpa using hq)) hj hi).elim

theorem wpX_take (hbars : bars.all (barOk all) = true) (hns : Region.noSelect all = true) {i : Nat} {oi : Oper} {v : Value} (hi : all[i]? = some oi) :
    ∀ (f : Nat) (L : Array Bool) (a : Act) (w : World), Closed all L →
      (∀ j oj, all[j]? = some oj → j ≠ i → L.getD j true = false → (∀ e ∈ oj.after, Region.binds .any e = true → e.on ≠ i) → oi.apart all oj = true) →
      i ∈ Region.ready .any all L → YX P all (clT all X lt i) oi v a w → wpX P all X ac lt bars Q f (L.setIfInBounds i true) (a.put oi.dst v) w → wpX P all X ac lt bars Q (f + 1) L a w := by
  have hsel := Region.noSelect_spec hns
  intro f
  induction f with
  | zero =>
    intro L a w hc hfree hr hy H
    refine ⟨fun h => (by rw [h] at hr; cases hr), fun j hj oj hoj => ?_⟩
    by_cases hji : j = i
    · subst hji
      rw [hi] at hoj
      cases hoj
      exact hy.step ⟨fun _ => BX.refl _ _, fun _ => rfl, H⟩
    · have := ready_mono hj hji
      rw [H.1] at this
      cases this
  | succ f ih =>
    intro L a w hc hfree hr hy H
    refine ⟨fun h => (by rw [h] at hr; cases hr), fun j hj oj hoj => ?_⟩
    by_cases hji : j = i
    · subst hji
      rw [hi] at hoj
      cases hoj
      exact hy.step ⟨fun _ => BX.refl _ _, fun _ => rfl, H⟩
    · have h1 := H.2 j (ready_mono hj hji) oj hoj
      obtain ⟨hjun, oj', hoj', hall⟩ := mem_ready.1 hj
      rw [hoj] at hoj'
      cases hoj'
      have hnot : ∀ e ∈ oj.after, Region.binds .any e = true → e.on ≠ i := fun e he hb heq => by
        have h1 := hall e he hb
        have h0 := (mem_ready.1 hr).1
        rw [heq] at h1
        rcases Nat.lt_or_ge i L.size with h' | h'
        · simp [h'] at h0 h1; rw [h0] at h1; cases h1
        · simp [Array.getElem?_eq_none h'] at h1
      have hap := hfree j oj hoj hji hjun hnot
      have hjb : j ∉ bars := fun hb => hji (barsOk_of hbars hc j hb hj i hr).symm
      refine stepB_mono (stepB_put hap (fun cs b => hsel j oj cs b hoj) h1) (fun u w' ⟨hk1, hk3, hk2⟩ => ⟨fun _ => hk1 hjb, hk3, ?_⟩)
      have hfree' : ∀ k ok, all[k]? = some ok → k ≠ i → (L.setIfInBounds j true).getD k true = false →
          (∀ e ∈ ok.after, Region.binds .any e = true → e.on ≠ i) → oi.apart all ok = true := fun k ok hk hki hun hno => by
        refine hfree k ok hk hki ?_ hno
        by_cases hjk : j = k
        · subst hjk; exact hjun
        · rw [getD_set_ne true hjk] at hun; exact hun
      refine ih (L.setIfInBounds j true) _ w' (hc.set hj) hfree' (ready_mono hr (Ne.symm hji)) (hy.later hap (fun cs b => hsel i oi cs b hi) (cl_le hc hr hj (hk1 hjb))) ?_
      rw [Array.setIfInBounds_comm _ _ hji, ← Act.put_comm a v u (Oper.apart_spec hap).2.1]
      exact hk2

/-- In state a, in world w, oi leaves v in its slot. -/
def YE (P : Program) (all : Array Oper) (oi : Oper) (v : Value) (a : Act) (w : World) : Prop :=
  (Region.wanted oi (yielded all a.tmps) = true ∧ (execOp a.eval oi).run P w = .ok (.value v) w) ∨ (Region.wanted oi (yielded all a.tmps) = false ∧ v = undef)

theorem YE.step {oi : Oper} {v : Value} {a : Act} {w : World} (h : YE P all oi v a w) {K : Value → World → Prop} (hk : K v w) : stepB P all oi a w K := by
  unfold stepB
  rcases h with ⟨h1, h2⟩ | ⟨h1, rfl⟩
  · rw [if_pos h1]; exact semW_of_run h2 hk
  · rw [if_neg (by simp [h1])]; exact hk

theorem YE.later {oi oj : Oper} {v u : Value} {a : Act} {w : World} (h : YE P all oi v a w) (hap : oi.apart all oj = true) (hsi : ∀ cs b, oi.op ≠ .select cs b) :
    YE P all oi v (a.put oj.dst u) w := by
  obtain ⟨_, _, h3⟩ := Oper.apart_spec hap
  unfold YE at *
  rw [wanted_put oi a oj.dst u h3, execOp_put oi hsi a oj.dst u h3]
  exact h

theorem wpX_early (hbars : bars.all (barOk all) = true) (hns : Region.noSelect all = true) {i : Nat} (hearly : early all ac i = true) {oi : Oper} {v : Value} (hi : all[i]? = some oi) :
    ∀ (f : Nat) (L : Array Bool) (a : Act) (w : World), Closed all L →
      (∀ j oj, all[j]? = some oj → j ≠ i → L.getD j true = false → (∀ e ∈ oj.after, Region.binds .any e = true → e.on ≠ i) → oi.apart all oj = true) →
      i ∈ Region.ready .any all L → YE P all oi v a w → wpX P all X ac lt bars Q f (L.setIfInBounds i true) (a.put oi.dst v) w → wpX P all X ac lt bars Q (f + 1) L a w := by
  have hsel := Region.noSelect_spec hns
  intro f
  induction f with
  | zero =>
    intro L a w hc hfree hr hy H
    refine ⟨fun h => (by rw [h] at hr; cases hr), fun j hj oj hoj => ?_⟩
    by_cases hji : j = i
    · subst hji
      rw [hi] at hoj
      cases hoj
      exact hy.step ⟨fun _ => BX.refl _ _, fun _ => rfl, H⟩
    · have := ready_mono hj hji
      rw [H.1] at this
      cases this
  | succ f ih =>
    intro L a w hc hfree hr hy H
    refine ⟨fun h => (by rw [h] at hr; cases hr), fun j hj oj hoj => ?_⟩
    by_cases hji : j = i
    · subst hji
      rw [hi] at hoj
      cases hoj
      exact hy.step ⟨fun _ => BX.refl _ _, fun _ => rfl, H⟩
    · have h1 := H.2 j (ready_mono hj hji) oj hoj
      obtain ⟨hjun, oj', hoj', hall⟩ := mem_ready.1 hj
      rw [hoj] at hoj'
      cases hoj'
      have hnot : ∀ e ∈ oj.after, Region.binds .any e = true → e.on ≠ i := fun e he hb heq => by
        have h1 := hall e he hb
        have h0 := (mem_ready.1 hr).1
        rw [heq] at h1
        rcases Nat.lt_or_ge i L.size with h' | h'
        · simp [h'] at h0 h1; rw [h0] at h1; cases h1
        · simp [Array.getElem?_eq_none h'] at h1
      have hap := hfree j oj hoj hji hjun hnot
      have hjb : j ∉ bars := fun hb => hji (barsOk_of hbars hc j hb hj i hr).symm
      have hja : j ∉ ac := fun hm => waits_not_ready hc (List.all_eq_true.1 hearly j hm) hj hr
      refine stepB_mono (stepB_put hap (fun cs b => hsel j oj cs b hoj) h1) (fun u w' ⟨hk1, hk3, hk2⟩ => ⟨fun _ => hk1 hjb, hk3, ?_⟩)
      have hfree' : ∀ k ok, all[k]? = some ok → k ≠ i → (L.setIfInBounds j true).getD k true = false →
          (∀ e ∈ ok.after, Region.binds .any e = true → e.on ≠ i) → oi.apart all ok = true := fun k ok hk hki hun hno => by
        refine hfree k ok hk hki ?_ hno
        by_cases hjk : j = k
        · subst hjk; exact hjun
        · rw [getD_set_ne true hjk] at hun; exact hun
      refine ih (L.setIfInBounds j true) _ w' (hc.set hj) hfree' (ready_mono hr (Ne.symm hji)) (by rw [hk3 hja]; exact hy.later hap (fun cs b => hsel i oi cs b hi)) ?_
      rw [Array.setIfInBounds_comm _ _ hji, ← Act.put_comm a v u (Oper.apart_spec hap).2.1]
      exact hk2

theorem wpX_done {L : Array Bool} {a : Act} {w : World} (hr : Region.ready .any all L = []) (h : Q a w) : ∀ f, wpX P all X ac lt bars Q f L a w
  | 0 => ⟨hr, h⟩
  | _ + 1 => ⟨fun _ => h, fun i hi => by rw [hr] at hi; cases hi⟩

end

theorem altsX_step {P : Program} {all : Array Oper} {X : Nat → Prop} {ac lt : List Nat} {K : Fr → World → Prop} {fr : Fr} {w : World} : ∀ (s : Sched) (L : Array Bool), schOk all s false L = true → schX P all X ac lt s K fr w → ∀ i ∈ s.alts,
    ∃ s' o, all[i]? = some o ∧ oneW P all o fr w (keepX (clX X lt i) w fun v w' => schX P all X ac lt s' K (upd fr o.dst v) w') ∧ schOk all s' true (L.setIfInBounds i true) = true ∧ s'.steps + 1 ≤ s.steps ∧ (∀ b ∈ s'.bars, b ∈ s.bars) ∧ (∀ b ∈ s'.acts, b ∈ s.acts) ∧ i ∈ s.acts
  | .alt j s more, L, hok, h, i, hi => by
    simp only [schOk, Bool.and_eq_true] at hok
    simp only [Sched.alts, List.mem_cons] at hi
    rcases hi with rfl | hi
    · have h1 := h.1
      cases ho : all[i]? with
      | none => rw [ho] at h1; exact h1.elim
      | some o =>
        rw [ho] at h1
        exact ⟨s, o, rfl, h1, hok.1.2, by simp [Sched.steps]; omega, fun b hb => by simp [Sched.bars, hb], fun b hb => by simp [Sched.acts, hb], by simp [Sched.acts]⟩
    · obtain ⟨s', o, h1, h2, h3, h4, h5, h6, h7⟩ := altsX_step more L hok.2 h.2 i hi
      exact ⟨s', o, h1, h2, h3, by simp [Sched.steps]; omega, fun b hb => by simp [Sched.bars, h5 b hb], fun b hb => by simp [Sched.acts, h6 b hb], by simp [Sched.acts, h7]⟩
  | .done, _, _, _, i, hi => by cases hi
  | .take _ _, _, _, _, i, hi => by cases hi
  | .eff _ _, _, _, _, i, hi => by cases hi
  | .bar _ _, _, _, _, i, hi => by cases hi
  | .nomore, _, _, _, i, hi => by cases hi
  | .cls _, _, _, _, i, hi => by cases hi

theorem schX_wpX {P : Program} {all : Array Oper} {X : Nat → Prop} {ac lt bars : List Nat} {n : Nat} {S : List Nat} {fr0 : Fr} {K : Fr → World → Prop} (hbars : bars.all (barOk all) = true) (hns : Region.noSelect all = true)
    (hd : ∀ (i : Nat) (o : Oper) (d : Nat), all[i]? = some o → o.dst = some d → d < n ∧ d ∈ S) :
    ∀ (f : Nat) (s : Sched) (L : Array Bool) (fr : Fr) (a : Act) (w : World), s.steps ≤ f → (∀ b ∈ s.bars, b ∈ bars) → (∀ b ∈ s.acts, b ∈ ac) → schOk all s true L = true → Closed all L → Mt n fr a → (∀ i, i ∉ S → fr i = fr0 i) →
      schX P all X ac lt s K fr w → wpX P all X ac lt bars (Post n S fr0 K) f L a w := by
  have next : ∀ {fr : Fr} {a : Act} {i : Nat} {o : Oper} (v : Value), all[i]? = some o → Mt n fr a → (∀ i, i ∉ S → fr i = fr0 i) → Mt n (upd fr o.dst v) (a.put o.dst v) ∧ (∀ i, i ∉ S → upd fr o.dst v i = fr0 i) := by
    intro fr a i o v ho hm hs
    refine ⟨hm.put (fun x hx => (hd i o x ho hx).1) v, fun j hj => ?_⟩
    rw [upd_other (fun e => hj (hd i o j ho e).2)]
    exact hs j hj
  intro f
  induction f with
  | zero =>
    intro s L fr a w hst hsub hsa hok hc hm hs h
    cases s with
    | done => exact wpX_done (by simpa [schOk] using hok) ⟨fr, hm, hs, h⟩ 0
    | nomore => simp [schOk] at hok
    | cls s => simp [schOk] at hok
    | take i s => simp [Sched.steps] at hst
    | eff i s => simp [Sched.steps] at hst
    | bar i s => simp [Sched.steps] at hst
    | alt i s more => simp [Sched.steps] at hst
  | succ f ih =>
    intro s L fr a w hst hsub hsa hok hc hm hs h
    cases s with
    | done => exact wpX_done (by simpa [schOk] using hok) ⟨fr, hm, hs, h⟩ _
    | nomore => simp [schOk] at hok
    | cls s => simp [schOk] at hok
    | take i s =>
      simp only [schOk, Bool.and_eq_true, List.contains_iff_mem] at hok
      obtain ⟨⟨h1, h2⟩, h3⟩ := hok
      simp only [schX] at h
      cases ho : all[i]? with
      | none => rw [ho] at h; exact h.elim
      | some o =>
        rw [ho] at h
        cases hea : early all ac i with
        | true =>
          simp only [hea, cond_true] at h
          obtain ⟨v, hk, h3'⟩ := oneQ_step hm h
          have hy : YE P all o v a w := h3'.imp (fun h => ⟨h.1, h.2 w (Below.refl _ _)⟩) id
          obtain ⟨hm', hs'⟩ := next v ho hm hs
          refine wpX_early hbars hns hea ho f L a w hc (Region.free_spec ho h2) h1 hy ?_
          exact ih s _ _ _ w (by simp [Sched.steps] at hst; omega) (fun b hb => hsub b (by simpa [Sched.bars] using hb)) (fun b hb => hsa b (by simpa [Sched.acts] using hb)) h3 (hc.set h1) hm' hs' hk
        | false =>
        simp only [hea, cond_false] at h
        obtain ⟨v, hq, hk⟩ := h
        have hy : YX P all (clT all X lt i) o v a w := fun w' hw' => by
          obtain ⟨u, hu, h3⟩ := oneQ_step hm (hq w' hw')
          subst hu
          exact h3.imp (fun h => ⟨h.1, h.2 w' (Below.refl _ _)⟩) id
        obtain ⟨hm', hs'⟩ := next v ho hm hs
        refine wpX_take hbars hns ho f L a w hc (Region.free_spec ho h2) h1 hy ?_
        exact ih s _ _ _ w (by simp [Sched.steps] at hst; omega) (fun b hb => hsub b (by simpa [Sched.bars] using hb)) (fun b hb => hsa b (by simpa [Sched.acts] using hb)) h3 (hc.set h1) hm' hs' hk
    | eff i s =>
      simp only [schOk, Bool.and_eq_true, beq_iff_eq] at hok
      obtain ⟨h1, h3⟩ := hok
      have hir : i ∈ Region.ready .any all L := by rw [h1]; simp
      simp only [schX] at h
      refine ⟨fun h0 => (by rw [h1] at h0; cases h0), fun j hj oj hoj => ?_⟩
      rw [h1, List.mem_singleton] at hj
      subst hj
      rw [hoj] at h
      refine stepB_mono (oneW_step hm h) fun v w' ⟨hb, hk⟩ => ⟨fun _ => hb, fun hna => absurd (hsa j (by simp [Sched.acts])) hna, ?_⟩
      obtain ⟨hm', hs'⟩ := next v hoj hm hs
      exact ih s _ _ _ w' (by simp [Sched.steps] at hst; omega) (fun b hb => hsub b (by simpa [Sched.bars] using hb)) (fun b hb => hsa b (by simp [Sched.acts, hb])) h3 (hc.set hir) hm' hs' hk
    | bar i s =>
      simp only [schOk, Bool.and_eq_true, beq_iff_eq] at hok
      obtain ⟨⟨h1, h2⟩, h3⟩ := hok
      have hir : i ∈ Region.ready .any all L := by rw [h1]; simp
      simp only [schX] at h
      refine ⟨fun h0 => (by rw [h1] at h0; cases h0), fun j hj oj hoj => ?_⟩
      rw [h1, List.mem_singleton] at hj
      subst hj
      rw [hoj] at h
      refine stepB_mono (oneW_step hm h) fun v w' hk => ⟨fun hnb => absurd (hsub j (by simp [Sched.bars])) hnb, fun hna => absurd (hsa j (by simp [Sched.acts])) hna, ?_⟩
      obtain ⟨hm', hs'⟩ := next v hoj hm hs
      exact ih s _ _ _ w' (by simp [Sched.steps] at hst; omega) (fun b hb => hsub b (by simp [Sched.bars, hb])) (fun b hb => hsa b (by simp [Sched.acts, hb])) h3 (hc.set hir) hm' hs' hk
    | alt i s more =>
      have hok' : schOk all (.alt i s more) false L = true := by
        simp only [schOk, Bool.and_eq_true] at hok ⊢
        exact ⟨⟨by simp, hok.1.2⟩, hok.2⟩
      have hall : (Region.ready .any all L).all (Sched.alt i s more).alts.contains = true := by
        simp only [schOk, Bool.and_eq_true, Bool.not_true, Bool.false_or] at hok
        exact hok.1.1.2
      have hcont : ∀ j ∈ Region.ready .any all L, j ∈ (Sched.alt i s more).alts := fun j hj => by
        have := List.all_eq_true.1 hall j hj
        simpa using this
      have hsteps := altsX_step (P := P) (K := K) (fr := fr) (w := w) (.alt i s more) L hok' h
      by_cases hemp : Region.ready .any all L = []
      · simp only [schOk, Bool.and_eq_true, Bool.not_true, Bool.false_or] at hok
        have := hok.1.1.1
        rw [hemp] at this
        simp at this
      · refine ⟨fun h0 => absurd h0 hemp, fun j hj oj hoj => ?_⟩
        obtain ⟨s', o, ho, h1, h2, h3, h4, h5, h6⟩ := hsteps j (hcont j hj)
        rw [hoj] at ho
        cases ho
        refine stepB_mono (oneW_step hm h1) fun v w' ⟨hb, hk⟩ => ⟨fun _ => hb, fun hna => absurd (hsa j h6) hna, ?_⟩
        obtain ⟨hm', hs'⟩ := next v hoj hm hs
        exact ih s' _ _ _ w' (by omega) (fun b hb => hsub b (h4 b hb)) (fun b hb => hsa b (h5 b hb)) h2 (hc.set hj) hm' hs' hk


def schT (P : Program) (all : Array Oper) (s : Sched) (K : Fr → World → Prop) (fr : Fr) (w : World) : Prop :=
  match s with
  | .cls (.cls s) => ∃ X, schX P all X s.acts (lateOf all s.acts) s K fr w
  | .cls s => ∃ X, schX P all X s.acts [] s K fr w
  | s => schW P all s K fr w

def drawOkT (ops : Array Oper) (s : Sched) : Bool :=
  match s with
  | .cls (.cls s) => drawOk ops s
  | .cls s => drawOk ops s
  | s => drawOk ops s

theorem draw_wpX {P : Program} {id n : Nat} {ops : Array Oper} {s : Sched} {X : Nat → Prop} {lt : List Nat} {Q : Exit → Act → World → Prop} {K : Fr → World → Prop} {fr : Fr} {a : Act} {w : World} (hmix : P.follows .mixedOrders = true)
    (hok : drawOk ops s = true) (hd : ∀ d ∈ dstsOf ops.toList, d < n) (hm : Mt n fr a) (h : schX P ops X s.acts lt s K fr w.drew) (hQ : ∀ a w, Post n (dstsOf ops.toList) fr K a w → Q .normal a w) :
    (Code.region id ops true).wp P Q a w := by
  simp only [drawOk, Bool.and_eq_true, Nat.ble_eq] at hok
  obtain ⟨⟨⟨h1, h2⟩, h3⟩, h4⟩ := hok
  refine wp_region_any hmix (wpAny_of_X (X := X) (ac := s.acts) (lt := lt) (bars := s.bars) (Q := Post n (dstsOf ops.toList) fr K) hQ _ _ _ _ ?_)
  have hdst : ∀ (i : Nat) (o : Oper) (d : Nat), ops[i]? = some o → o.dst = some d → d < n ∧ d ∈ dstsOf ops.toList := fun i o d ho hdd => by
    have hmem : d ∈ dstsOf ops.toList := by
      refine List.mem_filterMap.2 ⟨o, ?_, hdd⟩
      exact Array.mem_toList_iff.2 (Array.mem_of_getElem? ho)
    exact ⟨hd d hmem, hmem⟩
  refine schX_wpX h2 h3 hdst ops.size s _ fr a w.drew h4 (fun b hb => hb) (fun b hb => hb) h1 ?_ hm (fun _ _ => rfl) h
  intro i o ho hl
  rcases Nat.lt_or_ge i ops.size with h' | h'
  · simp [h'] at hl
  · simp [Array.getElem?_eq_none h'] at ho

theorem draw_wpT {P : Program} {id n : Nat} {ops : Array Oper} {s : Sched} {Q : Exit → Act → World → Prop} {K : Fr → World → Prop} {fr : Fr} {a : Act} {w : World} (hmix : P.follows .mixedOrders = true)
    (hok : drawOkT ops s = true) (hd : ∀ d ∈ dstsOf ops.toList, d < n) (hm : Mt n fr a) (h : schT P ops s K fr w.drew) (hQ : ∀ a w, Post n (dstsOf ops.toList) fr K a w → Q .normal a w) :
    (Code.region id ops true).wp P Q a w := by
  unfold schT at h
  unfold drawOkT at hok
  split at h
  · obtain ⟨X, h⟩ := h; exact draw_wpX hmix hok hd hm h hQ
  · rename_i s' hne
    obtain ⟨X, h⟩ := h
    split at hok
    · rename_i s2 e; cases e; exact absurd rfl (hne _)
    · rename_i s2 _ e; cases e; exact draw_wpX hmix hok hd hm h hQ
    · rename_i h1 h2; exact absurd rfl (h2 _)
  · rename_i h1 h2
    split at hok
    · exact absurd rfl (h1 _)
    · exact absurd rfl (h2 _)
    · exact draw_wp hmix hok hd hm h hQ

end Go.Lf

/- Lifting, part 5: code; a call. -/
namespace Go.Lf
open Go.RowKit

structure Ann where
  /-- by a loop's block: the slots that a round takes over from the one before -/
  live : Nat → List Nat
  /-- by a loop's block: may the round write this slot? -/
  wr : Nat → Nat → Bool
  /-- by a region's number -/
  sched : Nat → Sched

def thn (next : Fr → World → Prop) (Q : Exit → Fr → World → Prop) : Exit → Fr → World → Prop
  | .normal, f, w => next f w
  | e, f, w => Q e f w

def inBlk (id : Nat) (Q : Exit → Fr → World → Prop) : Exit → Fr → World → Prop
  | .exit id', f, w => if id' = id then Q .normal f w else Q (.exit id') f w
  | e, f, w => Q e f w

def condW (c : Value) (x y : Prop) : Prop :=
  match c with
  | .bool b => if b = true then x else y
  | _ => False

def Loop0 (w0 : World) (body : Fr → World → (World → Prop) → Prop) : Prop :=
  ∃ (I : World → Prop) (μ : World → Nat), I w0 ∧ ∀ (junk : Fr)  (w : World), I w → body junk w fun w' => I w' ∧ μ w' < μ w

def Loop1 (a0 : Value) (w0 : World) (body : Fr → Value → World → (Value → World → Prop) → Prop) : Prop :=
  ∃ (I : Value → World → Prop) (μ : Value → World → Nat), I a0 w0 ∧ ∀ (junk : Fr) (a : Value) (w : World), I a w → body junk a w fun a' w' => I a' w' ∧ μ a' w' < μ a w

def Loop2 (a0 : Value) (b0 : Value) (w0 : World) (body : Fr → Value → Value → World → (Value → Value → World → Prop) → Prop) : Prop :=
  ∃ (I : Value → Value → World → Prop) (μ : Value → Value → World → Nat), I a0 b0 w0 ∧ ∀ (junk : Fr) (a : Value) (b : Value) (w : World), I a b w → body junk a b w fun a' b' w' => I a' b' w' ∧ μ a' b' w' < μ a b w

def Loop3 (a0 : Value) (b0 : Value) (c0 : Value) (w0 : World) (body : Fr → Value → Value → Value → World → (Value → Value → Value → World → Prop) → Prop) : Prop :=
  ∃ (I : Value → Value → Value → World → Prop) (μ : Value → Value → Value → World → Nat), I a0 b0 c0 w0 ∧ ∀ (junk : Fr) (a : Value) (b : Value) (c : Value) (w : World), I a b c w → body junk a b c w fun a' b' c' w' => I a' b' c' w' ∧ μ a' b' c' w' < μ a b c w

def Loop4 (a0 : Value) (b0 : Value) (c0 : Value) (d0 : Value) (w0 : World) (body : Fr → Value → Value → Value → Value → World → (Value → Value → Value → Value → World → Prop) → Prop) : Prop :=
  ∃ (I : Value → Value → Value → Value → World → Prop) (μ : Value → Value → Value → Value → World → Nat), I a0 b0 c0 d0 w0 ∧ ∀ (junk : Fr) (a : Value) (b : Value) (c : Value) (d : Value) (w : World), I a b c d w → body junk a b c d w fun a' b' c' d' w' => I a' b' c' d' w' ∧ μ a' b' c' d' w' < μ a b c d w

def Loop5 (a0 : Value) (b0 : Value) (c0 : Value) (d0 : Value) (x0 : Value) (w0 : World) (body : Fr → Value → Value → Value → Value → Value → World → (Value → Value → Value → Value → Value → World → Prop) → Prop) : Prop :=
  ∃ (I : Value → Value → Value → Value → Value → World → Prop) (μ : Value → Value → Value → Value → Value → World → Nat), I a0 b0 c0 d0 x0 w0 ∧ ∀ (junk : Fr) (a : Value) (b : Value) (c : Value) (d : Value) (x : Value) (w : World), I a b c d x w → body junk a b c d x w fun a' b' c' d' x' w' => I a' b' c' d' x' w' ∧ μ a' b' c' d' x' w' < μ a b c d x w

def Loop6 (a0 : Value) (b0 : Value) (c0 : Value) (d0 : Value) (x0 : Value) (y0 : Value) (w0 : World) (body : Fr → Value → Value → Value → Value → Value → Value → World → (Value → Value → Value → Value → Value → Value → World → Prop) → Prop) : Prop :=
  ∃ (I : Value → Value → Value → Value → Value → Value → World → Prop) (μ : Value → Value → Value → Value → Value → Value → World → Nat), I a0 b0 c0 d0 x0 y0 w0 ∧ ∀ (junk : Fr) (a : Value) (b : Value) (c : Value) (d : Value) (x : Value) (y : Value) (w : World), I a b c d x y w → body junk a b c d x y w fun a' b' c' d' x' y' w' => I a' b' c' d' x' y' w' ∧ μ a' b' c' d' x' y' w' < μ a b c d x y w

def Loop7 (a0 : Value) (b0 : Value) (c0 : Value) (d0 : Value) (x0 : Value) (y0 : Value) (z0 : Value) (w0 : World) (body : Fr → Value → Value → Value → Value → Value → Value → Value → World → (Value → Value → Value → Value → Value → Value → Value → World → Prop) → Prop) : Prop :=
  ∃ (I : Value → Value → Value → Value → Value → Value → Value → World → Prop) (μ : Value → Value → Value → Value → Value → Value → Value → World → Nat), I a0 b0 c0 d0 x0 y0 z0 w0 ∧ ∀ (junk : Fr) (a : Value) (b : Value) (c : Value) (d : Value) (x : Value) (y : Value) (z : Value) (w : World), I a b c d x y z w → body junk a b c d x y z w fun a' b' c' d' x' y' z' w' => I a' b' c' d' x' y' z' w' ∧ μ a' b' c' d' x' y' z' w' < μ a b c d x y z w

def Loop8 (a0 : Value) (b0 : Value) (c0 : Value) (d0 : Value) (x0 : Value) (y0 : Value) (z0 : Value) (p0 : Value) (w0 : World) (body : Fr → Value → Value → Value → Value → Value → Value → Value → Value → World → (Value → Value → Value → Value → Value → Value → Value → Value → World → Prop) → Prop) : Prop :=
  ∃ (I : Value → Value → Value → Value → Value → Value → Value → Value → World → Prop) (μ : Value → Value → Value → Value → Value → Value → Value → Value → World → Nat), I a0 b0 c0 d0 x0 y0 z0 p0 w0 ∧ ∀ (junk : Fr) (a : Value) (b : Value) (c : Value) (d : Value) (x : Value) (y : Value) (z : Value) (p : Value) (w : World), I a b c d x y z p w → body junk a b c d x y z p w fun a' b' c' d' x' y' z' p' w' => I a' b' c' d' x' y' z' p' w' ∧ μ a' b' c' d' x' y' z' p' w' < μ a b c d x y z p w

def Loop9 (a0 : Value) (b0 : Value) (c0 : Value) (d0 : Value) (x0 : Value) (y0 : Value) (z0 : Value) (p0 : Value) (q0 : Value) (w0 : World) (body : Fr → Value → Value → Value → Value → Value → Value → Value → Value → Value → World → (Value → Value → Value → Value → Value → Value → Value → Value → Value → World → Prop) → Prop) : Prop :=
  ∃ (I : Value → Value → Value → Value → Value → Value → Value → Value → Value → World → Prop) (μ : Value → Value → Value → Value → Value → Value → Value → Value → Value → World → Nat), I a0 b0 c0 d0 x0 y0 z0 p0 q0 w0 ∧ ∀ (junk : Fr) (a : Value) (b : Value) (c : Value) (d : Value) (x : Value) (y : Value) (z : Value) (p : Value) (q : Value) (w : World), I a b c d x y z p q w → body junk a b c d x y z p q w fun a' b' c' d' x' y' z' p' q' w' => I a' b' c' d' x' y' z' p' q' w' ∧ μ a' b' c' d' x' y' z' p' q' w' < μ a b c d x y z p q w

def Loop10 (a0 : Value) (b0 : Value) (c0 : Value) (d0 : Value) (x0 : Value) (y0 : Value) (z0 : Value) (p0 : Value) (q0 : Value) (r0 : Value) (w0 : World) (body : Fr → Value → Value → Value → Value → Value → Value → Value → Value → Value → Value → World → (Value → Value → Value → Value → Value → Value → Value → Value → Value → Value → World → Prop) → Prop) : Prop :=
  ∃ (I : Value → Value → Value → Value → Value → Value → Value → Value → Value → Value → World → Prop) (μ : Value → Value → Value → Value → Value → Value → Value → Value → Value → Value → World → Nat), I a0 b0 c0 d0 x0 y0 z0 p0 q0 r0 w0 ∧ ∀ (junk : Fr) (a : Value) (b : Value) (c : Value) (d : Value) (x : Value) (y : Value) (z : Value) (p : Value) (q : Value) (r : Value) (w : World), I a b c d x y z p q r w → body junk a b c d x y z p q r w fun a' b' c' d' x' y' z' p' q' r' w' => I a' b' c' d' x' y' z' p' q' r' w' ∧ μ a' b' c' d' x' y' z' p' q' r' w' < μ a b c d x y z p q r w

def loopW (live : List Nat) (wr : Nat → Bool) (body : (Exit → Fr → World → Prop) → Fr → World → Prop) (Q : Exit → Fr → World → Prop) (fr : Fr) (w : World) : Prop :=
  match live with
  | [] => Loop0  w fun junk  w next => body (thn (fun _ w => next w) Q) (fun i => bif wr i then junk i else fr i) w
  | [sa] => Loop1 (fr sa) w fun junk a w next => body (thn (fun f w => next (f sa) w) Q) (fun i => bif Nat.beq i sa then a else bif wr i then junk i else fr i) w
  | [sa, sb] => Loop2 (fr sa) (fr sb) w fun junk a b w next => body (thn (fun f w => next (f sa) (f sb) w) Q) (fun i => bif Nat.beq i sa then a else bif Nat.beq i sb then b else bif wr i then junk i else fr i) w
  | [sa, sb, sc] => Loop3 (fr sa) (fr sb) (fr sc) w fun junk a b c w next => body (thn (fun f w => next (f sa) (f sb) (f sc) w) Q) (fun i => bif Nat.beq i sa then a else bif Nat.beq i sb then b else bif Nat.beq i sc then c else bif wr i then junk i else fr i) w
  | [sa, sb, sc, sd] => Loop4 (fr sa) (fr sb) (fr sc) (fr sd) w fun junk a b c d w next => body (thn (fun f w => next (f sa) (f sb) (f sc) (f sd) w) Q) (fun i => bif Nat.beq i sa then a else bif Nat.beq i sb then b else bif Nat.beq i sc then c else bif Nat.beq i sd then d else bif wr i then junk i else fr i) w
  | [sa, sb, sc, sd, sx] => Loop5 (fr sa) (fr sb) (fr sc) (fr sd) (fr sx) w fun junk a b c d x w next => body (thn (fun f w => next (f sa) (f sb) (f sc) (f sd) (f sx) w) Q) (fun i => bif Nat.beq i sa then a else bif Nat.beq i sb then b else bif Nat.beq i sc then c else bif Nat.beq i sd then d else bif Nat.beq i sx then x else bif wr i then junk i else fr i) w
  | [sa, sb, sc, sd, sx, sy] => Loop6 (fr sa) (fr sb) (fr sc) (fr sd) (fr sx) (fr sy) w fun junk a b c d x y w next => body (thn (fun f w => next (f sa) (f sb) (f sc) (f sd) (f sx) (f sy) w) Q) (fun i => bif Nat.beq i sa then a else bif Nat.beq i sb then b else bif Nat.beq i sc then c else bif Nat.beq i sd then d else bif Nat.beq i sx then x else bif Nat.beq i sy then y else bif wr i then junk i else fr i) w
  | [sa, sb, sc, sd, sx, sy, sz] => Loop7 (fr sa) (fr sb) (fr sc) (fr sd) (fr sx) (fr sy) (fr sz) w fun junk a b c d x y z w next => body (thn (fun f w => next (f sa) (f sb) (f sc) (f sd) (f sx) (f sy) (f sz) w) Q) (fun i => bif Nat.beq i sa then a else bif Nat.beq i sb then b else bif Nat.beq i sc then c else bif Nat.beq i sd then d else bif Nat.beq i sx then x else bif Nat.beq i sy then y else bif Nat.beq i sz then z else bif wr i then junk i else fr i) w
  | [sa, sb, sc, sd, sx, sy, sz, sp] => Loop8 (fr sa) (fr sb) (fr sc) (fr sd) (fr sx) (fr sy) (fr sz) (fr sp) w fun junk a b c d x y z p w next => body (thn (fun f w => next (f sa) (f sb) (f sc) (f sd) (f sx) (f sy) (f sz) (f sp) w) Q) (fun i => bif Nat.beq i sa then a else bif Nat.beq i sb then b else bif Nat.beq i sc then c else bif Nat.beq i sd then d else bif Nat.beq i sx then x else bif Nat.beq i sy then y else bif Nat.beq i sz then z else bif Nat.beq i sp then p else bif wr i then junk i else fr i) w
  | [sa, sb, sc, sd, sx, sy, sz, sp, sq] => Loop9 (fr sa) (fr sb) (fr sc) (fr sd) (fr sx) (fr sy) (fr sz) (fr sp) (fr sq) w fun junk a b c d x y z p q w next => body (thn (fun f w => next (f sa) (f sb) (f sc) (f sd) (f sx) (f sy) (f sz) (f sp) (f sq) w) Q) (fun i => bif Nat.beq i sa then a else bif Nat.beq i sb then b else bif Nat.beq i sc then c else bif Nat.beq i sd then d else bif Nat.beq i sx then x else bif Nat.beq i sy then y else bif Nat.beq i sz then z else bif Nat.beq i sp then p else bif Nat.beq i sq then q else bif wr i then junk i else fr i) w
  | [sa, sb, sc, sd, sx, sy, sz, sp, sq, sr] => Loop10 (fr sa) (fr sb) (fr sc) (fr sd) (fr sx) (fr sy) (fr sz) (fr sp) (fr sq) (fr sr) w fun junk a b c d x y z p q r w next => body (thn (fun f w => next (f sa) (f sb) (f sc) (f sd) (f sx) (f sy) (f sz) (f sp) (f sq) (f sr) w) Q) (fun i => bif Nat.beq i sa then a else bif Nat.beq i sb then b else bif Nat.beq i sc then c else bif Nat.beq i sd then d else bif Nat.beq i sx then x else bif Nat.beq i sy then y else bif Nat.beq i sz then z else bif Nat.beq i sp then p else bif Nat.beq i sq then q else bif Nat.beq i sr then r else bif wr i then junk i else fr i) w
  | _ => False

theorem emb_eq {wr : Nat → Bool} {fr fr' : Fr} (h : ∀ i, wr i = false → fr' i = fr i) (i : Nat) : (bif wr i then fr' i else fr i) = fr' i := by
  cases hw : wr i with
  | true => rfl
  | false => exact (h i hw).symm

theorem emb_at {x : Fr} {i s : Nat} {r : Value} (h : r = x i) : (bif Nat.beq i s then x s else r) = x i := by
  cases hb : Nat.beq i s with
  | true => rw [Nat.eq_of_beq_eq_true hb]; rfl
  | false => exact h

theorem loopW_gen {live : List Nat} {wr : Nat → Bool} {body : (Exit → Fr → World → Prop) → Fr → World → Prop} {Q : Exit → Fr → World → Prop} {fr : Fr} {w : World} (h : loopW live wr body Q fr w) :
    ∃ (I : Fr → World → Prop) (μ : Fr → World → Nat), I fr w ∧ ∀ fr' w', (∀ i, wr i = false → fr' i = fr i) → I fr' w' → body (thn (fun f x => I f x ∧ μ f x < μ fr' w') Q) fr' w' := by
  unfold loopW at h
  split at h
  · obtain ⟨I, μ, h0, hr⟩ := h
    refine ⟨fun f x => I  x, fun f x => μ  x, h0, fun fr' w' hoff hI => ?_⟩
    have := hr fr'  w' hI
    have e : (fun i => bif wr i then fr' i else fr i) = fr' := funext fun i => emb_eq hoff i
    dsimp only at this
    rw [e] at this
    exact this
  · rename_i sa; obtain ⟨I, μ, h0, hr⟩ := h
    refine ⟨fun f x => I (f sa) x, fun f x => μ (f sa) x, h0, fun fr' w' hoff hI => ?_⟩
    have := hr fr' (fr' sa) w' hI
    have e : (fun i => bif Nat.beq i sa then fr' sa else bif wr i then fr' i else fr i) = fr' := funext fun i => emb_at (emb_eq hoff i)
    dsimp only at this
    rw [e] at this
    exact this
  · rename_i sa sb; obtain ⟨I, μ, h0, hr⟩ := h
    refine ⟨fun f x => I (f sa) (f sb) x, fun f x => μ (f sa) (f sb) x, h0, fun fr' w' hoff hI => ?_⟩
    have := hr fr' (fr' sa) (fr' sb) w' hI
    have e : (fun i => bif Nat.beq i sa then fr' sa else bif Nat.beq i sb then fr' sb else bif wr i then fr' i else fr i) = fr' := funext fun i => emb_at (emb_at (emb_eq hoff i))
    dsimp only at this
    rw [e] at this
    exact this
  · rename_i sa sb sc; obtain ⟨I, μ, h0, hr⟩ := h
    refine ⟨fun f x => I (f sa) (f sb) (f sc) x, fun f x => μ (f sa) (f sb) (f sc) x, h0, fun fr' w' hoff hI => ?_⟩
    have := hr fr' (fr' sa) (fr' sb) (fr' sc) w' hI
    have e : (fun i => bif Nat.beq i sa then fr' sa else bif Nat.beq i sb then fr' sb else bif Nat.beq i sc then fr' sc else bif wr i then fr' i else fr i) = fr' := funext fun i => emb_at (emb_at (emb_at (emb_eq hoff i)))
    dsimp only at this
    rw [e] at this
    exact this
  · rename_i sa sb sc sd; obtain ⟨I, μ, h0, hr⟩ := h
    refine ⟨fun f x => I (f sa) (f sb) (f sc) (f sd) x, fun f x => μ (f sa) (f sb) (f sc) (f sd) x, h0, fun fr' w' hoff hI => ?_⟩
    have := hr fr' (fr' sa) (fr' sb) (fr' sc) (fr' sd) w' hI
    have e : (fun i => bif Nat.beq i sa then fr' sa else bif Nat.beq i sb then fr' sb else bif Nat.beq i sc then fr' sc else bif Nat.beq i sd then fr' sd else bif wr i then fr' i else fr i) = fr' := funext fun i => emb_at (emb_at (emb_at (emb_at (emb_eq hoff i))))
    dsimp only at this
    rw [e] at this
    exact this
  · rename_i sa sb sc sd sx; obtain ⟨I, μ, h0, hr⟩ := h
    refine ⟨fun f x => I (f sa) (f sb) (f sc) (f sd) (f sx) x, fun f x => μ (f sa) (f sb) (f sc) (f sd) (f sx) x, h0, fun fr' w' hoff hI => ?_⟩
    have := hr fr' (fr' sa) (fr' sb) (fr' sc) (fr' sd) (fr' sx) w' hI
    have e : (fun i => bif Nat.beq i sa then fr' sa else bif Nat.beq i sb then fr' sb else bif Nat.beq i sc then fr' sc else bif Nat.beq i sd then fr' sd else bif Nat.beq i sx then fr' sx else bif wr i then fr' i else fr i) = fr' := funext fun i => emb_at (emb_at (emb_at (emb_at (emb_at (emb_eq hoff i)))))
    dsimp only at this
    rw [e] at this
    exact this
  · rename_i sa sb sc sd sx sy; obtain ⟨I, μ, h0, hr⟩ := h
    refine ⟨fun f x => I (f sa) (f sb) (f sc) (f sd) (f sx) (f sy) x, fun f x => μ (f sa) (f sb) (f sc) (f sd) (f sx) (f sy) x, h0, fun fr' w' hoff hI => ?_⟩
    have := hr fr' (fr' sa) (fr' sb) (fr' sc) (fr' sd) (fr' sx) (fr' sy) w' hI
    have e : (fun i => bif Nat.beq i sa then fr' sa else bif Nat.beq i sb then fr' sb else bif Nat.beq i sc then fr' sc else bif Nat.beq i sd then fr' sd else bif Nat.beq i sx then fr' sx else bif Nat.beq i sy then fr' sy else bif wr i then fr' i else fr i) = fr' := funext fun i => emb_at (emb_at (emb_at (emb_at (emb_at (emb_at (emb_eq hoff i))))))
    dsimp only at this
    rw [e] at this
    exact this
  · rename_i sa sb sc sd sx sy sz; obtain ⟨I, μ, h0, hr⟩ := h
    refine ⟨fun f x => I (f sa) (f sb) (f sc) (f sd) (f sx) (f sy) (f sz) x, fun f x => μ (f sa) (f sb) (f sc) (f sd) (f sx) (f sy) (f sz) x, h0, fun fr' w' hoff hI => ?_⟩
    have := hr fr' (fr' sa) (fr' sb) (fr' sc) (fr' sd) (fr' sx) (fr' sy) (fr' sz) w' hI
    have e : (fun i => bif Nat.beq i sa then fr' sa else bif Nat.beq i sb then fr' sb else bif Nat.beq i sc then fr' sc else bif Nat.beq i sd then fr' sd else bif Nat.beq i sx then fr' sx else bif Nat.beq i sy then fr' sy else bif Nat.beq i sz then fr' sz else bif wr i then fr' i else fr i) = fr' := funext fun i => emb_at (emb_at (emb_at (emb_at (emb_at (emb_at (emb_at (emb_eq hoff i)))))))
    dsimp only at this
    rw [e] at this
    exact this
  · rename_i sa sb sc sd sx sy sz sp; obtain ⟨I, μ, h0, hr⟩ := h
    refine ⟨fun f x => I (f sa) (f sb) (f sc) (f sd) (f sx) (f sy) (f sz) (f sp) x, fun f x => μ (f sa) (f sb) (f sc) (f sd) (f sx) (f sy) (f sz) (f sp) x, h0, fun fr' w' hoff hI => ?_⟩
    have := hr fr' (fr' sa) (fr' sb) (fr' sc) (fr' sd) (fr' sx) (fr' sy) (fr' sz) (fr' sp) w' hI
    have e : (fun i => bif Nat.beq i sa then fr' sa else bif Nat.beq i sb then fr' sb else bif Nat.beq i sc then fr' sc else bif Nat.beq i sd then fr' sd else bif Nat.beq i sx then fr' sx else bif Nat.beq i sy then fr' sy else bif Nat.beq i sz then fr' sz else bif Nat.beq i sp then fr' sp else bif wr i then fr' i else fr i) = fr' := funext fun i => emb_at (emb_at (emb_at (emb_at (emb_at (emb_at (emb_at (emb_at (emb_eq hoff i))))))))
    dsimp only at this
    rw [e] at this
    exact this
  · rename_i sa sb sc sd sx sy sz sp sq; obtain ⟨I, μ, h0, hr⟩ := h
    refine ⟨fun f x => I (f sa) (f sb) (f sc) (f sd) (f sx) (f sy) (f sz) (f sp) (f sq) x, fun f x => μ (f sa) (f sb) (f sc) (f sd) (f sx) (f sy) (f sz) (f sp) (f sq) x, h0, fun fr' w' hoff hI => ?_⟩
    have := hr fr' (fr' sa) (fr' sb) (fr' sc) (fr' sd) (fr' sx) (fr' sy) (fr' sz) (fr' sp) (fr' sq) w' hI
    have e : (fun i => bif Nat.beq i sa then fr' sa else bif Nat.beq i sb then fr' sb else bif Nat.beq i sc then fr' sc else bif Nat.beq i sd then fr' sd else bif Nat.beq i sx then fr' sx else bif Nat.beq i sy then fr' sy else bif Nat.beq i sz then fr' sz else bif Nat.beq i sp then fr' sp else bif Nat.beq i sq then fr' sq else bif wr i then fr' i else fr i) = fr' := funext fun i => emb_at (emb_at (emb_at (emb_at (emb_at (emb_at (emb_at (emb_at (emb_at (emb_eq hoff i)))))))))
    dsimp only at this
    rw [e] at this
    exact this
  · rename_i sa sb sc sd sx sy sz sp sq sr; obtain ⟨I, μ, h0, hr⟩ := h
    refine ⟨fun f x => I (f sa) (f sb) (f sc) (f sd) (f sx) (f sy) (f sz) (f sp) (f sq) (f sr) x, fun f x => μ (f sa) (f sb) (f sc) (f sd) (f sx) (f sy) (f sz) (f sp) (f sq) (f sr) x, h0, fun fr' w' hoff hI => ?_⟩
    have := hr fr' (fr' sa) (fr' sb) (fr' sc) (fr' sd) (fr' sx) (fr' sy) (fr' sz) (fr' sp) (fr' sq) (fr' sr) w' hI
    have e : (fun i => bif Nat.beq i sa then fr' sa else bif Nat.beq i sb then fr' sb else bif Nat.beq i sc then fr' sc else bif Nat.beq i sd then fr' sd else bif Nat.beq i sx then fr' sx else bif Nat.beq i sy then fr' sy else bif Nat.beq i sz then fr' sz else bif Nat.beq i sp then fr' sp else bif Nat.beq i sq then fr' sq else bif Nat.beq i sr then fr' sr else bif wr i then fr' i else fr i) = fr' := funext fun i => emb_at (emb_at (emb_at (emb_at (emb_at (emb_at (emb_at (emb_at (emb_at (emb_at (emb_eq hoff i))))))))))
    dsimp only at this
    rw [e] at this
    exact this
  · exact h.elim

def cw (P : Program) (A : Ann) : Code → Nat → (Exit → Fr → World → Prop) → Fr → World → Prop
  | .skip, _, Q, fr, w => Q .normal fr w
  | .label _, _, Q, fr, w => Q .normal fr w
  | .region id ops draw, _, Q, fr, w => match draw with
    | true => schT P ops (A.sched id) (fun fr w => Q .normal fr w) fr w.drew
    | false => opsW P ops ops.toList (fun fr w => Q .normal fr w) fr w
  | .seq x y, b, Q, fr, w => cw P A x b (thn (fun fr w => cw P A y b Q fr w) Q) fr w
  | .cond c x y, b, Q, fr, w => condW (evO fr c) (cw P A x b Q fr w) (cw P A y b Q fr w)
  | .block id c, _, Q, fr, w => cw P A c id (inBlk id Q) fr w
  | .loop c, b, Q, fr, w => loopW (A.live b) (A.wr b) (cw P A c b) Q fr w
  | .exit id, _, Q, fr, w => Q (.exit id) fr w
  | .ret, _, Q, fr, w => Q .ret fr w
  | _, _, _, _, _ => False

def dstsC : Code → List Nat
  | .region _ ops _ => dstsOf ops.toList
  | .seq x y => dstsC x ++ dstsC y
  | .cond _ x y => dstsC x ++ dstsC y
  | .block _ c => dstsC c
  | .loop c => dstsC c
  | _ => []

def codeOk (n : Nat) (A : Ann) : Code → Nat → Bool
  | .region id ops draw, _ => (dstsOf ops.toList).all (Nat.blt · n) && (!draw || drawOkT ops (A.sched id))
  | .seq x y, b => codeOk n A x b && codeOk n A y b
  | .cond _ x y, b => codeOk n A x b && codeOk n A y b
  | .block id c, _ => codeOk n A c id
  | .loop c, b => codeOk n A c b && (dstsC c).all (A.wr b)
  | _, _ => true

theorem Post.mono {n : Nat} {S S' : List Nat} {fr0 : Fr} {K K' : Fr → World → Prop} {a : Act} {w : World} (h : Post n S fr0 K a w) (hS : ∀ i ∈ S, i ∈ S') (hk : ∀ f w, K f w → K' f w) : Post n S' fr0 K' a w :=
  let ⟨fr, h1, h2, h3⟩ := h
  ⟨fr, h1, fun i hi => h2 i fun hi' => hi (hS i hi'), hk _ _ h3⟩

theorem cw_wp {P : Program} {A : Ann} {n : Nat} (hmix : P.follows .mixedOrders = true) :
    ∀ (c : Code) (b : Nat) (Q : Exit → Fr → World → Prop) (fr : Fr) (w : World) (a : Act), codeOk n A c b = true → Mt n fr a → cw P A c b Q fr w →
      c.wp P (fun e a' w' => Post n (dstsC c) fr (Q e) a' w') a w := by
  intro c
  induction c with
  | skip => exact fun b Q fr w a _ hm h => wp_skip ⟨fr, hm, fun _ _ => rfl, h⟩
  | label l => exact fun b Q fr w a _ hm h => wp_label ⟨fr, hm, fun _ _ => rfl, h⟩
  | exit id => exact fun b Q fr w a _ hm h => wp_exit ⟨fr, hm, fun _ _ => rfl, h⟩
  | ret => exact fun b Q fr w a _ hm h => wp_ret ⟨fr, hm, fun _ _ => rfl, h⟩
  | region id ops draw =>
    intro b Q fr w a hok hm h
    simp only [codeOk, Bool.and_eq_true, List.all_eq_true] at hok
    have hd : ∀ d ∈ dstsOf ops.toList, d < n := fun d hd => Nat.lt_of_succ_le (by simpa [Nat.blt] using hok.1 d hd)
    cases draw with
    | false => exact region_wp hd hm h fun a w hp => hp
    | true => exact draw_wpT hmix (by simpa using hok.2) hd hm h fun a w hp => hp
  | seq x y ihx ihy =>
    intro b Q fr w a hok hm h
    simp only [codeOk, Bool.and_eq_true] at hok
    refine wp_seq (wp_mono (ihx b _ fr w a hok.1 hm h) fun e a' w' hp => ?_)
    cases e with
    | normal =>
      obtain ⟨fr', hm', hs', hk⟩ := hp
      refine wp_mono (ihy b Q fr' w' a' hok.2 hm' hk) fun e a'' w'' ⟨fr'', hm'', hs'', hk''⟩ => ⟨fr'', hm'', fun i hi => ?_, hk''⟩
      simp only [dstsC, List.mem_append, not_or] at hi
      rw [hs'' i hi.2, hs' i hi.1]
    | _ => exact hp.mono (fun i hi => by simp [dstsC, hi]) fun _ _ h => h
  | cond c x y ihx ihy =>
    intro b Q fr w a hok hm h
    simp only [codeOk, Bool.and_eq_true] at hok
    simp only [cw, condW] at h
    split at h
    · rename_i t ht
      refine wp_cond (t := t) (by rw [hm.eval]; exact ht) ?_
      cases t with
      | true => exact wp_mono (ihx b Q fr w a hok.1 hm (by simpa using h)) fun e a' w' hp => hp.mono (fun i hi => by simp [dstsC, hi]) fun _ _ h => h
      | false => exact wp_mono (ihy b Q fr w a hok.2 hm (by simpa using h)) fun e a' w' hp => hp.mono (fun i hi => by simp [dstsC, hi]) fun _ _ h => h
    · exact h.elim
  | block id c ih =>
    intro b Q fr w a hok hm h
    refine wp_block (wp_mono (ih id _ fr w a hok hm h) fun e a' w' hp => ?_)
    cases e with
    | exit id' =>
      simp only [Exit.inBlock]
      by_cases hid : id' = id
      · rw [if_pos hid]; exact hp.mono (fun i hi => hi) fun _ _ h => by simpa [inBlk, hid] using h
      · rw [if_neg hid]; exact hp.mono (fun i hi => hi) fun _ _ h => by simpa [inBlk, hid] using h
    | _ => exact hp
  | loop c ih =>
    intro b Q fr w a hok hm h
    simp only [codeOk, Bool.and_eq_true, List.all_eq_true] at hok
    obtain ⟨I, μ, h0, hr⟩ := loopW_gen h
    have hoff : ∀ i, A.wr b i = false → i ∉ dstsC c := fun i hi hmem => by rw [hok.2 i hmem] at hi; cases hi
    -- the frame that a machine's state is
    let fo : Act → Fr := fun a i => a.tmps.getD i undef
    have hfo : ∀ {f : Fr} {a : Act}, Mt n f a → fo a = f := fun hm => funext fun i => hm.slot i
    refine wp_loop (fun a' w' => ∃ fr', Mt n fr' a' ∧ (∀ i, i ∉ dstsC c → fr' i = fr i) ∧ I fr' w') (fun a' w' => μ (fo a') w') ⟨fr, hm, fun _ _ => rfl, h0⟩ ?_
    rintro a₁ w₁ ⟨fr₁, hm₁, hs₁, hI₁⟩
    have hbody := hr fr₁ w₁ (fun i hi => hs₁ i (hoff i hi)) hI₁
    refine wp_mono (ih b _ fr₁ w₁ a₁ hok.1 hm₁ hbody) fun e a' w' hp => ?_
    obtain ⟨fr', hm', hs', hk⟩ := hp
    cases e with
    | normal => exact ⟨⟨fr', hm', fun i hi => (hs' i hi).trans (hs₁ i hi), hk.1⟩, by rw [hfo hm', hfo hm₁]; exact hk.2⟩
    | _ => exact ⟨fr', hm', fun i hi => (hs' i hi).trans (hs₁ i hi), hk⟩
  | _ => exact fun b Q fr w a _ _ h => h.elim

def retW (P : Program) (R : Ending → World → Prop) : List ResultVar → List Value → Fr → World → Prop
  | [], acc, _, w => R (.returned (match acc.reverse with | [v] => v | vs => .tuple vs.toArray)) w
  | .tmp t :: rest, acc, fr, w => retW P R rest (fr t :: acc) fr w
  | .cell a t :: rest, acc, fr, w => ldQ P t w (fr a) fun v => retW P R rest (v :: acc) fr w

def bodyQ (P : Program) (fn : Func) (R : Ending → World → Prop) : Exit → Fr → World → Prop
  | .normal, fr, w => retW P R fn.results.toList [] fr w
  | .ret, fr, w => retW P R fn.results.toList [] fr w
  | _, _, _ => False

theorem retW_run {P : Program} {R : Ending → World → Prop} {n : Nat} {fr : Fr} {a : Act} {w : World} (hm : Mt n fr a) : ∀ (l : List ResultVar) (acc : List Value), retW P R l acc fr w →
    ∃ vs, (l.mapM (fun | .tmp t => pure (a.tmps.getD t undef) | .cell x t => do loadVar t (← asAddr (a.tmps.getD x undef))) : Sem (List Value)).run P w = .ok vs w ∧
      R (.returned (match acc.reverse ++ vs with | [v] => v | vs => .tuple vs.toArray)) w
  | [], acc, h => ⟨[], by simp, by simpa [retW] using h⟩
  | .tmp t :: l, acc, h => by
    obtain ⟨vs, h1, h2⟩ := retW_run hm l _ h
    refine ⟨fr t :: vs, ?_, by simpa using h2⟩
    have hs := hm.slot t
    simp only [List.mapM_cons, Sem.run_bind, hs, Sem.run_pure, Result.andThen_ok, h1]
  | .cell x t :: l, acc, h => by
    obtain ⟨v, hy, hk⟩ := ldQ_yld h
    obtain ⟨vs, h1, h2⟩ := retW_run hm l _ hk
    refine ⟨v :: vs, ?_, by simpa using h2⟩
    have hs := hm.slot x
    have hr := hy w (Below.refl _ _)
    have hload : (do loadVar t (← asAddr (fr x)) : Sem Value).run P w = .ok v w := by
      cases hx : fr x with
      | pointer p =>
        cases p with
        | none => rw [hx] at hr; simp [Instr.loadAt, Instr.sureAddr] at hr
        | some ad =>
          rw [hx] at hr
          simp only [Instr.loadAt, Instr.sureAddr, Sem.run_bind, Sem.run_pure, Result.andThen_ok] at hr
          simp only [asAddr, Sem.run_bind, Sem.run_pure, Result.andThen_ok]
          cases hl : (loadVar t ad).run P w with
          | halt e w' => rw [hl] at hr; simp at hr
          | ok u w' => rw [hl] at hr; simp at hr; rw [hr.1, hr.2]
      | _ => rw [hx] at hr; simp [Instr.loadAt, Instr.sureAddr] at hr
    simp only [List.mapM_cons, Sem.run_bind, hs, Sem.run_pure] at *
    rw [hload]
    simp only [Result.andThen_ok, h1]

theorem bodyQ_post {P : Program} {fn : Func} {R : Ending → World → Prop} {n : Nat} {fr : Fr} {a : Act} {w : World} (hm : Mt n fr a) (h : retW P R fn.results.toList [] fr w) :
    ∃ v, (results fn a.tmps).run P w = .ok v w ∧ R (.returned v) w := by
  obtain ⟨vs, h1, h2⟩ := retW_run hm _ _ h
  refine ⟨_, ?_, h2⟩
  unfold results
  rw [Array.mapM_eq_mapM_toList]
  simp only [Sem.run_bind, Sem.run_map]
  refine (congrArg (fun r => (Result.andThen (Result.andThen r fun a w' => Result.ok a.toArray w') fun a w' => Sem.run P (pure (if h : a.size = 1 then a[0] else Value.tuple a)) w')) h1).trans ?_
  simp only [Result.andThen_ok, Sem.run_pure, List.reverse_nil, List.nil_append]
  congr 1
  match vs with
  | [] => rfl
  | [v] => rfl
  | v :: u :: r => simp

/-- A way on that is met more than once. -/
def Join {α : Type _} (F : α → Prop) (k : α) : Prop := F k

/-- A region draws its order. -/
def Drew (w : World) (K : World → Prop) : Prop := K w.drew

def frOf (args : Array Value) : Fr := fun i => args.getD i undef

/-- **A CALL, BY THE LIFTED TEXT OF ITS BODY.** -/
theorem calls_of_cw {P : Program} {f : FuncId} {fn : Func} {c : Code} {args : Array Value} {w : World} {R : Ending → World → Prop} (A : Ann) (hmix : P.follows .mixedOrders = true)
    (hf : P.funcs[f]? = some fn) (hb : fn.body = some c) (hok : (codeOk fn.ntmps A c 0 && Nat.ble args.size fn.ntmps) = true)
    (h : cw P A c 0 (bodyQ P fn R) (frOf args) w) : Calls P f args w R := by
  simp only [Bool.and_eq_true, Nat.ble_eq] at hok
  have hm : Mt fn.ntmps (frOf args) { tmps := args ++ Array.replicate (fn.ntmps - args.size) undef, defers := [] } := by
    refine ⟨rfl, by simp; omega, fun i => ?_⟩
    simp only [frOf]
    rcases Nat.lt_or_ge i args.size with hi | hi
    · simp [Array.getElem?_append, hi]
    · simp only [Array.getD_eq_getD_getElem?, Array.getElem?_append_right hi, Array.getElem?_replicate, Array.getElem?_eq_none hi]
      split <;> rfl
  refine calls_of_wp hf hb (wp_mono (cw_wp hmix c 0 _ _ _ _ hok.1 hm h) fun e a' w' hp => ?_)
  obtain ⟨fr, hm', _, hk⟩ := hp
  cases e with
  | normal => exact ⟨hm'.defers, bodyQ_post hm' hk⟩
  | ret => exact ⟨hm'.defers, bodyQ_post hm' hk⟩
  | _ => exact hk.elim

end Go.Lf
