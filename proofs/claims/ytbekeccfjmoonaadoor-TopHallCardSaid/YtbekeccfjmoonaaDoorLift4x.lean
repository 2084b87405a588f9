/- Lifting, part 4, second half: regions that draw their order, where some blocks may turn meanwhile. -/
import Derived.Test.YtbekeccfjmoonaaDoorLift4
set_option linter.all false
namespace Go.Lf
open Go.RowKit

/-- w' is w but for new blocks and for blocks of X. -/
structure BX (X : Nat → Prop) (w w' : World) : Prop where
  os : w'.os = w.os
  tape : w'.tape = w.tape
  output : w'.output = w.output
  size : w.heap.size ≤ w'.heap.size
  block : ∀ k, k < w.heap.size → ¬ X k → w'.heap[k]? = w.heap[k]?

theorem BX.refl (X : Nat → Prop) (w : World) : BX X w w := ⟨rfl, rfl, rfl, Nat.le_refl _, fun _ _ _ => rfl⟩
theorem BX.trans {X : Nat → Prop} {a b c : World} (h : BX X a b) (k : BX X b c) : BX X a c :=
  ⟨k.os.trans h.os, k.tape.trans h.tape, k.output.trans h.output, Nat.le_trans h.size k.size, fun i hi hs => (k.block i (Nat.lt_of_lt_of_le hi h.size) hs).trans (h.block i hi hs)⟩

def keepX (X : Nat → Prop) (w : World) (K : Value → World → Prop) : Value → World → Prop := fun v w' => BX X w w' ∧ K v w'

def keepW (X : Nat → Prop) (w : World) (K : World → Prop) : World → Prop := fun w' => BX X w w' ∧ K w'

/-- A quiet operation whose value is the same whatever becomes of the blocks of X. -/
def takeX (X : Nat → Prop) (w : World) (F : World → (Value → Prop) → Prop) (K : Value → Prop) : Prop := ∃ v, (∀ w', BX X w w' → F w' (fun u => u = v)) ∧ K v

def Sched.acts : Sched → List Nat
  | .done => []
  | .take _ s => s.acts
  | .eff i s => i :: s.acts
  | .bar i s => i :: s.acts
  | .alt i s more => i :: (s.acts ++ more.acts)
  | .nomore => []
  | .cls s => s.acts

/-- All that acts waits for i: i meets the world as it was. -/
def early (all : Array Oper) (ac : List Nat) (i : Nat) : Bool := ac.all fun k => waits all k i

/-- All blocks. -/
def topX : Nat → Prop := fun _ => True
theorem BX.top {X : Nat → Prop} {w w' : World} (h : BX X w w') : BX topX w w' := ⟨h.os, h.tape, h.output, h.size, fun _ _ hn => absurd trivial hn⟩

def isStore : Op → Bool
  | .store _ _ _ => true
  | _ => false
/-- The stores: they may turn any block, as long as what they do not wait for looks at none. -/
def lateOf (all : Array Oper) (ac : List Nat) : List Nat := ac.filter fun k => match all[k]? with | some o => isStore o.op | none => false
def clX (X : Nat → Prop) (lt : List Nat) (i : Nat) : Nat → Prop := bif lt.contains i then topX else X
def clT (all : Array Oper) (X : Nat → Prop) (lt : List Nat) (i : Nat) : Nat → Prop := bif lt.all (fun k => waits all k i) then X else topX

def schX (P : Program) (all : Array Oper) (X : Nat → Prop) (ac : List Nat) : Sched → (Fr → World → Prop) → Fr → World → Prop
  | .done, K, fr, w => K fr w
  | .take i s, K, fr, w => match all[i]? with
    | some o => bif early all ac i then oneQ P all o fr w fun v => schX P all X ac s K (upd fr o.dst v) w else takeX (clT all X (lateOf all ac) i) w (fun w' k => oneQ P all o fr w' k) fun v => schX P all X ac s K (upd fr o.dst v) w
    | none => False
  | .eff i s, K, fr, w => match all[i]? with
    | some o => oneW P all o fr w (keepX (clX X (lateOf all ac) i) w fun v w' => schX P all X ac s K (upd fr o.dst v) w')
    | none => False
  | .bar i s, K, fr, w => match all[i]? with
    | some o => oneW P all o fr w fun v w' => schX P all X ac s K (upd fr o.dst v) w'
    | none => False
  | .alt i s more, K, fr, w => (match all[i]? with
    | some o => oneW P all o fr w (keepX (clX X (lateOf all ac) i) w fun v w' => schX P all X ac s K (upd fr o.dst v) w')
    | none => False) ∧ schX P all X ac more K fr w
  | .nomore, _, _, _ => True
  | .cls _, _, _, _ => False

/-- Whatever order: every operation but the 'bars' leaves old memory alone. -/
def wpX (P : Program) (all : Array Oper) (X : Nat → Prop) (ac bars : List Nat) (Q : Act → World → Prop) : Nat → Array Bool → Act → World → Prop
  | 0, L, a, w => Region.ready .any all L = [] ∧ Q a w
  | f + 1, L, a, w => (Region.ready .any all L = [] → Q a w) ∧
    ∀ i ∈ Region.ready .any all L, ∀ o, all[i]? = some o →
      stepB P all o a w fun v w' => (i ∉ bars → BX (clX X (lateOf all ac) i) w w') ∧ (i ∉ ac → w' = w) ∧ wpX P all X ac bars Q f (L.setIfInBounds i true) (a.put o.dst v) w'

section
variable {P : Program} {all : Array Oper} {X : Nat → Prop} {ac bars : List Nat} {Q : Act → World → Prop}

theorem wpAny_of_X {Q' : Exit → Act → World → Prop} (hQ : ∀ a w, Q a w → Q' .normal a w) : ∀ (f : Nat) (L : Array Bool) (a : Act) (w : World), wpX P all X ac bars Q f L a w → wpAny P .any all Q' f L a w
  | 0, _, _, _, h => ⟨h.1, hQ _ _ h.2⟩
  | f + 1, L, a, w, h => by
    refine ⟨fun h0 => hQ _ _ (h.1 h0), fun i hi => ?_⟩
    obtain ⟨_, o, ho, _⟩ := mem_ready.1 hi
    refine wpOp_mono (fun a' w' ⟨v, ha, hk⟩ => ?_) (step_wpOp (Q := Q') ho (h.2 i hi o ho))
    subst ha
    exact wpAny_of_X hQ f _ _ _ hk.2.2

/-- In state a, in every world that w may turn into, oi leaves v in its slot. -/
def YX (P : Program) (all : Array Oper) (X : Nat → Prop) (oi : Oper) (v : Value) (a : Act) (w : World) : Prop :=
  ∀ w', BX X w w' → (Region.wanted oi (yielded all a.tmps) = true ∧ (execOp a.eval oi).run P w' = .ok (.value v) w') ∨ (Region.wanted oi (yielded all a.tmps) = false ∧ v = undef)

theorem YX.step {oi : Oper} {v : Value} {a : Act} {w : World} (h : YX P all X oi v a w) {K : Value → World → Prop} (hk : K v w) : stepB P all oi a w K := by
  unfold stepB
  rcases h w (BX.refl _ _) with ⟨h1, h2⟩ | ⟨h1, rfl⟩
  · rw [if_pos h1]; exact semW_of_run h2 hk
  · rw [if_neg (by simp [h1])]; exact hk

theorem YX.later {oi oj : Oper} {v u : Value} {a : Act} {w w' : World} (h : YX P all X oi v a w) (hap : oi.apart all oj = true) (hsi : ∀ cs b, oi.op ≠ .select cs b) (hb : BX X w w') :
    YX P all X oi v (a.put oj.dst u) w' := by
  obtain ⟨_, _, h3⟩ := Oper.apart_spec hap
  unfold YX at *
  rw [wanted_put oi a oj.dst u h3, execOp_put oi hsi a oj.dst u h3]
  exact fun w'' hb'' => h w'' (hb.trans hb'')

theorem cl_le {L : Array Bool} (hc : Closed all L) {i j : Nat} (hi : i ∈ Region.ready .any all L) (hj : j ∈ Region.ready .any all L) {lt : List Nat} {w w' : World} (h : BX (clX X lt j) w w') : BX (clT all X lt i) w w' := by
  unfold clT
  cases hl : lt.all (fun k => waits all k i) with
  | false => exact h.top
  | true =>
    unfold clX at h
    cases hq : lt.contains j with
    | false => rw [hq] at h; exact h
    | true => exact (waits_not_ready hc (List.all_eq_true.1 hl j (by simpa using hq)) hj hi).elim

theorem wpX_take (hbars : bars.all (barOk all) = true) (hns : Region.noSelect all = true) {i : Nat} {oi : Oper} {v : Value} (hi : all[i]? = some oi) :
    ∀ (f : Nat) (L : Array Bool) (a : Act) (w : World), Closed all L →
      (∀ j oj, all[j]? = some oj → j ≠ i → L.getD j true = false → (∀ e ∈ oj.after, Region.binds .any e = true → e.on ≠ i) → oi.apart all oj = true) →
      i ∈ Region.ready .any all L → YX P all (clT all X (lateOf all ac) i) oi v a w → wpX P all X ac bars Q f (L.setIfInBounds i true) (a.put oi.dst v) w → wpX P all X ac bars Q (f + 1) L a w := by
  have hsel := Region.noSelect_spec hns
  intro f
  induction f with
  | zero =>
    intro L a w hc hfree hr hy H
    refine ⟨fun h => (by rw [h] at hr; cases hr), fun j hj oj hoj => ?_⟩
    by_cases hji : j = i
    · subst hji
      rw [hi] at hoj
      cases hoj
      exact hy.step ⟨fun _ => BX.refl _ _, fun _ => rfl, H⟩
    · have := ready_mono hj hji
      rw [H.1] at this
      cases this
  | succ f ih =>
    intro L a w hc hfree hr hy H
    refine ⟨fun h => (by rw [h] at hr; cases hr), fun j hj oj hoj => ?_⟩
    by_cases hji : j = i
    · subst hji
      rw [hi] at hoj
      cases hoj
      exact hy.step ⟨fun _ => BX.refl _ _, fun _ => rfl, H⟩
    · have h1 := H.2 j (ready_mono hj hji) oj hoj
      obtain ⟨hjun, oj', hoj', hall⟩ := mem_ready.1 hj
      rw [hoj] at hoj'
      cases hoj'
      have hnot : ∀ e ∈ oj.after, Region.binds .any e = true → e.on ≠ i := fun e he hb heq => by
        have h1 := hall e he hb
        have h0 := (mem_ready.1 hr).1
        rw [heq] at h1
        rcases Nat.lt_or_ge i L.size with h' | h'
        · simp [h'] at h0 h1; rw [h0] at h1; cases h1
        · simp [Array.getElem?_eq_none h'] at h1
      have hap := hfree j oj hoj hji hjun hnot
      have hjb : j ∉ bars := fun hb => hji (barsOk_of hbars hc j hb hj i hr).symm
      refine stepB_mono (stepB_put hap (fun cs b => hsel j oj cs b hoj) h1) (fun u w' ⟨hk1, hk3, hk2⟩ => ⟨fun _ => hk1 hjb, hk3, ?_⟩)
      have hfree' : ∀ k ok, all[k]? = some ok → k ≠ i → (L.setIfInBounds j true).getD k true = false →
          (∀ e ∈ ok.after, Region.binds .any e = true → e.on ≠ i) → oi.apart all ok = true := fun k ok hk hki hun hno => by
        refine hfree k ok hk hki ?_ hno
        by_cases hjk : j = k
        · subst hjk; exact hjun
        · rw [getD_set_ne true hjk] at hun; exact hun
      refine ih (L.setIfInBounds j true) _ w' (hc.set hj) hfree' (ready_mono hr (Ne.symm hji)) (hy.later hap (fun cs b => hsel i oi cs b hi) (cl_le hc hr hj (hk1 hjb))) ?_
      rw [Array.setIfInBounds_comm _ _ hji, ← Act.put_comm a v u (Oper.apart_spec hap).2.1]
      exact hk2

/-- In state a, in world w, oi leaves v in its slot. -/
def YE (P : Program) (all : Array Oper) (oi : Oper) (v : Value) (a : Act) (w : World) : Prop :=
  (Region.wanted oi (yielded all a.tmps) = true ∧ (execOp a.eval oi).run P w = .ok (.value v) w) ∨ (Region.wanted oi (yielded all a.tmps) = false ∧ v = undef)

theorem YE.step {oi : Oper} {v : Value} {a : Act} {w : World} (h : YE P all oi v a w) {K : Value → World → Prop} (hk : K v w) : stepB P all oi a w K := by
  unfold stepB
  rcases h with ⟨h1, h2⟩ | ⟨h1, rfl⟩
  · rw [if_pos h1]; exact semW_of_run h2 hk
  · rw [if_neg (by simp [h1])]; exact hk

theorem YE.later {oi oj : Oper} {v u : Value} {a : Act} {w : World} (h : YE P all oi v a w) (hap : oi.apart all oj = true) (hsi : ∀ cs b, oi.op ≠ .select cs b) :
    YE P all oi v (a.put oj.dst u) w := by
  obtain ⟨_, _, h3⟩ := Oper.apart_spec hap
  unfold YE at *
  rw [wanted_put oi a oj.dst u h3, execOp_put oi hsi a oj.dst u h3]
  exact h

theorem wpX_early (hbars : bars.all (barOk all) = true) (hns : Region.noSelect all = true) {i : Nat} (hearly : early all ac i = true) {oi : Oper} {v : Value} (hi : all[i]? = some oi) :
    ∀ (f : Nat) (L : Array Bool) (a : Act) (w : World), Closed all L →
      (∀ j oj, all[j]? = some oj → j ≠ i → L.getD j true = false → (∀ e ∈ oj.after, Region.binds .any e = true → e.on ≠ i) → oi.apart all oj = true) →
      i ∈ Region.ready .any all L → YE P all oi v a w → wpX P all X ac bars Q f (L.setIfInBounds i true) (a.put oi.dst v) w → wpX P all X ac bars Q (f + 1) L a w := by
  have hsel := Region.noSelect_spec hns
  intro f
  induction f with
  | zero =>
    intro L a w hc hfree hr hy H
    refine ⟨fun h => (by rw [h] at hr; cases hr), fun j hj oj hoj => ?_⟩
    by_cases hji : j = i
    · subst hji
      rw [hi] at hoj
      cases hoj
      exact hy.step ⟨fun _ => BX.refl _ _, fun _ => rfl, H⟩
    · have := ready_mono hj hji
      rw [H.1] at this
      cases this
  | succ f ih =>
    intro L a w hc hfree hr hy H
    refine ⟨fun h => (by rw [h] at hr; cases hr), fun j hj oj hoj => ?_⟩
    by_cases hji : j = i
    · subst hji
      rw [hi] at hoj
      cases hoj
      exact hy.step ⟨fun _ => BX.refl _ _, fun _ => rfl, H⟩
    · have h1 := H.2 j (ready_mono hj hji) oj hoj
      obtain ⟨hjun, oj', hoj', hall⟩ := mem_ready.1 hj
      rw [hoj] at hoj'
      cases hoj'
      have hnot : ∀ e ∈ oj.after, Region.binds .any e = true → e.on ≠ i := fun e he hb heq => by
        have h1 := hall e he hb
        have h0 := (mem_ready.1 hr).1
        rw [heq] at h1
        rcases Nat.lt_or_ge i L.size with h' | h'
        · simp [h'] at h0 h1; rw [h0] at h1; cases h1
        · simp [Array.getElem?_eq_none h'] at h1
      have hap := hfree j oj hoj hji hjun hnot
      have hjb : j ∉ bars := fun hb => hji (barsOk_of hbars hc j hb hj i hr).symm
      have hja : j ∉ ac := fun hm => waits_not_ready hc (List.all_eq_true.1 hearly j hm) hj hr
      refine stepB_mono (stepB_put hap (fun cs b => hsel j oj cs b hoj) h1) (fun u w' ⟨hk1, hk3, hk2⟩ => ⟨fun _ => hk1 hjb, hk3, ?_⟩)
      have hfree' : ∀ k ok, all[k]? = some ok → k ≠ i → (L.setIfInBounds j true).getD k true = false →
          (∀ e ∈ ok.after, Region.binds .any e = true → e.on ≠ i) → oi.apart all ok = true := fun k ok hk hki hun hno => by
        refine hfree k ok hk hki ?_ hno
        by_cases hjk : j = k
        · subst hjk; exact hjun
        · rw [getD_set_ne true hjk] at hun; exact hun
      refine ih (L.setIfInBounds j true) _ w' (hc.set hj) hfree' (ready_mono hr (Ne.symm hji)) (by rw [hk3 hja]; exact hy.later hap (fun cs b => hsel i oi cs b hi)) ?_
      rw [Array.setIfInBounds_comm _ _ hji, ← Act.put_comm a v u (Oper.apart_spec hap).2.1]
      exact hk2

theorem wpX_done {L : Array Bool} {a : Act} {w : World} (hr : Region.ready .any all L = []) (h : Q a w) : ∀ f, wpX P all X ac bars Q f L a w
  | 0 => ⟨hr, h⟩
  | _ + 1 => ⟨fun _ => h, fun i hi => by rw [hr] at hi; cases hi⟩

end

theorem altsX_step {P : Program} {all : Array Oper} {X : Nat → Prop} {ac : List Nat} {K : Fr → World → Prop} {fr : Fr} {w : World} : ∀ (s : Sched) (L : Array Bool), schOk all s false L = true → schX P all X ac s K fr w → ∀ i ∈ s.alts,
    ∃ s' o, all[i]? = some o ∧ oneW P all o fr w (keepX (clX X (lateOf all ac) i) w fun v w' => schX P all X ac s' K (upd fr o.dst v) w') ∧ schOk all s' true (L.setIfInBounds i true) = true ∧ s'.steps + 1 ≤ s.steps ∧ (∀ b ∈ s'.bars, b ∈ s.bars) ∧ (∀ b ∈ s'.acts, b ∈ s.acts) ∧ i ∈ s.acts
  | .alt j s more, L, hok, h, i, hi => by
    simp only [schOk, Bool.and_eq_true] at hok
    simp only [Sched.alts, List.mem_cons] at hi
    rcases hi with rfl | hi
    · have h1 := h.1
      cases ho : all[i]? with
      | none => rw [ho] at h1; exact h1.elim
      | some o =>
        rw [ho] at h1
        exact ⟨s, o, rfl, h1, hok.1.2, by simp [Sched.steps]; omega, fun b hb => by simp [Sched.bars, hb], fun b hb => by simp [Sched.acts, hb], by simp [Sched.acts]⟩
    · obtain ⟨s', o, h1, h2, h3, h4, h5, h6, h7⟩ := altsX_step more L hok.2 h.2 i hi
      exact ⟨s', o, h1, h2, h3, by simp [Sched.steps]; omega, fun b hb => by simp [Sched.bars, h5 b hb], fun b hb => by simp [Sched.acts, h6 b hb], by simp [Sched.acts, h7]⟩
  | .done, _, _, _, i, hi => by cases hi
  | .take _ _, _, _, _, i, hi => by cases hi
  | .eff _ _, _, _, _, i, hi => by cases hi
  | .bar _ _, _, _, _, i, hi => by cases hi
  | .nomore, _, _, _, i, hi => by cases hi
  | .cls _, _, _, _, i, hi => by cases hi

theorem schX_wpX {P : Program} {all : Array Oper} {X : Nat → Prop} {ac bars : List Nat} {n : Nat} {S : List Nat} {fr0 : Fr} {K : Fr → World → Prop} (hbars : bars.all (barOk all) = true) (hns : Region.noSelect all = true)
    (hd : ∀ (i : Nat) (o : Oper) (d : Nat), all[i]? = some o → o.dst = some d → d < n ∧ d ∈ S) :
    ∀ (f : Nat) (s : Sched) (L : Array Bool) (fr : Fr) (a : Act) (w : World), s.steps ≤ f → (∀ b ∈ s.bars, b ∈ bars) → (∀ b ∈ s.acts, b ∈ ac) → schOk all s true L = true → Closed all L → Mt n fr a → (∀ i, i ∉ S → fr i = fr0 i) →
      schX P all X ac s K fr w → wpX P all X ac bars (Post n S fr0 K) f L a w := by
  have next : ∀ {fr : Fr} {a : Act} {i : Nat} {o : Oper} (v : Value), all[i]? = some o → Mt n fr a → (∀ i, i ∉ S → fr i = fr0 i) → Mt n (upd fr o.dst v) (a.put o.dst v) ∧ (∀ i, i ∉ S → upd fr o.dst v i = fr0 i) := by
    intro fr a i o v ho hm hs
    refine ⟨hm.put (fun x hx => (hd i o x ho hx).1) v, fun j hj => ?_⟩
    rw [upd_other (fun e => hj (hd i o j ho e).2)]
    exact hs j hj
  intro f
  induction f with
  | zero =>
    intro s L fr a w hst hsub hsa hok hc hm hs h
    cases s with
    | done => exact wpX_done (by simpa [schOk] using hok) ⟨fr, hm, hs, h⟩ 0
    | nomore => simp [schOk] at hok
    | cls s => simp [schOk] at hok
    | take i s => simp [Sched.steps] at hst
    | eff i s => simp [Sched.steps] at hst
    | bar i s => simp [Sched.steps] at hst
    | alt i s more => simp [Sched.steps] at hst
  | succ f ih =>
    intro s L fr a w hst hsub hsa hok hc hm hs h
    cases s with
    | done => exact wpX_done (by simpa [schOk] using hok) ⟨fr, hm, hs, h⟩ _
    | nomore => simp [schOk] at hok
    | cls s => simp [schOk] at hok
    | take i s =>
      simp only [schOk, Bool.and_eq_true, List.contains_iff_mem] at hok
      obtain ⟨⟨h1, h2⟩, h3⟩ := hok
      simp only [schX] at h
      cases ho : all[i]? with
      | none => rw [ho] at h; exact h.elim
      | some o =>
        rw [ho] at h
        cases hea : early all ac i with
        | true =>
          simp only [hea, cond_true] at h
          obtain ⟨v, hk, h3'⟩ := oneQ_step hm h
          have hy : YE P all o v a w := h3'.imp (fun h => ⟨h.1, h.2 w (Below.refl _ _)⟩) id
          obtain ⟨hm', hs'⟩ := next v ho hm hs
          refine wpX_early hbars hns hea ho f L a w hc (Region.free_spec ho h2) h1 hy ?_
          exact ih s _ _ _ w (by simp [Sched.steps] at hst; omega) (fun b hb => hsub b (by simpa [Sched.bars] using hb)) (fun b hb => hsa b (by simpa [Sched.acts] using hb)) h3 (hc.set h1) hm' hs' hk
        | false =>
        simp only [hea, cond_false] at h
        obtain ⟨v, hq, hk⟩ := h
        have hy : YX P all (clT all X (lateOf all ac) i) o v a w := fun w' hw' => by
          obtain ⟨u, hu, h3⟩ := oneQ_step hm (hq w' hw')
          subst hu
          exact h3.imp (fun h => ⟨h.1, h.2 w' (Below.refl _ _)⟩) id
        obtain ⟨hm', hs'⟩ := next v ho hm hs
        refine wpX_take hbars hns ho f L a w hc (Region.free_spec ho h2) h1 hy ?_
        exact ih s _ _ _ w (by simp [Sched.steps] at hst; omega) (fun b hb => hsub b (by simpa [Sched.bars] using hb)) (fun b hb => hsa b (by simpa [Sched.acts] using hb)) h3 (hc.set h1) hm' hs' hk
    | eff i s =>
      simp only [schOk, Bool.and_eq_true, beq_iff_eq] at hok
      obtain ⟨h1, h3⟩ := hok
      have hir : i ∈ Region.ready .any all L := by rw [h1]; simp
      simp only [schX] at h
      refine ⟨fun h0 => (by rw [h1] at h0; cases h0), fun j hj oj hoj => ?_⟩
      rw [h1, List.mem_singleton] at hj
      subst hj
      rw [hoj] at h
      refine stepB_mono (oneW_step hm h) fun v w' ⟨hb, hk⟩ => ⟨fun _ => hb, fun hna => absurd (hsa j (by simp [Sched.acts])) hna, ?_⟩
      obtain ⟨hm', hs'⟩ := next v hoj hm hs
      exact ih s _ _ _ w' (by simp [Sched.steps] at hst; omega) (fun b hb => hsub b (by simpa [Sched.bars] using hb)) (fun b hb => hsa b (by simp [Sched.acts, hb])) h3 (hc.set hir) hm' hs' hk
    | bar i s =>
      simp only [schOk, Bool.and_eq_true, beq_iff_eq] at hok
      obtain ⟨⟨h1, h2⟩, h3⟩ := hok
      have hir : i ∈ Region.ready .any all L := by rw [h1]; simp
      simp only [schX] at h
      refine ⟨fun h0 => (by rw [h1] at h0; cases h0), fun j hj oj hoj => ?_⟩
      rw [h1, List.mem_singleton] at hj
      subst hj
      rw [hoj] at h
      refine stepB_mono (oneW_step hm h) fun v w' hk => ⟨fun hnb => absurd (hsub j (by simp [Sched.bars])) hnb, fun hna => absurd (hsa j (by simp [Sched.acts])) hna, ?_⟩
      obtain ⟨hm', hs'⟩ := next v hoj hm hs
      exact ih s _ _ _ w' (by simp [Sched.steps] at hst; omega) (fun b hb => hsub b (by simp [Sched.bars, hb])) (fun b hb => hsa b (by simp [Sched.acts, hb])) h3 (hc.set hir) hm' hs' hk
    | alt i s more =>
      have hok' : schOk all (.alt i s more) false L = true := by
        simp only [schOk, Bool.and_eq_true] at hok ⊢
        exact ⟨⟨by simp, hok.1.2⟩, hok.2⟩
      have hall : (Region.ready .any all L).all (Sched.alt i s more).alts.contains = true := by
        simp only [schOk, Bool.and_eq_true, Bool.not_true, Bool.false_or] at hok
        exact hok.1.1.2
      have hcont : ∀ j ∈ Region.ready .any all L, j ∈ (Sched.alt i s more).alts := fun j hj => by
        have := List.all_eq_true.1 hall j hj
        simpa using this
      have hsteps := altsX_step (P := P) (K := K) (fr := fr) (w := w) (.alt i s more) L hok' h
      by_cases hemp : Region.ready .any all L = []
      · simp only [schOk, Bool.and_eq_true, Bool.not_true, Bool.false_or] at hok
        have := hok.1.1.1
        rw [hemp] at this
        simp at this
      · refine ⟨fun h0 => absurd h0 hemp, fun j hj oj hoj => ?_⟩
        obtain ⟨s', o, ho, h1, h2, h3, h4, h5, h6⟩ := hsteps j (hcont j hj)
        rw [hoj] at ho
        cases ho
        refine stepB_mono (oneW_step hm h1) fun v w' ⟨hb, hk⟩ => ⟨fun _ => hb, fun hna => absurd (hsa j h6) hna, ?_⟩
        obtain ⟨hm', hs'⟩ := next v hoj hm hs
        exact ih s' _ _ _ w' (by omega) (fun b hb => hsub b (h4 b hb)) (fun b hb => hsa b (h5 b hb)) h2 (hc.set hj) hm' hs' hk


def schT (P : Program) (all : Array Oper) (s : Sched) (K : Fr → World → Prop) (fr : Fr) (w : World) : Prop :=
  match s with
  | .cls s => ∃ X, schX P all X s.acts s K fr w
  | s => schW P all s K fr w

def drawOkT (ops : Array Oper) (s : Sched) : Bool :=
  match s with
  | .cls s => drawOk ops s
  | s => drawOk ops s

theorem draw_wpX {P : Program} {id n : Nat} {ops : Array Oper} {s : Sched} {X : Nat → Prop} {Q : Exit → Act → World → Prop} {K : Fr → World → Prop} {fr : Fr} {a : Act} {w : World} (hmix : P.follows .mixedOrders = true)
    (hok : drawOk ops s = true) (hd : ∀ d ∈ dstsOf ops.toList, d < n) (hm : Mt n fr a) (h : schX P ops X s.acts s K fr w.drew) (hQ : ∀ a w, Post n (dstsOf ops.toList) fr K a w → Q .normal a w) :
    (Code.region id ops true).wp P Q a w := by
  simp only [drawOk, Bool.and_eq_true, Nat.ble_eq] at hok
  obtain ⟨⟨⟨h1, h2⟩, h3⟩, h4⟩ := hok
  refine wp_region_any hmix (wpAny_of_X (X := X) (ac := s.acts) (bars := s.bars) (Q := Post n (dstsOf ops.toList) fr K) hQ _ _ _ _ ?_)
  have hdst : ∀ (i : Nat) (o : Oper) (d : Nat), ops[i]? = some o → o.dst = some d → d < n ∧ d ∈ dstsOf ops.toList := fun i o d ho hdd => by
    have hmem : d ∈ dstsOf ops.toList := by
      refine List.mem_filterMap.2 ⟨o, ?_, hdd⟩
      exact Array.mem_toList_iff.2 (Array.mem_of_getElem? ho)
    exact ⟨hd d hmem, hmem⟩
  refine schX_wpX h2 h3 hdst ops.size s _ fr a w.drew h4 (fun b hb => hb) (fun b hb => hb) h1 ?_ hm (fun _ _ => rfl) h
  intro i o ho hl
  rcases Nat.lt_or_ge i ops.size with h' | h'
  · simp [h'] at hl
  · simp [Array.getElem?_eq_none h'] at ho

theorem draw_wpT {P : Program} {id n : Nat} {ops : Array Oper} {s : Sched} {Q : Exit → Act → World → Prop} {K : Fr → World → Prop} {fr : Fr} {a : Act} {w : World} (hmix : P.follows .mixedOrders = true)
    (hok : drawOkT ops s = true) (hd : ∀ d ∈ dstsOf ops.toList, d < n) (hm : Mt n fr a) (h : schT P ops s K fr w.drew) (hQ : ∀ a w, Post n (dstsOf ops.toList) fr K a w → Q .normal a w) :
    (Code.region id ops true).wp P Q a w := by
  cases s with
  | cls s => obtain ⟨X, h⟩ := h; exact draw_wpX hmix hok hd hm h hQ
  | _ => exact draw_wp hmix hok hd hm h hQ

end Go.Lf
