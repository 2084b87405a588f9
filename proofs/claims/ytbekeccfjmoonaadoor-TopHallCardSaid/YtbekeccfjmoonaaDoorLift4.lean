/- Lifting, part 4: a region that draws its order, by a schedule: quiet operations first, then what acts. -/
import Derived.Test.YtbekeccfjmoonaaDoorLift3
set_option linter.all false
namespace Go.Lf
open Go.RowKit

inductive Sched where
  | done
  /-- a quiet operation -/
  | take (i : Nat) (s : Sched)
  /-- the one operation that may come up; it leaves old memory alone -/
  | eff (i : Nat) (s : Sched)
  /-- the one operation that may come up, all others before it or behind it whatever the order -/
  | bar (i : Nat) (s : Sched)
  /-- one of several that may come up; 'more': the others -/
  | alt (i : Nat) (s more : Sched)
  | nomore
  /-- all of it, some blocks being allowed to turn -/
  | cls (s : Sched)

def Sched.steps : Sched → Nat
  | .done => 0
  | .take _ s => s.steps + 1
  | .eff _ s => s.steps + 1
  | .bar _ s => s.steps + 1
  | .alt _ s more => max (s.steps + 1) more.steps
  | .nomore => 0
  | .cls _ => 0

def Sched.alts : Sched → List Nat
  | .alt i _ more => i :: more.alts
  | _ => []

def Sched.bars : Sched → List Nat
  | .done => []
  | .take _ s => s.bars
  | .eff _ s => s.bars
  | .bar i s => i :: s.bars
  | .alt _ s more => s.bars ++ more.bars
  | .nomore => []
  | .cls _ => []

def keepB (w : World) (K : Value → World → Prop) : Value → World → Prop := fun v w' => Below w.heap.size w w' ∧ K v w'

def schW (P : Program) (all : Array Oper) : Sched → (Fr → World → Prop) → Fr → World → Prop
  | .done, K, fr, w => K fr w
  | .take i s, K, fr, w => match all[i]? with
    | some o => oneQ P all o fr w fun v => schW P all s K (upd fr o.dst v) w
    | none => False
  | .eff i s, K, fr, w => match all[i]? with
    | some o => oneW P all o fr w (keepB w fun v w' => schW P all s K (upd fr o.dst v) w')
    | none => False
  | .bar i s, K, fr, w => match all[i]? with
    | some o => oneW P all o fr w fun v w' => schW P all s K (upd fr o.dst v) w'
    | none => False
  | .alt i s more, K, fr, w => (match all[i]? with
    | some o => oneW P all o fr w (keepB w fun v w' => schW P all s K (upd fr o.dst v) w')
    | none => False) ∧ schW P all more K fr w
  | .nomore, _, _, _ => True
  | .cls _, _, _, _ => False

/-- Does operation i wait for k, by way of n - 1 others at most? -/
def waitsN (all : Array Oper) : Nat → Nat → Nat → Bool
  | 0, _, _ => false
  | n + 1, i, k => match all[i]? with
    | none => false
    | some o => o.after.any fun e => Region.binds .any e && (e.on == k || waitsN all n e.on k)

def waits (all : Array Oper) (i k : Nat) : Bool := waitsN all 6 i k

def barOk (all : Array Oper) (i : Nat) : Bool := (List.range all.size).all fun k => k == i || waits all i k || waits all k i

def schOk (all : Array Oper) : Sched → Bool → Array Bool → Bool
  | .done, _, L => (Region.ready .any all L).isEmpty
  | .take i s, _, L => (Region.ready .any all L).contains i && Region.free .any all L i && schOk all s true (L.setIfInBounds i true)
  | .eff i s, _, L => (Region.ready .any all L == [i]) && schOk all s true (L.setIfInBounds i true)
  | .bar i s, _, L => (Region.ready .any all L == [i]) && barOk all i && schOk all s true (L.setIfInBounds i true)
  | .alt i s more, top, L => (!top || (!(Region.ready .any all L).isEmpty && (Region.ready .any all L).all (Sched.alt i s more).alts.contains)) && schOk all s true (L.setIfInBounds i true) && schOk all more false L
  | .nomore, top, _ => !top
  | .cls _, _, _ => false

/-- Whatever order: every operation but the 'bars' leaves old memory alone. -/
def wpB (P : Program) (all : Array Oper) (bars : List Nat) (Q : Act → World → Prop) : Nat → Array Bool → Act → World → Prop
  | 0, L, a, w => Region.ready .any all L = [] ∧ Q a w
  | f + 1, L, a, w => (Region.ready .any all L = [] → Q a w) ∧
    ∀ i ∈ Region.ready .any all L, ∀ o, all[i]? = some o →
      stepB P all o a w fun v w' => (i ∉ bars → Below w.heap.size w w') ∧ wpB P all bars Q f (L.setIfInBounds i true) (a.put o.dst v) w'

section
variable {P : Program} {all : Array Oper} {bars : List Nat} {Q : Act → World → Prop}

theorem stepB_mono {o : Oper} {a : Act} {w : World} {K K' : Value → World → Prop} (h : stepB P all o a w K) (hk : ∀ v w', K v w' → K' v w') : stepB P all o a w K' := by
  unfold stepB at *
  split
  · rename_i hw; rw [if_pos hw] at h; exact semW_mono h hk
  · rename_i hw; rw [if_neg hw] at h; exact hk _ _ h

theorem wpAny_of_B {Q' : Exit → Act → World → Prop} (hQ : ∀ a w, Q a w → Q' .normal a w) : ∀ (f : Nat) (L : Array Bool) (a : Act) (w : World), wpB P all bars Q f L a w → wpAny P .any all Q' f L a w
  | 0, _, _, _, h => ⟨h.1, hQ _ _ h.2⟩
  | f + 1, L, a, w, h => by
    refine ⟨fun h0 => hQ _ _ (h.1 h0), fun i hi => ?_⟩
    obtain ⟨_, o, ho, _⟩ := mem_ready.1 hi
    refine wpOp_mono (fun a' w' ⟨v, ha, hk⟩ => ?_) (step_wpOp (Q := Q') ho (h.2 i hi o ho))
    subst ha
    exact wpAny_of_B hQ f _ _ _ hk.2

/-- Another operation, apart from oi: whether oi's value lies in its slot already makes no difference. -/
theorem stepB_put {oi oj : Oper} {v : Value} (hap : oi.apart all oj = true) (hsj : ∀ cs b, oj.op ≠ .select cs b) {a : Act} {w : World} {K : Value → World → Prop}
    (h : stepB P all oj (a.put oi.dst v) w K) : stepB P all oj a w K := by
  obtain ⟨h1, _, _⟩ := Oper.apart_spec hap
  unfold stepB at *
  rw [wanted_put oj a oi.dst v h1, execOp_put oj hsj a oi.dst v h1] at h
  exact h

/-- In state a, in every world that w grows into, oi leaves v in its slot. -/
def YB (P : Program) (all : Array Oper) (oi : Oper) (v : Value) (a : Act) (w : World) : Prop :=
  (Region.wanted oi (yielded all a.tmps) = true ∧ Yld P w (execOp a.eval oi) v) ∨ (Region.wanted oi (yielded all a.tmps) = false ∧ v = undef)

theorem YB.step {oi : Oper} {v : Value} {a : Act} {w : World} (h : YB P all oi v a w) {K : Value → World → Prop} (hk : K v w) : stepB P all oi a w K := by
  unfold stepB
  rcases h with ⟨h1, h2⟩ | ⟨h1, rfl⟩
  · rw [if_pos h1]; exact semW_of_yld h2 hk
  · rw [if_neg (by simp [h1])]; exact hk

theorem YB.later {oi oj : Oper} {v u : Value} {a : Act} {w w' : World} (h : YB P all oi v a w) (hap : oi.apart all oj = true) (hsi : ∀ cs b, oi.op ≠ .select cs b) (hb : Below w.heap.size w w') :
    YB P all oi v (a.put oj.dst u) w' := by
  obtain ⟨_, _, h3⟩ := Oper.apart_spec hap
  unfold YB at *
  rw [wanted_put oi a oj.dst u h3, execOp_put oi hsi a oj.dst u h3]
  refine h.imp (fun h => ⟨h.1, fun w'' hb'' => h.2 w'' (hb.trans (hb''.mono hb.size))⟩) id

/-- Barriers: where one may come up, nothing else may. -/
def BarsOk (all : Array Oper) (bars : List Nat) (L : Array Bool) : Prop := ∀ j ∈ bars, j ∈ Region.ready .any all L → ∀ i ∈ Region.ready .any all L, i = j

/-- L is what a run has behind it: each operation stands behind what it waits for. -/
def Closed (all : Array Oper) (L : Array Bool) : Prop := ∀ (i : Nat) (o : Oper), all[i]? = some o → L.getD i false = true → ∀ e ∈ o.after, Region.binds .any e = true → L.getD e.on false = true

theorem Closed.set {L : Array Bool} {i : Nat} (h : Closed all L) (hi : i ∈ Region.ready .any all L) : Closed all (L.setIfInBounds i true) := by
  intro j o ho hl e he hb
  by_cases hji : j = i
  · subst hji
    obtain ⟨_, o', ho', hall⟩ := mem_ready.1 hi
    rw [ho] at ho'
    cases ho'
    exact getD_set_true (hall e he hb)
  · rw [getD_set_ne false (Ne.symm hji)] at hl
    exact getD_set_true (h j o ho hl e he hb)

theorem waits_listed {L : Array Bool} (hc : Closed all L) : ∀ (n i k : Nat), waitsN all n i k = true → L.getD i false = true → L.getD k false = true
  | 0, _, _, h, _ => by cases h
  | n + 1, i, k, h, hl => by
    unfold waitsN at h
    split at h
    · cases h
    · rename_i o ho
      obtain ⟨m, hm, he⟩ := Array.any_eq_true.1 h
      simp only [Bool.and_eq_true, Bool.or_eq_true, beq_iff_eq] at he
      have := hc i o ho hl _ (Array.getElem_mem hm) he.1
      rcases he.2 with e | e
      · rwa [e] at this
      · exact waits_listed hc n _ _ e this

theorem waits_not_ready {L : Array Bool} (hc : Closed all L) {i k : Nat} (hw : waits all i k = true) (hi : i ∈ Region.ready .any all L) (hk : k ∈ Region.ready .any all L) : False := by
  obtain ⟨_, o, ho, hall⟩ := mem_ready.1 hi
  obtain ⟨hku, _⟩ := mem_ready.1 hk
  have hlisted : L.getD k false = true → False := fun h => by
    rcases Nat.lt_or_ge k L.size with h' | h'
    · simp [h'] at h hku; rw [h] at hku; cases hku
    · simp [Array.getElem?_eq_none h'] at h
  unfold waits waitsN at hw
  simp only [ho] at hw
  obtain ⟨m, hm, he⟩ := Array.any_eq_true.1 hw
  simp only [Bool.and_eq_true, Bool.or_eq_true, beq_iff_eq] at he
  have := hall _ (Array.getElem_mem hm) he.1
  rcases he.2 with e | e
  · rw [e] at this; exact hlisted this
  · exact hlisted (waits_listed hc _ _ _ e this)

theorem ready_lt {L : Array Bool} {i : Nat} (h : i ∈ Region.ready .any all L) : i < all.size := by
  obtain ⟨_, o, ho, _⟩ := mem_ready.1 h
  exact (Array.getElem?_eq_some_iff.1 ho).1

theorem barsOk_of (h : bars.all (barOk all) = true) {L : Array Bool} (hc : Closed all L) : BarsOk all bars L := by
  intro j hj hjr i hir
  have hb := List.all_eq_true.1 h j hj
  unfold barOk at hb
  have := List.all_eq_true.1 hb i (List.mem_range.2 (ready_lt hir))
  simp only [Bool.or_eq_true, beq_iff_eq] at this
  rcases this with (h1 | h1) | h1
  · exact h1
  · exact (waits_not_ready hc h1 hjr hir).elim
  · exact (waits_not_ready hc h1 hir hjr).elim

theorem wpB_take (hbars : bars.all (barOk all) = true) (hns : Region.noSelect all = true) {i : Nat} {oi : Oper} {v : Value} (hi : all[i]? = some oi) :
    ∀ (f : Nat) (L : Array Bool) (a : Act) (w : World), Closed all L →
      (∀ j oj, all[j]? = some oj → j ≠ i → L.getD j true = false → (∀ e ∈ oj.after, Region.binds .any e = true → e.on ≠ i) → oi.apart all oj = true) →
      i ∈ Region.ready .any all L → YB P all oi v a w → wpB P all bars Q f (L.setIfInBounds i true) (a.put oi.dst v) w → wpB P all bars Q (f + 1) L a w := by
  have hsel := Region.noSelect_spec hns
  intro f
  induction f with
  | zero =>
    intro L a w hc hfree hr hy H
    refine ⟨fun h => (by rw [h] at hr; cases hr), fun j hj oj hoj => ?_⟩
    by_cases hji : j = i
    · subst hji
      rw [hi] at hoj
      cases hoj
      exact hy.step ⟨fun _ => Below.refl _ _, H⟩
    · have := ready_mono hj hji
      rw [H.1] at this
      cases this
  | succ f ih =>
    intro L a w hc hfree hr hy H
    refine ⟨fun h => (by rw [h] at hr; cases hr), fun j hj oj hoj => ?_⟩
    by_cases hji : j = i
    · subst hji
      rw [hi] at hoj
      cases hoj
      exact hy.step ⟨fun _ => Below.refl _ _, H⟩
    · have h1 := H.2 j (ready_mono hj hji) oj hoj
      obtain ⟨hjun, oj', hoj', hall⟩ := mem_ready.1 hj
      rw [hoj] at hoj'
      cases hoj'
      have hnot : ∀ e ∈ oj.after, Region.binds .any e = true → e.on ≠ i := fun e he hb heq => by
        have h1 := hall e he hb
        have h0 := (mem_ready.1 hr).1
        rw [heq] at h1
        rcases Nat.lt_or_ge i L.size with h' | h'
        · simp [h'] at h0 h1; rw [h0] at h1; cases h1
        · simp [Array.getElem?_eq_none h'] at h1
      have hap := hfree j oj hoj hji hjun hnot
      have hjb : j ∉ bars := fun hb => hji (barsOk_of hbars hc j hb hj i hr).symm
      refine stepB_mono (stepB_put hap (fun cs b => hsel j oj cs b hoj) h1) (fun u w' ⟨hk1, hk2⟩ => ⟨fun _ => hk1 hjb, ?_⟩)
      have hfree' : ∀ k ok, all[k]? = some ok → k ≠ i → (L.setIfInBounds j true).getD k true = false →
          (∀ e ∈ ok.after, Region.binds .any e = true → e.on ≠ i) → oi.apart all ok = true := fun k ok hk hki hun hno => by
        refine hfree k ok hk hki ?_ hno
        by_cases hjk : j = k
        · subst hjk; exact hjun
        · rw [getD_set_ne true hjk] at hun; exact hun
      refine ih (L.setIfInBounds j true) _ w' (hc.set hj) hfree' (ready_mono hr (Ne.symm hji)) (hy.later hap (fun cs b => hsel i oi cs b hi) (hk1 hjb)) ?_
      rw [Array.setIfInBounds_comm _ _ hji, ← Act.put_comm a v u (Oper.apart_spec hap).2.1]
      exact hk2

theorem wpB_done {L : Array Bool} {a : Act} {w : World} (hr : Region.ready .any all L = []) (h : Q a w) : ∀ f, wpB P all bars Q f L a w
  | 0 => ⟨hr, h⟩
  | _ + 1 => ⟨fun _ => h, fun i hi => by rw [hr] at hi; cases hi⟩

end

theorem alts_step {P : Program} {all : Array Oper} {K : Fr → World → Prop} {fr : Fr} {w : World} : ∀ (s : Sched) (L : Array Bool), schOk all s false L = true → schW P all s K fr w → ∀ i ∈ s.alts,
    ∃ s' o, all[i]? = some o ∧ oneW P all o fr w (keepB w fun v w' => schW P all s' K (upd fr o.dst v) w') ∧ schOk all s' true (L.setIfInBounds i true) = true ∧ s'.steps + 1 ≤ s.steps ∧ (∀ b ∈ s'.bars, b ∈ s.bars)
  | .alt j s more, L, hok, h, i, hi => by
    simp only [schOk, Bool.and_eq_true] at hok
    simp only [Sched.alts, List.mem_cons] at hi
    rcases hi with rfl | hi
    · have h1 := h.1
      cases ho : all[i]? with
      | none => rw [ho] at h1; exact h1.elim
      | some o =>
        rw [ho] at h1
        exact ⟨s, o, rfl, h1, hok.1.2, by simp [Sched.steps]; omega, fun b hb => by simp [Sched.bars, hb]⟩
    · obtain ⟨s', o, h1, h2, h3, h4, h5⟩ := alts_step more L hok.2 h.2 i hi
      exact ⟨s', o, h1, h2, h3, by simp [Sched.steps]; omega, fun b hb => by simp [Sched.bars, h5 b hb]⟩
  | .done, _, _, _, i, hi => by cases hi
  | .take _ _, _, _, _, i, hi => by cases hi
  | .eff _ _, _, _, _, i, hi => by cases hi
  | .bar _ _, _, _, _, i, hi => by cases hi
  | .nomore, _, _, _, i, hi => by cases hi
  | .cls _, _, _, _, i, hi => by cases hi

theorem schW_wpB {P : Program} {all : Array Oper} {bars : List Nat} {n : Nat} {S : List Nat} {fr0 : Fr} {K : Fr → World → Prop} (hbars : bars.all (barOk all) = true) (hns : Region.noSelect all = true)
    (hd : ∀ (i : Nat) (o : Oper) (d : Nat), all[i]? = some o → o.dst = some d → d < n ∧ d ∈ S) :
    ∀ (f : Nat) (s : Sched) (L : Array Bool) (fr : Fr) (a : Act) (w : World), s.steps ≤ f → (∀ b ∈ s.bars, b ∈ bars) → schOk all s true L = true → Closed all L → Mt n fr a → (∀ i, i ∉ S → fr i = fr0 i) →
      schW P all s K fr w → wpB P all bars (Post n S fr0 K) f L a w := by
  have next : ∀ {fr : Fr} {a : Act} {i : Nat} {o : Oper} (v : Value), all[i]? = some o → Mt n fr a → (∀ i, i ∉ S → fr i = fr0 i) → Mt n (upd fr o.dst v) (a.put o.dst v) ∧ (∀ i, i ∉ S → upd fr o.dst v i = fr0 i) := by
    intro fr a i o v ho hm hs
    refine ⟨hm.put (fun x hx => (hd i o x ho hx).1) v, fun j hj => ?_⟩
    rw [upd_other (fun e => hj (hd i o j ho e).2)]
    exact hs j hj
  intro f
  induction f with
  | zero =>
    intro s L fr a w hst hsub hok hc hm hs h
    cases s with
    | done => exact wpB_done (by simpa [schOk] using hok) ⟨fr, hm, hs, h⟩ 0
    | nomore => simp [schOk] at hok
    | cls s => simp [schOk] at hok
    | take i s => simp [Sched.steps] at hst
    | eff i s => simp [Sched.steps] at hst
    | bar i s => simp [Sched.steps] at hst
    | alt i s more => simp [Sched.steps] at hst
  | succ f ih =>
    intro s L fr a w hst hsub hok hc hm hs h
    cases s with
    | done => exact wpB_done (by simpa [schOk] using hok) ⟨fr, hm, hs, h⟩ _
    | nomore => simp [schOk] at hok
    | cls s => simp [schOk] at hok
    | take i s =>
      simp only [schOk, Bool.and_eq_true, List.contains_iff_mem] at hok
      obtain ⟨⟨h1, h2⟩, h3⟩ := hok
      simp only [schW] at h
      cases ho : all[i]? with
      | none => rw [ho] at h; exact h.elim
      | some o =>
        rw [ho] at h
        obtain ⟨v, hk, hy⟩ := oneQ_step hm h
        obtain ⟨hm', hs'⟩ := next v ho hm hs
        refine wpB_take hbars hns ho f L a w hc (Region.free_spec ho h2) h1 hy ?_
        exact ih s _ _ _ w (by simp [Sched.steps] at hst; omega) (fun b hb => hsub b (by simpa [Sched.bars] using hb)) h3 (hc.set h1) hm' hs' hk
    | eff i s =>
      simp only [schOk, Bool.and_eq_true, beq_iff_eq] at hok
      obtain ⟨h1, h3⟩ := hok
      have hir : i ∈ Region.ready .any all L := by rw [h1]; simp
      simp only [schW] at h
      refine ⟨fun h0 => (by rw [h1] at h0; cases h0), fun j hj oj hoj => ?_⟩
      rw [h1, List.mem_singleton] at hj
      subst hj
      rw [hoj] at h
      refine stepB_mono (oneW_step hm h) fun v w' ⟨hb, hk⟩ => ⟨fun _ => hb, ?_⟩
      obtain ⟨hm', hs'⟩ := next v hoj hm hs
      exact ih s _ _ _ w' (by simp [Sched.steps] at hst; omega) (fun b hb => hsub b (by simpa [Sched.bars] using hb)) h3 (hc.set hir) hm' hs' hk
    | bar i s =>
      simp only [schOk, Bool.and_eq_true, beq_iff_eq] at hok
      obtain ⟨⟨h1, h2⟩, h3⟩ := hok
      have hir : i ∈ Region.ready .any all L := by rw [h1]; simp
      simp only [schW] at h
      refine ⟨fun h0 => (by rw [h1] at h0; cases h0), fun j hj oj hoj => ?_⟩
      rw [h1, List.mem_singleton] at hj
      subst hj
      rw [hoj] at h
      refine stepB_mono (oneW_step hm h) fun v w' hk => ⟨fun hnb => absurd (hsub j (by simp [Sched.bars])) hnb, ?_⟩
      obtain ⟨hm', hs'⟩ := next v hoj hm hs
      exact ih s _ _ _ w' (by simp [Sched.steps] at hst; omega) (fun b hb => hsub b (by simp [Sched.bars, hb])) h3 (hc.set hir) hm' hs' hk
    | alt i s more =>
      have hok' : schOk all (.alt i s more) false L = true := by
        simp only [schOk, Bool.and_eq_true] at hok ⊢
        exact ⟨⟨by simp, hok.1.2⟩, hok.2⟩
      have hall : (Region.ready .any all L).all (Sched.alt i s more).alts.contains = true := by
        simp only [schOk, Bool.and_eq_true, Bool.not_true, Bool.false_or] at hok
        exact hok.1.1.2
      have hcont : ∀ j ∈ Region.ready .any all L, j ∈ (Sched.alt i s more).alts := fun j hj => by
        have := List.all_eq_true.1 hall j hj
        simpa using this
      have hsteps := alts_step (P := P) (K := K) (fr := fr) (w := w) (.alt i s more) L hok' h
      by_cases hemp : Region.ready .any all L = []
      · simp only [schOk, Bool.and_eq_true, Bool.not_true, Bool.false_or] at hok
        have := hok.1.1.1
        rw [hemp] at this
        simp at this
      · refine ⟨fun h0 => absurd h0 hemp, fun j hj oj hoj => ?_⟩
        obtain ⟨s', o, ho, h1, h2, h3, h4⟩ := hsteps j (hcont j hj)
        rw [hoj] at ho
        cases ho
        refine stepB_mono (oneW_step hm h1) fun v w' ⟨hb, hk⟩ => ⟨fun _ => hb, ?_⟩
        obtain ⟨hm', hs'⟩ := next v hoj hm hs
        exact ih s' _ _ _ w' (by omega) (fun b hb => hsub b (h4 b hb)) h2 (hc.set hj) hm' hs' hk

def drawOk (ops : Array Oper) (s : Sched) : Bool :=
  schOk ops s true (Array.replicate ops.size false) && s.bars.all (barOk ops) && Region.noSelect ops && Nat.ble s.steps ops.size

theorem draw_wp {P : Program} {id n : Nat} {ops : Array Oper} {s : Sched} {Q : Exit → Act → World → Prop} {K : Fr → World → Prop} {fr : Fr} {a : Act} {w : World} (hmix : P.follows .mixedOrders = true)
    (hok : drawOk ops s = true) (hd : ∀ d ∈ dstsOf ops.toList, d < n) (hm : Mt n fr a) (h : schW P ops s K fr w.drew) (hQ : ∀ a w, Post n (dstsOf ops.toList) fr K a w → Q .normal a w) :
    (Code.region id ops true).wp P Q a w := by
  simp only [drawOk, Bool.and_eq_true, Nat.ble_eq] at hok
  obtain ⟨⟨⟨h1, h2⟩, h3⟩, h4⟩ := hok
  refine wp_region_any hmix (wpAny_of_B (bars := s.bars) (Q := Post n (dstsOf ops.toList) fr K) hQ _ _ _ _ ?_)
  have hdst : ∀ (i : Nat) (o : Oper) (d : Nat), ops[i]? = some o → o.dst = some d → d < n ∧ d ∈ dstsOf ops.toList := fun i o d ho hdd => by
    have hmem : d ∈ dstsOf ops.toList := by
      refine List.mem_filterMap.2 ⟨o, ?_, hdd⟩
      exact Array.mem_toList_iff.2 (Array.mem_of_getElem? ho)
    exact ⟨hd d hmem, hmem⟩
  refine schW_wpB h2 h3 hdst ops.size s _ fr a w.drew h4 (fun b hb => hb) h1 ?_ hm (fun _ _ => rfl) h
  intro i o ho hl
  rcases Nat.lt_or_ge i ops.size with h' | h'
  · simp [h'] at hl
  · simp [Array.getElem?_eq_none h'] at ho

end Go.Lf
