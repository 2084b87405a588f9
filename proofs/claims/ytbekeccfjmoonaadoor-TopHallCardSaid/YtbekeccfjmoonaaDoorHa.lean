/- Matchings of black and white cells, plainly: what one try to match a cell does, what is dead, and a set of cells with too few neighbours. No program. -/
import Init
set_option linter.all false
namespace Go.Ht

abbrev C2 := Int × Int
def adjC (a b : C2) : Prop := (a.1 = b.1 ∧ (a.2 = b.2 + 1 ∨ b.2 = a.2 + 1)) ∨ (a.2 = b.2 ∧ (a.1 = b.1 + 1 ∨ b.1 = a.1 + 1))
def blackC (c : C2) : Bool := decide ((c.1 + c.2) % 2 = 0)
theorem adjC.symm {a b : C2} (h : adjC a b) : adjC b a := by unfold adjC at h ⊢; omega
theorem adjC.colour {a b : C2} (h : adjC a b) : blackC a = !blackC b := by
  unfold adjC at h
  unfold blackC
  by_cases q : (b.1 + b.2) % 2 = 0
  · rw [decide_eq_true q, decide_eq_false (by omega)]; rfl
  · rw [decide_eq_false q, decide_eq_true (by omega)]; rfl

abbrev Mate := C2 → Option C2
def upC (μ : Mate) (a b : C2) : Mate := fun x => if x = a then some b else μ x
theorem upC_same (μ : Mate) (a b : C2) : upC μ a b a = some b := if_pos rfl
theorem upC_ne {μ : Mate} {a b x : C2} (h : x ≠ a) : upC μ a b x = μ x := if_neg h

def Mt (R : C2 → Prop) (μ : Mate) : Prop := ∀ a b, μ a = some b → R a ∧ R b ∧ adjC a b ∧ μ b = some a
/-- What is dead: blacks whose neighbours are dead, whites that are matched with dead ones. -/
structure Dz (R : C2 → Prop) (μ : Mate) (D : C2 → Prop) : Prop where
  nb : ∀ c n, D c → blackC c = true → R n → adjC c n → D n
  mw : ∀ n, D n → blackC n = false → ∃ m, μ n = some m ∧ D m

/-- A cell was matched. -/
structure TryT (R D : C2 → Prop) (μ : Mate) (seen : C2 → Prop) (c : C2) (μ' : Mate) : Prop where
  keep : ∀ n, blackC n = false → seen n → μ' n = μ n
  dead : ∀ n, blackC n = false → D n → μ' n = μ n
  blk : ∀ b n, blackC b = true → μ' b = some n → R b ∧ R n ∧ adjC b n ∧ μ' n = some b
  wht : ∀ n b, blackC n = false → μ' n = some b → (R n ∧ R b ∧ adjC n b ∧ μ' b = some n) ∨ (b = c ∧ μ n = some c ∧ seen n)
  more : ∀ b, μ b ≠ none → μ' b ≠ none
  own : ∃ n, μ' c = some n ∧ blackC n = false ∧ ¬ seen n
  far : ∀ b, blackC b = true → b ≠ c → (μ b = none ∨ ∃ n, μ b = some n ∧ seen n) → μ' b = μ b
/-- A cell was not matched. -/
structure TryF (R : C2 → Prop) (μ : Mate) (seen : C2 → Prop) (c : C2) (seen' : C2 → Prop) : Prop where
  sub : ∀ n, seen n → seen' n
  near : ∀ n, R n → adjC c n → seen' n
  clo : ∀ n, seen' n → seen n ∨ (R n ∧ blackC n = false ∧ ∃ m, μ n = some m ∧ ∀ n', R n' → adjC m n' → seen' n')

section
variable {R D : C2 → Prop} {μ : Mate} {seen : C2 → Prop} {c n : C2}

theorem try_free (hM : Mt R μ) (hD : Dz R μ D) (hc : R c) (hcb : blackC c = true) (hn : R n) (ha : adjC c n) (hs : ¬ seen n) (hpre : ∀ n0, μ c = some n0 → seen n0) (h0 : μ n = none) : TryT R D μ seen c (upC (upC μ n c) c n) := by
  have hnw : blackC n = false := by have := ha.colour; rw [hcb] at this; simpa using this.symm
  have hcn : c ≠ n := fun e => by rw [e, hnw] at hcb; cases hcb
  have vn : upC (upC μ n c) c n n = some c := by rw [upC_ne (Ne.symm hcn), upC_same]
  have vo : ∀ x, x ≠ c → x ≠ n → upC (upC μ n c) c n x = μ x := fun x h1 h2 => by rw [upC_ne h1, upC_ne h2]
  have ww : ∀ x, blackC x = false → x ≠ c := fun x h e => by rw [e, hcb] at h; cases h
  have wb : ∀ x, blackC x = true → x ≠ n := fun x h e => by rw [e, hnw] at h; cases h
  refine ⟨fun x hx h => ?_, fun x hx h => ?_, fun b x hb h => ?_, fun x b hx h => ?_, fun b h => ?_, ⟨n, upC_same .., hnw, hs⟩, fun b hb hbc h => ?_⟩
  · exact vo x (ww x hx) fun e => hs (by rw [← e]; exact h)
  · refine vo x (ww x hx) fun e => ?_
    obtain ⟨m, hm, _⟩ := hD.mw x h hx
    rw [e, h0] at hm; cases hm
  · by_cases e : b = c
    · subst e
      rw [upC_same] at h
      injection h with h
      subst h
      exact ⟨hc, hn, ha, vn⟩
    · rw [vo b e (wb b hb)] at h
      obtain ⟨h1, h2, h3, h4⟩ := hM b x h
      have hxn : x ≠ n := fun e => by rw [e, h0] at h4; cases h4
      have hxw : blackC x = false := by have := h3.colour; rw [hb] at this; simpa using this.symm
      exact ⟨h1, h2, h3, by rw [vo x (ww x hxw) hxn]; exact h4⟩
  · by_cases e : x = n
    · subst e
      rw [vn] at h
      injection h with h
      subst h
      exact .inl ⟨hn, hc, ha.symm, upC_same ..⟩
    · rw [vo x (ww x hx) e] at h
      obtain ⟨h1, h2, h3, h4⟩ := hM x b h
      have hbb : blackC b = true := by have := h3.colour; rw [hx] at this; simpa using this.symm
      by_cases e2 : b = c
      · subst e2
        exact .inr ⟨rfl, h, hpre x h4⟩
      · exact .inl ⟨h1, h2, h3, by rw [vo b e2 (wb b hbb)]; exact h4⟩
  · by_cases e : b = c
    · rw [e, upC_same]; simp
    · by_cases e2 : b = n
      · rw [e2, h0] at h; exact absurd rfl h
      · rw [vo b e e2]; exact h
  · exact vo b hbc (wb b hb)

theorem try_on {seen1 : C2 → Prop} {m : C2} {μ1 : Mate} (hM : Mt R μ) (hc : R c) (hcb : blackC c = true) (hn : R n) (ha : adjC c n) (hs : ¬ seen n) (hs1 : seen1 n) (hsub : ∀ x, seen x → seen1 x) (hpre : ∀ n0, μ c = some n0 → seen n0) (h0 : μ n = some m) (hDn : ¬ D n)
    (h : TryT R D μ seen1 m μ1) : TryT R D μ seen c (upC (upC μ1 n c) c n) := by
  have hnw : blackC n = false := by have := ha.colour; rw [hcb] at this; simpa using this.symm
  have hcn : c ≠ n := fun e => by rw [e, hnw] at hcb; cases hcb
  obtain ⟨_, hmR, hmn, hmm⟩ := hM n m h0
  have hmb : blackC m = true := by have := hmn.colour; rw [hnw] at this; simpa using this.symm
  have hmc : c ≠ m := fun e => by rw [← e] at hmm; exact hs (hpre n hmm)
  have vn : upC (upC μ1 n c) c n n = some c := by rw [upC_ne (Ne.symm hcn), upC_same]
  have vo : ∀ x, x ≠ c → x ≠ n → upC (upC μ1 n c) c n x = μ1 x := fun x h1 h2 => by rw [upC_ne h1, upC_ne h2]
  have ww : ∀ x, blackC x = false → x ≠ c := fun x h e => by rw [e, hcb] at h; cases h
  have wb : ∀ x, blackC x = true → x ≠ n := fun x h e => by rw [e, hnw] at h; cases h
  have hcc : μ1 c = μ c := h.far c hcb hmc (by
    cases q : μ c with
    | none => exact .inl rfl
    | some n0 => exact .inr ⟨n0, rfl, hsub n0 (hpre n0 q)⟩)
  have hn1 : μ1 n = some m := (h.keep n hnw hs1).trans h0
  refine ⟨fun x hx hq => ?_, fun x hx hq => ?_, fun b x hb hq => ?_, fun x b hx hq => ?_, fun b hq => ?_, ⟨n, upC_same .., hnw, hs⟩, fun b hb hbc hq => ?_⟩
  · rw [vo x (ww x hx) fun e => hs (by rw [← e]; exact hq)]
    exact h.keep x hx (hsub x hq)
  · rw [vo x (ww x hx) fun e => hDn (by rw [← e]; exact hq)]
    exact h.dead x hx hq
  · by_cases e : b = c
    · subst e
      rw [upC_same] at hq
      injection hq with hq
      subst hq
      exact ⟨hc, hn, ha, vn⟩
    · rw [vo b e (wb b hb)] at hq
      obtain ⟨h1, h2, h3, h4⟩ := h.blk b x hb hq
      have hxn : x ≠ n := fun e2 => by
        rw [e2, hn1] at h4
        injection h4 with h4
        obtain ⟨n2, o1, _, o3⟩ := h.own
        rw [h4, hq, e2] at o1
        injection o1 with o1
        exact o3 (by rw [← o1]; exact hs1)
      have hxw : blackC x = false := by have := h3.colour; rw [hb] at this; simpa using this.symm
      exact ⟨h1, h2, h3, by rw [vo x (ww x hxw) hxn]; exact h4⟩
  · by_cases e : x = n
    · subst e
      rw [vn] at hq
      injection hq with hq
      subst hq
      exact .inl ⟨hn, hc, ha.symm, upC_same ..⟩
    · rw [vo x (ww x hx) e] at hq
      rcases h.wht x b hx hq with ⟨h1, h2, h3, h4⟩ | ⟨h1, h2, _⟩
      · have hbb : blackC b = true := by have := h3.colour; rw [hx] at this; simpa using this.symm
        by_cases e2 : b = c
        · subst e2
          rw [hcc] at h4
          exact .inr ⟨rfl, (hM b x h4).2.2.2, hpre x h4⟩
        · exact .inl ⟨h1, h2, h3, by rw [vo b e2 (wb b hbb)]; exact h4⟩
      · have := (hM x m h2).2.2.2
        rw [hmm] at this
        injection this with this
        exact absurd this.symm e
  · by_cases e : b = c
    · rw [e, upC_same]; simp
    · by_cases e2 : b = n
      · rw [e2, vn]; simp
      · rw [vo b e e2]; exact h.more b hq
  · rw [vo b hbc (wb b hb)]
    have hbm : b ≠ m := fun e => by
      rcases hq with hq | ⟨n2, hq, hs2⟩
      · rw [e, hmm] at hq; cases hq
      · rw [e, hmm] at hq
        injection hq with hq
        exact hs (by rw [hq]; exact hs2)
    refine h.far b hb hbm ?_
    rcases hq with hq | ⟨n2, hq, hs2⟩
    · exact .inl hq
    · exact .inr ⟨n2, hq, hsub n2 hs2⟩
end

/-- Where the try began with nothing seen. -/
theorem TryT.mt {R D : C2 → Prop} {μ μ' : Mate} {c : C2} (h : TryT R D μ (fun _ => False) c μ') : Mt R μ' := fun a b hab => by
  cases q : blackC a with
  | true => exact h.blk a b q hab
  | false =>
    rcases h.wht a b q hab with h | h
    · exact h
    · exact h.2.2.elim
theorem TryT.dz {R D : C2 → Prop} {μ μ' : Mate} {seen : C2 → Prop} {c : C2} (h : TryT R D μ seen c μ') (hD : Dz R μ D) : Dz R μ' D :=
  ⟨hD.nb, fun n hn hw => by rw [h.dead n hw hn]; exact hD.mw n hn hw⟩
def deadMore (D : C2 → Prop) (μ : Mate) (c : C2) (seen' : C2 → Prop) : C2 → Prop := fun x => D x ∨ x = c ∨ seen' x ∨ ∃ n, seen' n ∧ μ n = some x
theorem TryF.dz {R D : C2 → Prop} {μ : Mate} {c : C2} {seen' : C2 → Prop} (h : TryF R μ (fun _ => False) c seen') (hM : Mt R μ) (hD : Dz R μ D) (hcb : blackC c = true) : Dz R μ (deadMore D μ c seen') := by
  have clo : ∀ n, seen' n → R n ∧ blackC n = false ∧ ∃ m, μ n = some m ∧ ∀ n', R n' → adjC m n' → seen' n' := fun n hn => (h.clo n hn).resolve_left id
  refine ⟨fun a n ha hb hn hadj => ?_, fun n hn hw => ?_⟩
  · rcases ha with ha | ha | ha | ⟨n1, h1, h2⟩
    · exact .inl (hD.nb a n ha hb hn hadj)
    · rw [ha] at hadj; exact .inr (.inr (.inl (h.near n hn hadj)))
    · have := (clo a ha).2.1; rw [this] at hb; cases hb
    · obtain ⟨_, _, m, hm, hcl⟩ := clo n1 h1
      rw [h2] at hm; injection hm with hm
      exact .inr (.inr (.inl (hcl n hn (by rw [← hm]; exact hadj))))
  · rcases hn with hn | hn | hn | ⟨n1, h1, h2⟩
    · obtain ⟨m, hm, hd⟩ := hD.mw n hn hw
      exact ⟨m, hm, .inl hd⟩
    · rw [hn, hcb] at hw; cases hw
    · obtain ⟨_, _, m, hm, _⟩ := clo n hn
      exact ⟨m, hm, .inr (.inr (.inr ⟨n, hn, hm⟩))⟩
    · have h3 := (clo n1 h1).2.1
      have h4 := (hM n1 n h2).2.2.1.colour
      rw [h3, hw] at h4; cases h4

/-- A set of one colour around a cell alone, all of whose neighbours are matched into it. -/
theorem hall_set {R D : C2 → Prop} {μ : Mate} (hM : Mt R μ) (hD : Dz R μ D) (hall : ∀ b, R b → blackC b = true → μ b ≠ none ∨ D b) {u : C2} (hu : R u) (h0 : μ u = none) :
    ∃ S : C2 → Prop, S u ∧ (∀ c, S c → R c ∧ blackC c = blackC u) ∧ ∀ c n, S c → R n → adjC c n → ∃ m, μ n = some m ∧ S m := by
  cases q : blackC u with
  | true =>
    refine ⟨fun c => R c ∧ blackC c = true ∧ D c, ⟨hu, q, (hall u hu q).resolve_left fun h => h h0⟩, fun c hc => ⟨hc.1, hc.2.1⟩, fun c n hc hn ha => ?_⟩
    have hd := hD.nb c n hc.2.2 hc.2.1 hn ha
    have hnw : blackC n = false := by have := ha.colour; rw [hc.2.1] at this; simpa using this.symm
    obtain ⟨m, hm, hdm⟩ := hD.mw n hd hnw
    obtain ⟨_, h2, h3, _⟩ := hM n m hm
    have hmb : blackC m = true := by have := h3.colour; rw [hnw] at this; simpa using this.symm
    exact ⟨m, hm, h2, hmb, hdm⟩
  | false =>
    have hnd : ∀ x, blackC x = false → (∀ m, μ x = some m → ¬ D m) → ¬ D x := fun x hx h hd => by
      obtain ⟨m, hm, hdm⟩ := hD.mw x hd hx
      exact h m hm hdm
    refine ⟨fun c => R c ∧ blackC c = false ∧ ¬ D c, ⟨hu, q, hnd u q fun m hm => by rw [h0] at hm; cases hm⟩, fun c hc => ⟨hc.1, hc.2.1⟩, fun c n hc hn ha => ?_⟩
    have hnb : blackC n = true := by have := ha.colour; rw [hc.2.1] at this; simpa using this.symm
    have hdn : ¬ D n := fun hd => hc.2.2 (hD.nb n c hd hnb hc.1 ha.symm)
    cases hm : μ n with
    | none => exact absurd hm ((hall n hn hnb).resolve_right hdn)
    | some m =>
      obtain ⟨_, h2, h3, h4⟩ := hM n m hm
      have hmw : blackC m = false := by have := h3.colour; rw [hnb] at this; simpa using this.symm
      exact ⟨m, rfl, h2, hmw, hnd m hmw fun x hx => by rw [h4] at hx; injection hx with hx; rw [← hx]; exact hdn⟩

end Go.Ht
