/- Levels, plainly: the longest segments of sides, in order; there is only one such list. -/
import Derived.Test.YtkdcldbedbagjaaDoorMc
set_option linter.all false
namespace Go.Proofs.YtkdcldbedbagjaaDoor
open Go.Lf Go.RowKit Go.Dt

def lvGap (a b : T3) : Prop := a.1 < b.1 ∨ (a.1 = b.1 ∧ a.2.2 < b.2.1)
/-- A list of segments is that of the sides' longest segments. -/
structure IsLv (S out : List T3) : Prop where
  gap : out.Pairwise lvGap
  long : ∀ o ∈ out, o.2.1 < o.2.2
  cont : ∀ l ∈ S, ∃ o ∈ out, o.1 = l.1 ∧ o.2.1 ≤ l.2.1 ∧ l.2.2 ≤ o.2.2
  cov : ∀ o ∈ out, ∀ x, o.2.1 ≤ x → x < o.2.2 → ∃ l ∈ S, l.1 = o.1 ∧ l.2.1 ≤ x ∧ x < l.2.2

theorem IsLv.perm {S S' out : List T3} (h : IsLv S out) (p : ∀ l, l ∈ S' ↔ l ∈ S) : IsLv S' out :=
  ⟨h.gap, h.long, fun l hl => h.cont l ((p l).1 hl), fun o ho x h1 h2 => let ⟨l, hl, h3⟩ := h.cov o ho x h1 h2; ⟨l, (p l).2 hl, h3⟩⟩

theorem gap_or {out : List T3} (h : out.Pairwise lvGap) {a b : T3} (ha : a ∈ out) (hb : b ∈ out) : a = b ∨ lvGap a b ∨ lvGap b a := by
  obtain ⟨i, hi, rfl⟩ := List.getElem_of_mem ha
  obtain ⟨j, hj, rfl⟩ := List.getElem_of_mem hb
  have hp := List.pairwise_iff_getElem.1 h
  rcases Nat.lt_trichotomy i j with h | h | h
  · exact .inr (.inl (hp i j hi hj h))
  · subst h; exact .inl rfl
  · exact .inr (.inr (hp j i hj hi h))

/-- The sides so far, in order, and what is made of them. -/
theorem merge_lv {S : List T3} (hs : LvSorted S) (hl : ∀ l ∈ S, l.2.1 < l.2.2) : ∀ n, n ≤ S.length → IsLv (S.take n) ((S.take n).foldl mstep []) ∧ ∀ o ∈ (S.take n).foldl mstep [], ∃ t ∈ S.take n, t.1 = o.1 ∧ t.2.1 = o.2.1 := by
  intro n
  induction n with
  | zero => exact fun _ => ⟨⟨List.Pairwise.nil, by simp, by simp, by simp⟩, by simp⟩
  | succ n ih =>
    intro hn
    obtain ⟨h, hf⟩ := ih (by omega)
    have hlt : n < S.length := by omega
    rw [take_succ' _ _ hlt, List.foldl_append]
    simp only [List.foldl_cons, List.foldl_nil]
    have hlong := hl S[n] (List.getElem_mem hlt)
    have hord : ∀ t ∈ S.take n, t.1 < S[n].1 ∨ (t.1 = S[n].1 ∧ t.2.1 ≤ S[n].2.1) := fun t ht => by
      obtain ⟨i, hi, rfl⟩ := List.mem_take_iff_getElem.1 ht
      have := List.pairwise_iff_getElem.1 hs i n (by omega) hlt (by omega)
      rw [lvLt_not] at this
      omega
    generalize S[n] = l at *
    generalize (S.take n).foldl mstep [] = out at *
    generalize S.take n = T at *
    have own : ∀ P : List T3, mstep out l = P → (∀ o ∈ out, ∃ o' ∈ P, o'.1 = o.1 ∧ o'.2.1 = o.2.1 ∧ o.2.2 ≤ o'.2.2) → True := fun _ _ _ => trivial
    cases hlast : out.getLast? with
    | none =>
      have h0 : out = [] := List.getLast?_eq_none_iff.1 hlast
      have hm : mstep out l = [l] := by unfold mstep; rw [hlast]
      rw [hm]
      refine ⟨⟨List.pairwise_singleton _ _, fun o ho => by rw [List.mem_singleton.1 ho]; exact hlong, fun t ht => ?_, fun o ho x h1 h2 => ?_⟩, fun o ho => ?_⟩
      · rcases List.mem_append.1 ht with ht | ht
        · obtain ⟨o, ho, _⟩ := h.cont t ht
          rw [h0] at ho; cases ho
        · rw [List.mem_singleton.1 ht]; exact ⟨l, by simp, rfl, Int.le_refl _, Int.le_refl _⟩
      · rw [List.mem_singleton.1 ho] at h1 h2 ⊢
        exact ⟨l, by simp, rfl, h1, h2⟩
      · rw [List.mem_singleton.1 ho]; exact ⟨l, by simp, rfl, rfl⟩
    | some m =>
      have hne : out ≠ [] := fun e => by rw [e] at hlast; cases hlast
      have hmm : m ∈ out := List.mem_of_getLast? hlast
      have hsplit : out = out.dropLast ++ [m] := by
        have := List.dropLast_concat_getLast hne
        rw [List.getLast?_eq_some_getLast hne] at hlast
        injection hlast with hlast
        rw [hlast] at this
        exact this.symm
      obtain ⟨t, ht, t1, t2⟩ := hf m hmm
      have hml := hord t ht
      rw [t1, t2] at hml
      have hmlong := h.long m hmm
      have hgap := h.gap
      rw [hsplit, List.pairwise_append] at hgap
      obtain ⟨g1, _, g2⟩ := hgap
      have hm : mstep out l = if m.1 = l.1 ∧ l.2.1 ≤ m.2.2 then out.dropLast ++ [(m.1, m.2.1, max m.2.2 l.2.2)] else out ++ [l] := by unfold mstep; rw [hlast]
      rw [hm]
      have memo : ∀ o, o ∈ out ↔ o ∈ out.dropLast ∨ o = m := fun o => by
        conv => lhs; rw [hsplit]
        simp
      by_cases hc : m.1 = l.1 ∧ l.2.1 ≤ m.2.2
      · rw [if_pos hc]
        refine ⟨⟨?_, fun o ho => ?_, fun t ht => ?_, fun o ho x h1 h2 => ?_⟩, fun o ho => ?_⟩
        · rw [List.pairwise_append]
          refine ⟨g1, List.pairwise_singleton _ _, fun a ha b hb => ?_⟩
          have := g2 a ha m (by simp)
          rw [List.mem_singleton.1 hb]
          exact this
        · rcases List.mem_append.1 ho with ho | ho
          · exact h.long o ((memo o).2 (.inl ho))
          · rw [List.mem_singleton.1 ho]; dsimp only; omega
        · have back : ∀ o ∈ out, o.1 = t.1 → o.2.1 ≤ t.2.1 → t.2.2 ≤ o.2.2 → ∃ o' ∈ out.dropLast ++ [(m.1, m.2.1, max m.2.2 l.2.2)], o'.1 = t.1 ∧ o'.2.1 ≤ t.2.1 ∧ t.2.2 ≤ o'.2.2 := fun o ho e1 e2 e3 => by
            rcases (memo o).1 ho with ho | rfl
            · exact ⟨o, List.mem_append_left _ ho, e1, e2, e3⟩
            · exact ⟨_, List.mem_append_right _ (List.mem_singleton_self _), e1, e2, by dsimp only; omega⟩
          rcases List.mem_append.1 ht with ht | ht
          · obtain ⟨o, ho, e1, e2, e3⟩ := h.cont t ht
            exact back o ho e1 e2 e3
          · rw [List.mem_singleton.1 ht]
            exact ⟨_, List.mem_append_right _ (List.mem_singleton_self _), hc.1, by dsimp only; omega, by dsimp only; omega⟩
        · rcases List.mem_append.1 ho with ho | ho
          · obtain ⟨t, ht, e⟩ := h.cov o ((memo o).2 (.inl ho)) x h1 h2
            exact ⟨t, List.mem_append_left _ ht, e⟩
          · rw [List.mem_singleton.1 ho] at h1 h2 ⊢
            dsimp only at h1 h2 ⊢
            by_cases hx : x < m.2.2
            · obtain ⟨t, ht, e⟩ := h.cov m hmm x h1 hx
              exact ⟨t, List.mem_append_left _ ht, e⟩
            · exact ⟨l, by simp, hc.1.symm, by omega, by omega⟩
        · rcases List.mem_append.1 ho with ho | ho
          · obtain ⟨t, ht, e⟩ := hf o ((memo o).2 (.inl ho))
            exact ⟨t, List.mem_append_left _ ht, e⟩
          · rw [List.mem_singleton.1 ho]
            exact ⟨t, List.mem_append_left _ ht, t1, t2⟩
      · rw [if_neg hc]
        have hgl : lvGap m l := by unfold lvGap; omega
        refine ⟨⟨?_, fun o ho => ?_, fun t ht => ?_, fun o ho x h1 h2 => ?_⟩, fun o ho => ?_⟩
        · rw [List.pairwise_append]
          refine ⟨h.gap, List.pairwise_singleton _ _, fun a ha b hb => ?_⟩
          rw [List.mem_singleton.1 hb]
          rcases (memo a).1 ha with ha | rfl
          · have := g2 a ha m (by simp)
            unfold lvGap at this hgl ⊢
            omega
          · exact hgl
        · rcases List.mem_append.1 ho with ho | ho
          · exact h.long o ho
          · rw [List.mem_singleton.1 ho]; exact hlong
        · rcases List.mem_append.1 ht with ht | ht
          · obtain ⟨o, ho, e⟩ := h.cont t ht
            exact ⟨o, List.mem_append_left _ ho, e⟩
          · rw [List.mem_singleton.1 ht]
            exact ⟨l, by simp, rfl, Int.le_refl _, Int.le_refl _⟩
        · rcases List.mem_append.1 ho with ho | ho
          · obtain ⟨t, ht, e⟩ := h.cov o ho x h1 h2
            exact ⟨t, List.mem_append_left _ ht, e⟩
          · rw [List.mem_singleton.1 ho] at h1 h2 ⊢
            exact ⟨l, by simp, rfl, h1, h2⟩
        · rcases List.mem_append.1 ho with ho | ho
          · obtain ⟨t, ht, e⟩ := hf o ho
            exact ⟨t, List.mem_append_left _ ht, e⟩
          · rw [List.mem_singleton.1 ho]; exact ⟨l, by simp, rfl, rfl⟩
theorem mergeL_lv {S S' : List T3} (hs : LvSorted S) (hl : ∀ l ∈ S', l.2.1 < l.2.2) (hp : S.Perm S') : IsLv S' (mergeL S) := by
  have := (merge_lv hs (fun l hm => hl l (hp.subset hm)) S.length (Nat.le_refl _)).1
  rw [List.take_of_length_le (Nat.le_refl _)] at this
  exact this.perm fun l => hp.symm.mem_iff

/-- Segments of one list and of another one that have a place in common are the same. -/
theorem lv_run {S out out' : List T3} (h : IsLv S out) (h' : IsLv S out') {o o' : T3} (ho : o ∈ out) (ho' : o' ∈ out') (hy : o.1 = o'.1) {x : Int} (h1 : o.2.1 ≤ x) (h2 : x < o.2.2) (h3 : o'.2.1 ≤ x) (h4 : x < o'.2.2) : o'.2.1 ≤ o.2.1 ∧ o.2.2 ≤ o'.2.2 := by
  have hl' := h'.long o' ho'
  refine ⟨?_, ?_⟩
  · refine Int.not_lt.1 fun hc => ?_
    obtain ⟨l, hl, e1, e2, e3⟩ := h.cov o ho (o'.2.1 - 1) (by omega) (by omega)
    obtain ⟨p, hp, q1, q2, q3⟩ := h'.cont l hl
    rcases gap_or h'.gap hp ho' with e | e | e
    · rw [e] at q2; omega
    · unfold lvGap at e; omega
    · unfold lvGap at e; omega
  · refine Int.not_lt.1 fun hc => ?_
    obtain ⟨l, hl, e1, e2, e3⟩ := h.cov o ho o'.2.2 (by omega) (by omega)
    obtain ⟨p, hp, q1, q2, q3⟩ := h'.cont l hl
    rcases gap_or h'.gap hp ho' with e | e | e
    · rw [e] at q3; omega
    · unfold lvGap at e; omega
    · unfold lvGap at e; omega
theorem lv_sub {S out out' : List T3} (h : IsLv S out) (h' : IsLv S out') {o : T3} (ho : o ∈ out) : o ∈ out' := by
  have hlo := h.long o ho
  obtain ⟨l, hl, e1, e2, e3⟩ := h.cov o ho o.2.1 (Int.le_refl _) hlo
  obtain ⟨o', ho', q1, q2, q3⟩ := h'.cont l hl
  have hy : o.1 = o'.1 := by omega
  have a := lv_run h h' ho ho' hy (x := o.2.1) (Int.le_refl _) hlo (by omega) (by omega)
  have b := lv_run h' h ho' ho hy.symm (x := o.2.1) (by omega) (by omega) (Int.le_refl _) hlo
  have : o = o' := Prod.ext hy (Prod.ext (by omega) (by omega))
  rw [this]; exact ho'
theorem sorted_ext {out out' : List T3} : out.Pairwise lvGap → out'.Pairwise lvGap → (∀ o ∈ out, o.2.1 < o.2.2) → (∀ o, o ∈ out ↔ o ∈ out') → out = out' := by
  induction out generalizing out' with
  | nil =>
    intro _ _ _ h
    cases out' with
    | nil => rfl
    | cons b l => exact absurd ((h b).2 (by simp)) (by simp)
  | cons a l ih =>
    intro h1 h2 hl h
    cases out' with
    | nil => exact absurd ((h a).1 (by simp)) (by simp)
    | cons b m =>
      rw [List.pairwise_cons] at h1 h2
      have la := hl a (by simp)
      have lb := hl b ((h b).2 (by simp))
      have e : a = b := by
        rcases List.mem_cons.1 ((h a).1 (by simp)) with e | e
        · exact e
        · rcases List.mem_cons.1 ((h b).2 (by simp)) with e' | e'
          · exact e'.symm
          · have g1 := h2.1 a e
            have g2 := h1.1 b e'
            unfold lvGap at g1 g2; omega
      subst e
      rw [ih h1.2 h2.2 (fun o ho => hl o (by simp [ho])) fun o => ⟨fun ho => ?_, fun ho => ?_⟩]
      · rcases List.mem_cons.1 ((h o).1 (by simp [ho])) with e | e
        · have := h1.1 o ho; rw [e] at this; unfold lvGap at this; omega
        · exact e
      · rcases List.mem_cons.1 ((h o).2 (by simp [ho])) with e | e
        · have := h2.1 o ho; rw [e] at this; unfold lvGap at this; omega
        · exact e
/-- There is only one. -/
theorem lv_unique {S out out' : List T3} (h : IsLv S out) (h' : IsLv S out') : out = out' :=
  sorted_ext h.gap h'.gap h.long fun _ => ⟨lv_sub h h', lv_sub h' h⟩

end Go.Proofs.YtkdcldbedbagjaaDoor
