/- Texts of my own, merged by program: O1 J1 J2. -/
import Derived.Test.YtgalbokmgffhkaaM14
import Derived.Test.YtgalbokmgffhkaaM13
import Derived.Test.YtgalbokmgffhkaaM18
import Derived.Test.YtgalbokmgffhkaaM04
import Derived.Test.YtgalbokmgffhkaaM06
set_option linter.all false
/- Transducers, plainly: the rows of a product are the rows of the second set of all rows of the first one. No program. -/
namespace Go.Proofs.Ytgalbokmgffhkaa
open Go.Wg

/-! ### rows as tiles -/
structure RowT (l : List Tile) (ts : List Tile) : Prop where
  mem : ∀ t ∈ ts, t ∈ l
  chain : ∀ k, k + 1 < ts.length → tE (ts.getD k t0) = tW (ts.getD (k + 1) t0)
theorem getD_map' {f : Tile → Tile} {ts : List Tile} {k : Nat} (hk : k < ts.length) : (ts.map f).getD k t0 = f (ts.getD k t0) := by
  rw [getD_lt _ _ _ (by simpa using hk), getD_lt _ _ _ hk]; simp
theorem rowT_iff {l : List Tile} {w : Nat} {n s : List Int} : (∃ r ∈ rowsL l w, norths l r = n ∧ souths l r = s) ↔ ∃ ts, ts.length = w ∧ RowT l ts ∧ ts.map tN = n ∧ ts.map tS = s := by
  constructor
  · rintro ⟨r, hr, rfl, rfl⟩
    obtain ⟨h1, h2, h3⟩ := mem_rowsL.1 hr
    refine ⟨r.map (tl l), by simp [h1], ⟨fun t ht => ?_, fun k hk => ?_⟩, by simp [norths], by simp [souths]⟩
    · obtain ⟨i, hi, rfl⟩ := List.mem_map.1 ht
      unfold tl; exact getD_mem (h2 i hi)
    · have hk' : k + 1 < r.length := by simpa using hk
      have e1 : (r.map (tl l)).getD k t0 = tl l (r.getD k 0) := by
        rw [getD_lt _ _ _ (by simp; omega), getD_lt _ _ _ (by omega)]; simp
      have e2 : (r.map (tl l)).getD (k + 1) t0 = tl l (r.getD (k + 1) 0) := by
        rw [getD_lt _ _ _ (by simp; omega), getD_lt _ _ _ hk']; simp
      rw [e1, e2]
      exact h3 k hk'
  · rintro ⟨ts, h1, h2, rfl, rfl⟩
    have hi : ∀ t ∈ ts, l.idxOf t < l.length ∧ tl l (l.idxOf t) = t := fun t ht => by
      have hlt := List.idxOf_lt_length_iff.2 (h2.mem t ht)
      refine ⟨hlt, ?_⟩
      unfold tl
      rw [getD_lt _ _ _ hlt]
      exact List.getElem_idxOf hlt
    have hat : ∀ k (hk : k < ts.length), tl l ((ts.map fun t => l.idxOf t).getD k 0) = ts.getD k t0 := fun k hk => by
      rw [getD_lt _ _ _ (by simpa using hk), getD_lt _ _ _ hk]
      simp only [List.getElem_map]
      exact (hi _ (List.getElem_mem hk)).2
    refine ⟨ts.map fun t => l.idxOf t, mem_rowsL.2 ⟨by simp [h1], fun i hi' => ?_, fun k hk => ?_⟩, ?_, ?_⟩
    · obtain ⟨t, ht, rfl⟩ := List.mem_map.1 hi'
      exact (hi t ht).1
    · have hk' : k + 1 < ts.length := by simpa using hk
      rw [hat k (by omega), hat (k + 1) hk']
      exact h2.chain k hk'
    · simp only [norths, List.map_map]
      exact List.map_congr_left fun t ht => by show tN (tl l (l.idxOf t)) = tN t; rw [(hi t ht).2]
    · simp only [souths, List.map_map]
      exact List.map_congr_left fun t ht => by show tS (tl l (l.idxOf t)) = tS t; rw [(hi t ht).2]

def underL (l : List Tile) (n : List Int) : List (List Int) := rfrom l (some n) n.length [] 255
theorem mem_underL {l : List Tile} (hl : ∀ t ∈ l, colsB t = true) {n s : List Int} : s ∈ underL l n ↔ ∃ ts, ts.length = n.length ∧ RowT l ts ∧ ts.map tN = n ∧ ts.map tS = s := by
  unfold underL
  rw [mem_under hl, rowT_iff]
theorem under_cols {l : List Tile} (hl : ∀ t ∈ l, colsB t = true) {n s : List Int} (h : s ∈ underL l n) : s.length = n.length ∧ ∀ x ∈ s, colB x = true := by
  obtain ⟨ts, h1, h2, _, rfl⟩ := (mem_underL hl).1 h
  refine ⟨by simp [h1], fun x hx => ?_⟩
  obtain ⟨t, ht, rfl⟩ := List.mem_map.1 hx
  have := cols_range (hl t (h2.mem t ht))
  unfold colB
  exact decide_eq_true this.2.2.1

/-! ### products -/
theorem addU_nodup {acc : List Tile} {u : Tile} (h : acc.Nodup) : (addU acc u).Nodup := by
  unfold addU
  split
  · exact h
  · rename_i hu
    refine List.nodup_append.2 ⟨h, by simp, fun a ha b hb e => ?_⟩
    simp at hb
    exact hu (hb ▸ e ▸ ha)
theorem once_nodup (l : List Tile) : (once l).Nodup := by
  have key : ∀ (l acc : List Tile), acc.Nodup → (l.foldl addU acc).Nodup := by
    intro l
    induction l with
    | nil => intro acc h; exact h
    | cons x l ih => intro acc h; exact ih _ (addU_nodup h)
  exact key l [] (by simp)

theorem mem_allP {a b : List Tile} {u : Tile} : u ∈ allP a b ↔ ∃ s ∈ a, ∃ t ∈ b, tS s = tN t ∧ u = pairT s t := by
  simp only [allP, List.mem_flatMap, under1, List.mem_map, List.mem_filter, decide_eq_true_eq]
  constructor
  · rintro ⟨s, hs, t, ⟨ht, h⟩, rfl⟩
    exact ⟨s, hs, t, ht, h, rfl⟩
  · rintro ⟨s, hs, t, ht, h, rfl⟩
    exact ⟨s, hs, t, ⟨ht, h⟩, rfl⟩

def compT (a b : List Tile) (s t : Tile) : Tile := renC (codesP (allP a b)) (pairT s t)
theorem mem_prod {a b : List Tile} {u : Tile} : u ∈ prodT (allP a b) ↔ ∃ s ∈ a, ∃ t ∈ b, tS s = tN t ∧ u = compT a b s t := by
  unfold prodT
  simp only [List.mem_map, mem_once, mem_allP]
  constructor
  · rintro ⟨_, ⟨s, hs, t, ht, h, rfl⟩, rfl⟩
    exact ⟨s, hs, t, ht, h, rfl⟩
  · rintro ⟨s, hs, t, ht, h, rfl⟩
    exact ⟨_, ⟨s, hs, t, ht, h, rfl⟩, rfl⟩

theorem prod_set {a b : List Tile} (ha : IsSet a) (hb : IsSet b) (hF : prodF (allP a b) = false) (hne : prodT (allP a b) ≠ []) : IsSet (prodT (allP a b)) := by
  have hok := allP_ok ha.cols hb.cols
  simp only [prodF, Bool.or_eq_false_iff, decide_eq_false_iff_not] at hF
  have hren : ∀ t ∈ once (allP a b), renC (codesP (allP a b)) t = renS (allP a b) t := fun t ht => ren_eq hok (mem_once.1 ht)
  refine ⟨Nat.pos_of_ne_zero fun h => hne (List.length_eq_zero_iff.1 h), by unfold prodT; rw [List.length_map]; omega, fun t ht => ?_, ?_⟩
  · unfold prodT at ht
    obtain ⟨u, hu, rfl⟩ := List.mem_map.1 ht
    rw [hren u hu]
    have hu' := mem_once.1 hu
    obtain ⟨s, hs, t, ht', h, rfl⟩ := mem_allP.1 hu'
    have c1 := cols_range (ha.cols s hs)
    have c2 := cols_range (hb.cols t ht')
    have hp := hok _ hu'
    have u1 : usedB (allP a b) (tE (pairT s t)).toNat = true := usedB_iff.2 ⟨_, hu', .inl (by omega)⟩
    have u2 : usedB (allP a b) (tW (pairT s t)).toNat = true := usedB_iff.2 ⟨_, hu', .inr (by omega)⟩
    have l1 := cnt_lt (allP a b) (show (tE (pairT s t)).toNat < 64 by omega) u1
    have l2 := cnt_lt (allP a b) (show (tW (pairT s t)).toNat < 64 by omega) u2
    have g1 : colB (tN (renS (allP a b) (pairT s t))) = true := decide_eq_true c1.1
    have g2 : colB (tS (renS (allP a b) (pairT s t))) = true := decide_eq_true c2.2.2.1
    have g3 : colB (tE (renS (allP a b) (pairT s t))) = true := decide_eq_true (by
      show 0 ≤ ((cnt (allP a b) (tE (pairT s t)).toNat : Nat) : Int) ∧ ((cnt (allP a b) (tE (pairT s t)).toNat : Nat) : Int) ≤ 7
      omega)
    have g4 : colB (tW (renS (allP a b) (pairT s t))) = true := decide_eq_true (by
      show 0 ≤ ((cnt (allP a b) (tW (pairT s t)).toNat : Nat) : Int) ∧ ((cnt (allP a b) (tW (pairT s t)).toNat : Nat) : Int) ≤ 7
      omega)
    rw [colsB, g1, g2, g3, g4]; rfl
  · unfold prodT List.Nodup
    rw [List.pairwise_map]
    refine List.Pairwise.imp_of_mem (fun {x y} hx hy hne e => hne ?_) (once_nodup (allP a b))
    rw [hren x hx, hren y hy] at e
    exact renS_inj hok _ (mem_once.1 hx) _ (mem_once.1 hy) e

theorem idxI_inj {cs : List Int} {c d : Int} (hc : c ∈ cs) (hd : d ∈ cs) (h : idxI cs c = idxI cs d) : c = d := by
  unfold idxI at h
  rw [if_pos hc, if_pos hd] at h
  have h1 := List.idxOf_lt_length_iff.2 hc
  have h2 := List.idxOf_lt_length_iff.2 hd
  have e1 := List.getElem_idxOf h1
  have e2 := List.getElem_idxOf h2
  have e3 : cs.idxOf c = cs.idxOf d := by omega
  have : cs[cs.idxOf c]'h1 = cs[cs.idxOf d]'h2 := by simp only [e3]
  rw [e1, e2] at this
  exact this

/-- East of one and West of another meet in the product as they meet in both. -/
theorem comp_meet {a b : List Tile} (ha : IsSet a) (hb : IsSet b) {s t s' t' : Tile} (hs : s ∈ a) (ht : t ∈ b) (h : tS s = tN t) (hs' : s' ∈ a) (ht' : t' ∈ b) (h' : tS s' = tN t') : tE (compT a b s t) = tW (compT a b s' t') ↔ tE s = tW s' ∧ tE t = tW t' := by
  have hok := allP_ok ha.cols hb.cols
  have c1 := cols_range (ha.cols s hs)
  have c2 := cols_range (hb.cols t ht)
  have c3 := cols_range (ha.cols s' hs')
  have c4 := cols_range (hb.cols t' ht')
  have m1 : tE s * 8 + tE t ∈ codesP (allP a b) := (mem_codes hok).2 ⟨pairT s t, mem_allP.2 ⟨s, hs, t, ht, h, rfl⟩, .inl rfl⟩
  have m2 : tW s' * 8 + tW t' ∈ codesP (allP a b) := (mem_codes hok).2 ⟨pairT s' t', mem_allP.2 ⟨s', hs', t', ht', h', rfl⟩, .inr rfl⟩
  show idxI (codesP (allP a b)) (tE s * 8 + tE t) = idxI (codesP (allP a b)) (tW s' * 8 + tW t') ↔ _
  constructor
  · intro e
    have := idxI_inj m1 m2 e
    omega
  · rintro ⟨e1, e2⟩
    rw [e1, e2]

theorem prod_rows {a b : List Tile} (ha : IsSet a) (hb : IsSet b) (hP : ∀ t ∈ prodT (allP a b), colsB t = true) {n s : List Int} : s ∈ underL (prodT (allP a b)) n ↔ ∃ m, m ∈ underL a n ∧ s ∈ underL b m := by
  constructor
  · intro h
    obtain ⟨ts, h1, h2, rfl, rfl⟩ := (mem_underL hP).1 h
    have hch : ∀ u : Tile, ∃ p : Tile × Tile, u ∈ prodT (allP a b) → p.1 ∈ a ∧ p.2 ∈ b ∧ tS p.1 = tN p.2 ∧ u = compT a b p.1 p.2 := fun u => by
      by_cases hu : u ∈ prodT (allP a b)
      · obtain ⟨s, hs, t, ht, he, e⟩ := mem_prod.1 hu
        exact ⟨(s, t), fun _ => ⟨hs, ht, he, e⟩⟩
      · exact ⟨(t0, t0), fun h => absurd h hu⟩
    obtain ⟨F, hF⟩ := Classical.axiomOfChoice hch
    have hm : ∀ k, k < ts.length → ts.getD k t0 ∈ prodT (allP a b) := fun k hk => h2.mem _ (getD_mem hk)
    have hFk := fun k hk => hF _ (hm k hk)
    have meet : ∀ k, k + 1 < ts.length → tE (F (ts.getD k t0)).1 = tW (F (ts.getD (k + 1) t0)).1 ∧ tE (F (ts.getD k t0)).2 = tW (F (ts.getD (k + 1) t0)).2 := fun k hk => by
      obtain ⟨p1, p2, p3, p4⟩ := hFk k (by omega)
      obtain ⟨q1, q2, q3, q4⟩ := hFk (k + 1) hk
      have := h2.chain k hk
      rw [p4, q4] at this
      exact (comp_meet ha hb p1 p2 p3 q1 q2 q3).1 this
    refine ⟨ts.map fun u => tS (F u).1, (mem_underL ha.cols).2 ⟨ts.map fun u => (F u).1, by simp, ⟨fun t ht => ?_, fun k hk => ?_⟩, ?_, by simp⟩, (mem_underL hb.cols).2 ⟨ts.map fun u => (F u).2, by simp, ⟨fun t ht => ?_, fun k hk => ?_⟩, ?_, ?_⟩⟩
    · obtain ⟨u, hu, rfl⟩ := List.mem_map.1 ht
      exact (hF u (h2.mem u hu)).1
    · have hk' : k + 1 < ts.length := by simpa using hk
      rw [getD_map' (by omega), getD_map' hk']
      exact (meet k hk').1
    · rw [List.map_map]
      refine List.map_congr_left fun u hu => ?_
      obtain ⟨_, _, _, e⟩ := hF u (h2.mem u hu)
      conv => rhs; rw [e]
      rfl
    · obtain ⟨u, hu, rfl⟩ := List.mem_map.1 ht
      exact (hF u (h2.mem u hu)).2.1
    · have hk' : k + 1 < ts.length := by simpa using hk
      rw [getD_map' (by omega), getD_map' hk']
      exact (meet k hk').2
    · rw [List.map_map]
      exact List.map_congr_left fun u hu => (hF u (h2.mem u hu)).2.2.1.symm
    · rw [List.map_map]
      refine List.map_congr_left fun u hu => ?_
      obtain ⟨_, _, _, e⟩ := hF u (h2.mem u hu)
      conv => rhs; rw [e]
      rfl
  · rintro ⟨m, h1, h2⟩
    obtain ⟨ss, s1, s2, rfl, rfl⟩ := (mem_underL ha.cols).1 h1
    obtain ⟨tt, t1, t2, e, rfl⟩ := (mem_underL hb.cols).1 h2
    rw [List.length_map] at t1 s1
    have hz : ∀ k, k < ss.length → tS (ss.getD k t0) = tN (tt.getD k t0) := fun k hk => by
      have h3 : (tt.map tN)[k]'(by simp; omega) = (ss.map tS)[k]'(by simpa using hk) := by simp only [e]
      simp only [List.getElem_map] at h3
      rw [getD_lt _ _ _ hk, getD_lt _ _ _ (by omega)]
      exact h3.symm
    have hat : ∀ k, k < ss.length → (List.zipWith (compT a b) ss tt).getD k t0 = compT a b (ss.getD k t0) (tt.getD k t0) := fun k hk => by
      rw [getD_lt _ _ _ (by simp; omega), getD_lt _ _ _ hk, getD_lt _ _ _ (by omega)]; simp
    have hl : (List.zipWith (compT a b) ss tt).length = ss.length := by simp; omega
    refine (mem_underL hP).2 ⟨List.zipWith (compT a b) ss tt, by rw [hl]; simp, ⟨fun u hu => ?_, fun k hk => ?_⟩, ?_, ?_⟩
    · obtain ⟨k, hk, rfl⟩ := List.getElem_of_mem hu
      have hks : k < ss.length := by omega
      have := hat k hks
      rw [getD_lt _ _ _ hk] at this
      rw [this]
      exact mem_prod.2 ⟨_, s2.mem _ (getD_mem hks), _, t2.mem _ (getD_mem (by omega)), hz k hks, rfl⟩
    · have hks : k + 1 < ss.length := by omega
      rw [hat k (by omega), hat (k + 1) hks]
      exact (comp_meet ha hb (s2.mem _ (getD_mem (by omega))) (t2.mem _ (getD_mem (by omega))) (hz k (by omega)) (s2.mem _ (getD_mem hks)) (t2.mem _ (getD_mem (by omega))) (hz (k + 1) hks)).2 ⟨s2.chain k hks, t2.chain k (by omega)⟩
    · refine List.ext_getElem (by rw [List.length_map, hl]; simp) fun k k1 k2 => ?_
      simp only [List.getElem_map, List.getElem_zipWith]
      rfl
    · refine List.ext_getElem (by rw [List.length_map, hl, List.length_map]; omega) fun k k1 k2 => ?_
      simp only [List.getElem_map, List.getElem_zipWith]
      rfl

end Go.Proofs.Ytgalbokmgffhkaa

/- Boards, plainly: how the specification counts them cell by cell. No program. -/
namespace Go.Wg

/-! ### sums -/
def tot {α : Type} (f : α → Nat) : List α → Nat
  | [] => 0
  | x :: l => f x + tot f l
theorem tot_append {α : Type} (f : α → Nat) : ∀ a b : List α, tot f (a ++ b) = tot f a + tot f b
  | [], b => by simp [tot]
  | x :: a, b => by simp only [List.cons_append, tot, tot_append f a b]; omega
theorem tot_flatMap {α β : Type} (f : β → Nat) (g : α → List β) : ∀ a : List α, tot f (a.flatMap g) = tot (fun x => tot f (g x)) a
  | [] => rfl
  | x :: a => by rw [List.flatMap_cons, tot_append, tot_flatMap f g a]; rfl
theorem tot_map {α β : Type} (f : β → Nat) (g : α → β) : ∀ a : List α, tot f (a.map g) = tot (fun x => f (g x)) a
  | [] => rfl
  | x :: a => by rw [List.map_cons]; simp only [tot, tot_map f g a]
theorem tot_congr {α : Type} {f g : α → Nat} : ∀ {a : List α}, (∀ x ∈ a, f x = g x) → tot f a = tot g a
  | [], _ => rfl
  | x :: a, h => by simp only [tot]; rw [h x (by simp), tot_congr fun y hy => h y (by simp [hy])]
theorem tot_zero {α : Type} {f : α → Nat} {a : List α} (h : ∀ x ∈ a, f x = 0) : tot f a = 0 := by
  induction a with
  | nil => rfl
  | cons x a ih => simp only [tot]; rw [h x (by simp), ih fun y hy => h y (by simp [hy])]
theorem tot_pos {α : Type} {f : α → Nat} {a : List α} : 0 < tot f a ↔ ∃ x ∈ a, 0 < f x := by
  induction a with
  | nil => simp [tot]
  | cons x a ih =>
    simp only [tot, List.mem_cons, exists_eq_or_imp, ← ih]
    omega
theorem tot_const {α : Type} : ∀ a : List α, tot (fun _ => 1) a = a.length
  | [] => rfl
  | _ :: a => by simp only [tot, tot_const a, List.length_cons]; omega
theorem tot_add {α : Type} (f g : α → Nat) : ∀ a : List α, tot (fun x => f x + g x) a = tot f a + tot g a
  | [] => rfl
  | x :: a => by simp only [tot, tot_add f g a]; omega
theorem tot_mul {α : Type} (f : α → Nat) (c : Nat) : ∀ a : List α, tot (fun x => f x * c) a = tot f a * c
  | [] => by simp [tot]
  | x :: a => by simp only [tot, tot_mul f c a, Nat.add_mul]
theorem tot_range_eq {f : Nat → Nat} {n i : Nat} (hi : i < n) (h : ∀ j, j < n → j ≠ i → f j = 0) : tot f (List.range n) = f i := by
  induction n with
  | zero => omega
  | succ n ih =>
    rw [List.range_succ, tot_append]
    simp only [tot]
    by_cases e : i = n
    · subst e
      rw [tot_zero fun j hj => h j (by have := List.mem_range.1 hj; omega) (by have := List.mem_range.1 hj; omega)]
      omega
    · rw [ih (by omega) fun j hj hji => h j (by omega) hji, h n (by omega) (by omega)]
      omega
/-- Over places, or over what stands there. -/
theorem tot_places (l : List Tile) (f : Tile → Nat) : tot f l = tot (fun i => f (tl l i)) (List.range l.length) := by
  have key : ∀ n, n ≤ l.length → tot f (l.take n) = tot (fun i => f (tl l i)) (List.range n) := by
    intro n
    induction n with
    | zero => intro _; simp [tot]
    | succ n ih =>
      intro hn
      have hlt : n < l.length := by omega
      rw [List.range_succ, tot_append, ← ih (by omega)]
      have : l.take (n + 1) = l.take n ++ [tl l n] := by rw [List.take_add_one, tl_get hlt]; rfl
      rw [this, tot_append]
      rfl
  have := key l.length (Nat.le_refl _)
  rwa [List.take_of_length_le (Nat.le_refl _)] at this

/-! ### the colours between rows -/
def lineB (l : List Tile) (c : Nat) : Bool := l.any fun t => decide (tN t = (c : Int)) || decide (tS t = (c : Int))
def lineL (l : List Tile) : List Int := ((List.range 8).filter (lineB l)).map fun c : Nat => (c : Int)
theorem mem_line {l : List Tile} (hl : ∀ t ∈ l, colsB t = true) {t : Tile} (ht : t ∈ l) : tN t ∈ lineL l ∧ tS t ∈ lineL l := by
  have hr := cols_range (hl t ht)
  simp only [lineL, List.mem_map, List.mem_filter, List.mem_range, lineB, List.any_eq_true, Bool.or_eq_true, decide_eq_true_eq]
  exact ⟨⟨(tN t).toNat, ⟨by omega, t, ht, .inl (by omega)⟩, by omega⟩, ⟨(tS t).toNat, ⟨by omega, t, ht, .inr (by omega)⟩, by omega⟩⟩
theorem line_len (l : List Tile) : (lineL l).length ≤ 8 := by
  rw [lineL, List.length_map]
  have := List.length_filter_le (lineB l) (List.range 8)
  simpa using this
theorem line_pos {l : List Tile} (hs : IsSet l) : 0 < (lineL l).length := by
  have h0 := hs.pos
  exact List.length_pos_of_mem (mem_line hs.cols (List.getElem_mem (show 0 < l.length by omega))).1
def lidx (l : List Tile) (c : Int) : Nat := (lineL l).idxOf c
theorem lidx_lt {l : List Tile} {c : Int} (h : c ∈ lineL l) : lidx l c < (lineL l).length := List.idxOf_lt_length_iff.2 h
theorem lidx_get {l : List Tile} {c : Int} (h : c ∈ lineL l) : (lineL l).getD (lidx l c) 0 = c := by
  have hlt := lidx_lt h
  rw [List.getD_eq_getElem?_getD, List.getElem?_eq_getElem hlt]
  exact List.getElem_idxOf hlt

/-! ### states: a digit for each column, and the East on the left -/
def encD (n : Nat) : List Nat → Nat
  | [] => 0
  | a :: d => a + n * encD n d
def encS (n : Nat) (d : List Nat) (e : Nat) : Nat := 8 * encD n d + e
theorem encD_lt {n : Nat} : ∀ {d : List Nat}, (∀ a ∈ d, a < n) → encD n d < n ^ d.length
  | [], _ => by simp [encD]
  | a :: d, h => by
    have h1 := encD_lt (n := n) (d := d) fun b hb => h b (by simp [hb])
    have h2 := h a (by simp)
    rw [encD, List.length_cons, Nat.pow_succ, Nat.mul_comm (n ^ d.length) n]
    have : n * (encD n d + 1) ≤ n * n ^ d.length := Nat.mul_le_mul_left n h1
    rw [Nat.mul_add] at this
    omega
theorem encD_digit {n : Nat} : ∀ {d : List Nat} {x : Nat}, (∀ a ∈ d, a < n) → x < d.length → encD n d / n ^ x % n = d.getD x 0
  | a :: d, 0, h, _ => by
    have h2 := h a (by simp)
    rw [encD, Nat.pow_zero, Nat.div_one, Nat.add_mul_mod_self_left, Nat.mod_eq_of_lt h2]
    rfl
  | a :: d, x + 1, h, hx => by
    have h2 := h a (by simp)
    have hn : 0 < n := by omega
    rw [encD, Nat.pow_succ, Nat.mul_comm (n ^ x) n, ← Nat.div_div_eq_div_mul, Nat.add_mul_div_left _ _ hn, Nat.div_eq_of_lt h2, Nat.zero_add]
    rw [encD_digit (fun b hb => h b (by simp [hb])) (by simpa using hx)]
    rfl
theorem encD_set {n a : Nat} : ∀ {d : List Nat} {x : Nat}, x < d.length → encD n (d.set x a) + d.getD x 0 * n ^ x = encD n d + a * n ^ x
  | b :: d, 0, _ => by simp [encD]; omega
  | b :: d, x + 1, hx => by
    have := encD_set (n := n) (a := a) (d := d) (x := x) (by simpa using hx)
    simp only [List.set_cons_succ, encD, List.getD_cons_succ, Nat.pow_succ]
    have e1 : n * (encD n (d.set x a) + d.getD x 0 * n ^ x) = n * (encD n d + a * n ^ x) := by rw [this]
    rw [Nat.mul_add, Nat.mul_add] at e1
    have e2 : ∀ b, n * (b * n ^ x) = b * (n ^ x * n) := fun b => by rw [Nat.mul_comm n, Nat.mul_assoc]
    rw [e2, e2] at e1
    omega
theorem encD_ge {n : Nat} : ∀ {d : List Nat} {x : Nat}, x < d.length → d.getD x 0 * n ^ x ≤ encD n d
  | b :: d, 0, _ => by simp [encD]
  | b :: d, x + 1, hx => by
    have := encD_ge (n := n) (d := d) (x := x) (by simpa using hx)
    simp only [encD, List.getD_cons_succ, Nat.pow_succ]
    have e1 := Nat.mul_le_mul_left n this
    have e2 : n * (d.getD x 0 * n ^ x) = d.getD x 0 * (n ^ x * n) := by rw [Nat.mul_comm n, Nat.mul_assoc]
    omega
theorem encD_zero (n w : Nat) : encD n (List.replicate w 0) = 0 := by
  induction w with
  | zero => rfl
  | succ w ih => rw [List.replicate_succ, encD, ih]; simp

/-- What a state's digit is. -/
def aboveS (l : List Tile) (w p s : Nat) : Nat := s / ((lineL l).length ^ (p % w) * 8) % (lineL l).length
def misfit (l : List Tile) (w p s : Nat) (t : Tile) : Prop := (w ≤ p ∧ (lineL l).getD (aboveS l w p s) 0 ≠ tN t) ∨ (0 < p % w ∧ ((s % 8 : Nat) : Int) ≠ tW t)
instance (l : List Tile) (w p s : Nat) (t : Tile) : Decidable (misfit l w p s t) := inferInstanceAs (Decidable (_ ∨ _))
/-- The state behind a tile. -/
def putM (l : List Tile) (w p s : Nat) (t : Tile) : Option Nat :=
  if misfit l w p s t then none
  else some (s - aboveS l w p s * ((lineL l).length ^ (p % w) * 8) + lidx l (tS t) * ((lineL l).length ^ (p % w) * 8) - s % 8 + (tE t).toNat)

theorem put_enc {l : List Tile} (hl : ∀ t ∈ l, colsB t = true) {w p e : Nat} {d : List Nat} {t : Tile} (ht : t ∈ l) (hd : d.length = w) (hw : 0 < w) (hdn : ∀ a ∈ d, a < (lineL l).length) (he : e < 8) :
    putM l w p (encS (lineL l).length d e) t = if (w ≤ p ∧ (lineL l).getD (d.getD (p % w) 0) 0 ≠ tN t) ∨ (0 < p % w ∧ (e : Int) ≠ tW t) then none else some (encS (lineL l).length (d.set (p % w) (lidx l (tS t))) (tE t).toNat) := by
  have hx : p % w < d.length := by rw [hd]; exact Nat.mod_lt _ hw
  have hdig := encD_digit hdn hx
  have hab : aboveS l w p (encS (lineL l).length d e) = d.getD (p % w) 0 := by
    rw [aboveS, encS, Nat.mul_comm ((lineL l).length ^ (p % w)) 8, ← Nat.div_div_eq_div_mul, Nat.mul_add_div (by omega), Nat.div_eq_of_lt he, Nat.add_zero]
    exact hdig
  have hmod : encS (lineL l).length d e % 8 = e := by rw [encS, Nat.mul_add_mod, Nat.mod_eq_of_lt he]
  have hset := encD_set (n := (lineL l).length) (a := lidx l (tS t)) hx
  have hge := encD_ge (n := (lineL l).length) hx
  have e8 : ∀ a, a * ((lineL l).length ^ (p % w) * 8) = 8 * (a * (lineL l).length ^ (p % w)) := fun a => by rw [← Nat.mul_assoc, Nat.mul_comm]
  have hmis : misfit l w p (encS (lineL l).length d e) t ↔ ((w ≤ p ∧ (lineL l).getD (d.getD (p % w) 0) 0 ≠ tN t) ∨ (0 < p % w ∧ (e : Int) ≠ tW t)) := by
    unfold misfit
    rw [hab, hmod]
  unfold putM
  by_cases hc : misfit l w p (encS (lineL l).length d e) t
  · rw [if_pos hc, if_pos (hmis.1 hc)]
  · rw [if_neg hc, if_neg fun h => hc (hmis.2 h), hab, hmod, e8, e8]
    congr 1
    unfold encS
    omega

theorem getD_set_ne {d : List Nat} {x j a : Nat} (h : x ≠ j) : (d.set x a).getD j 0 = d.getD j 0 := by
  rw [List.getD_eq_getElem?_getD, List.getD_eq_getElem?_getD, List.getElem?_set_ne h]

/-- In how many ways a board goes on, q cells being left. -/
def Wq (l : List Tile) (w h : Nat) : Nat → Nat → Nat
  | 0, _ => 1
  | q + 1, s => tot (fun t => match putM l w (w * h - (q + 1)) s t with
    | some s' => Wq l w h q s'
    | none => 0) l

/-- Does the row lie under these colours, from column x on? -/
def matchN (l : List Tile) (d : List Nat) (x w : Nat) (r : List Nat) : Prop := ∀ j, x ≤ j → j < w → (lineL l).getD (d.getD j 0) 0 = tN (tl l (r.getD j 0))
instance (l : List Tile) (d : List Nat) (x w : Nat) (r : List Nat) : Decidable (matchN l d x w r) :=
  if h : ∀ j ∈ List.range w, x ≤ j → (lineL l).getD (d.getD j 0) 0 = tN (tl l (r.getD j 0)) then .isTrue fun j hx hj => h j (List.mem_range.2 hj) hx
  else .isFalse fun g => h fun j hj hx => g j hx (List.mem_range.1 hj)
def endE (l : List Tile) (r : List Nat) : Nat := (tE (tl l (r.getLastD 0))).toNat
def digS (l : List Tile) (r : List Nat) : List Nat := (souths l r).map (lidx l)

theorem exts_len {l : List Tile} {m : Nat} {r q : List Nat} (h : q ∈ exts l m r) : q.length = r.length + m := by
  obtain ⟨s, rfl, hs, _⟩ := (mem_exts m r q).1 h
  simp [hs]

/-- The rest of a row, cell by cell and tile by tile. -/
theorem row_ways {l : List Tile} (hs : IsSet l) {w h k y : Nat} (hw : 0 < w) (hy : y + 1 + k = h) : ∀ (m x : Nat) (r d : List Nat) (e : Nat), x + m = w → r.length = x → (∀ i ∈ r, i < l.length) → d.length = w → (∀ a ∈ d, a < (lineL l).length) → e < 8 → (0 < x → e = endE l r) →
    Wq l w h (k * w + m) (encS (lineL l).length d e) = tot (fun q => if y = 0 ∨ matchN l d x w q then Wq l w h (k * w) (encS (lineL l).length (d.take x ++ (digS l q).drop x) (endE l q)) else 0) (exts l m r)
  | 0, x, r, d, e, hxm, hr, hrl, hd, hdn, he, hre => by
    have hm : y = 0 ∨ matchN l d x w r := .inr fun j h1 h2 => by omega
    have e1 : d.take x = d := List.take_of_length_le (by omega)
    have e2 : (digS l r).drop x = [] := List.drop_eq_nil_of_le (by simp [digS, souths]; omega)
    simp only [exts, tot]
    rw [if_pos hm, e1, e2, List.append_nil, hre (by omega)]
    simp only [Nat.add_zero]
  | m + 1, x, r, d, e, hxm, hr, hrl, hd, hdn, he, hre => by
    have hxw : x < w := by omega
    have hp : w * h - (k * w + m + 1) = y * w + x := by
      have : w * h = y * w + w + k * w := by rw [← hy, Nat.mul_comm, Nat.add_mul, Nat.add_mul, Nat.one_mul]
      omega
    have hpm : (y * w + x) % w = x := by rw [Nat.add_comm, Nat.add_mul_mod_self_right, Nat.mod_eq_of_lt hxw]
    have hpw : (w ≤ y * w + x) ↔ ¬ y = 0 := by
      constructor
      · intro h1 h2; subst h2; omega
      · intro h1
        have : 1 * w ≤ y * w := Nat.mul_le_mul_right w (by omega)
        omega
    show tot (fun t => match putM l w (w * h - (k * w + m + 1)) (encS (lineL l).length d e) t with
      | some s' => Wq l w h (k * w + m) s'
      | none => 0) l = _
    rw [hp, tot_places, exts, tot_flatMap]
    refine tot_congr fun i hi => ?_
    have hil := List.mem_range.1 hi
    have htm : tl l i ∈ l := by unfold tl; exact getD_mem hil
    have hcr := cols_range (hs.cols _ htm)
    rw [put_enc hs.cols htm hd hw hdn he, hpm]
    have hfit : fits l r i = true ↔ ¬ (0 < x ∧ (e : Int) ≠ tW (tl l i)) := by
      unfold fits
      simp only [Bool.or_eq_true, decide_eq_true_eq]
      by_cases hx0 : x = 0
      · have : r = [] := List.length_eq_zero_iff.1 (by omega)
        simp [this, hx0]
      · have hne : r ≠ [] := fun h0 => hx0 (by rw [← hr, h0]; rfl)
        have hel := hre (by omega)
        have hlast : r.getLastD 0 < l.length := by
          refine hrl _ ?_
          rw [List.getLastD_eq_getLast?, List.getLast?_eq_some_getLast hne]
          exact List.getLast_mem hne
        have hlc := cols_range (hs.cols (tl l (r.getLastD 0)) (by unfold tl; exact getD_mem hlast))
        unfold endE at hel
        constructor
        · rintro (h1 | h1)
          · exact absurd h1 hne
          · rintro ⟨_, h2⟩; exact h2 (by omega)
        · intro h1
          right
          by_cases h2 : (e : Int) = tW (tl l i)
          · omega
          · exact absurd ⟨by omega, h2⟩ h1
    by_cases hf : fits l r i = true
    case neg =>
      rw [if_neg hf, if_pos (.inr (Classical.byContradiction fun h1 => hf (hfit.2 h1)))]
      rfl
    rw [if_pos hf]
    have hq : ∀ q ∈ exts l m (r ++ [i]), q.length = w ∧ q.getD x 0 = i := fun q hq => by
      obtain ⟨s, rfl, hs1, _⟩ := (mem_exts m (r ++ [i]) q).1 hq
      refine ⟨by simp; omega, ?_⟩
      rw [List.getD_eq_getElem?_getD, List.append_assoc, List.getElem?_append_right (by omega), hr, Nat.sub_self]
      rfl
    by_cases hn : y = 0 ∨ (lineL l).getD (d.getD x 0) 0 = tN (tl l i)
    · have hput : ¬ ((w ≤ y * w + x ∧ (lineL l).getD (d.getD x 0) 0 ≠ tN (tl l i)) ∨ (0 < x ∧ (e : Int) ≠ tW (tl l i))) := by
        rintro (⟨h1, h2⟩ | h1)
        · rcases hn with h3 | h3
          · exact (hpw.1 h1) h3
          · exact h2 h3
        · exact (hfit.1 hf) h1
      rw [if_neg hput]
      dsimp only
      rw [row_ways hs hw hy m (x + 1) (r ++ [i]) (d.set x (lidx l (tS (tl l i)))) (tE (tl l i)).toNat (by omega) (by simp [hr]) (fun j hj => by
        rcases List.mem_append.1 hj with h1 | h1
        · exact hrl j h1
        · simp at h1; rw [h1]; exact hil) (by simp [hd]) (fun a ha => by
        rcases List.mem_or_eq_of_mem_set ha with h1 | h1
        · exact hdn a h1
        · rw [h1]; exact lidx_lt (mem_line hs.cols htm).2) (by omega) (fun _ => by simp [endE])]
      refine tot_congr fun q hqm => ?_
      obtain ⟨hql, hqx⟩ := hq q hqm
      have hmm : (y = 0 ∨ matchN l (d.set x (lidx l (tS (tl l i)))) (x + 1) w q) ↔ (y = 0 ∨ matchN l d x w q) := by
        constructor
        · rintro (h1 | h1)
          · exact .inl h1
          · rcases hn with h2 | h2
            · exact .inl h2
            · refine .inr fun j h3 h4 => ?_
              by_cases hjx : j = x
              · subst hjx; rw [hqx]; exact h2
              · have := h1 j (by omega) h4
                rwa [getD_set_ne (by omega)] at this
        · rintro (h1 | h1)
          · exact .inl h1
          · refine .inr fun j h3 h4 => ?_
            rw [getD_set_ne (by omega)]
            exact h1 j (by omega) h4
      have hdd : (d.set x (lidx l (tS (tl l i)))).take (x + 1) ++ (digS l q).drop (x + 1) = d.take x ++ (digS l q).drop x := by
        have hxd : x < (d.set x (lidx l (tS (tl l i)))).length := by simp; omega
        rw [List.take_add_one, List.getElem?_eq_getElem hxd, List.getElem_set_self, List.take_set_of_le (Nat.le_refl _)]
        have hxq : x < (digS l q).length := by simp [digS, souths]; omega
        rw [List.drop_eq_getElem_cons hxq]
        have hxq' : x < q.length := by omega
        have : (digS l q)[x] = lidx l (tS (tl l i)) := by
          have h5 : q[x] = i := by
            rw [List.getD_eq_getElem?_getD, List.getElem?_eq_getElem hxq'] at hqx
            exact hqx
          simp [digS, souths, h5]
        rw [this]
        simp
      by_cases hc : y = 0 ∨ matchN l d x w q
      · rw [if_pos hc, if_pos (hmm.2 hc), hdd]
      · rw [if_neg hc, if_neg fun h1 => hc (hmm.1 h1)]
    · have hput : (w ≤ y * w + x ∧ (lineL l).getD (d.getD x 0) 0 ≠ tN (tl l i)) ∨ (0 < x ∧ (e : Int) ≠ tW (tl l i)) := by
        left
        refine ⟨hpw.2 fun h1 => hn (.inl h1), fun h1 => hn (.inr h1)⟩
      rw [if_pos hput]
      symm
      refine tot_zero fun q hqm => ?_
      obtain ⟨hql, hqx⟩ := hq q hqm
      rw [if_neg]
      rintro (h1 | h1)
      · exact hn (.inl h1)
      · exact hn (.inr (by have := h1 x (Nat.le_refl _) hxw; rwa [hqx] at this))

end Go.Wg

/- Boards, plainly: cell by cell is row by row, from above is from below. No program. -/
namespace Go.Proofs.Ytgalbokmgffhkaa
open Go.Wg

/-- In how many ways k rows lie under colours. -/
def Bk (l : List Tile) (w : Nat) : Nat → Int → Nat
  | 0, _ => 1
  | k + 1, c => tot (fun r => if code (norths l r) = c then Bk l w k (code (souths l r)) else 0) (rowsL l w)

theorem line_range {l : List Tile} {c : Int} (h : c ∈ lineL l) : 0 ≤ c ∧ c ≤ 7 := by
  simp only [lineL, List.mem_map, List.mem_filter, List.mem_range] at h
  obtain ⟨n, ⟨hn, _⟩, rfl⟩ := h
  omega

theorem row_line {l : List Tile} (hs : IsSet l) {w : Nat} {r : List Nat} (hr : r ∈ rowsL l w) : r.length = w ∧ (∀ c ∈ norths l r, c ∈ lineL l) ∧ (∀ c ∈ souths l r, c ∈ lineL l) ∧ endE l r < 8 := by
  obtain ⟨h1, h2, _⟩ := mem_rowsL.1 hr
  have hm : ∀ i ∈ r, tl l i ∈ l := fun i hi => by unfold tl; exact getD_mem (h2 i hi)
  refine ⟨h1, fun c hc => ?_, fun c hc => ?_, ?_⟩
  · simp only [norths, List.mem_map] at hc
    obtain ⟨i, hi, rfl⟩ := hc
    exact (mem_line hs.cols (hm i hi)).1
  · simp only [souths, List.mem_map] at hc
    obtain ⟨i, hi, rfl⟩ := hc
    exact (mem_line hs.cols (hm i hi)).2
  · unfold endE
    have hlt : r.getLastD 0 < l.length := by
      by_cases h0 : r = []
      · rw [h0]; have := hs.pos; simp; omega
      · refine h2 _ ?_
        rw [List.getLastD_eq_getLast?, List.getLast?_eq_some_getLast h0]
        exact List.getLast_mem h0
    have := cols_range (hs.cols (tl l (r.getLastD 0)) (by unfold tl; exact getD_mem hlt))
    omega

theorem match_iff {l : List Tile} {w : Nat} {cs : List Int} {r : List Nat} (hc : ∀ c ∈ cs, c ∈ lineL l) (hw : cs.length = w) (hr : r.length = w) (hn : ∀ c ∈ norths l r, c ∈ lineL l) : matchN l (cs.map (lidx l)) 0 w r ↔ code (norths l r) = code cs := by
  have hlen : (norths l r).length = cs.length := by simp [norths]; omega
  have e : matchN l (cs.map (lidx l)) 0 w r ↔ norths l r = cs := by
    constructor
    · intro h
      refine List.ext_getElem hlen fun j h1 h2 => ?_
      have hj := h j (by omega) (by omega)
      have hjr : j < r.length := by omega
      rw [List.getD_eq_getElem?_getD (l := cs.map (lidx l)), List.getElem?_map, List.getElem?_eq_getElem h2] at hj
      simp only [Option.map_some, Option.getD_some] at hj
      rw [lidx_get (hc _ (List.getElem_mem h2))] at hj
      rw [hj]
      simp [norths, List.getD_eq_getElem?_getD, hjr]
    · intro h j _ hj
      have hjc : j < cs.length := by omega
      have hjr : j < r.length := by omega
      rw [List.getD_eq_getElem?_getD (l := cs.map (lidx l)), List.getElem?_map, List.getElem?_eq_getElem hjc]
      simp only [Option.map_some, Option.getD_some]
      rw [lidx_get (hc _ (List.getElem_mem hjc))]
      have : cs[j] = (norths l r)[j]'(by omega) := by simp only [h]
      rw [this]
      simp [norths, List.getD_eq_getElem?_getD, hjr]
  rw [e]
  exact ⟨fun h => by rw [h], fun h => code_inj hlen (fun x hx => line_range (hn x hx)) (fun x hx => line_range (hc x hx)) h⟩

theorem ways_rows {l : List Tile} (hs : IsSet l) {w h : Nat} (hw : 0 < w) : ∀ (k y : Nat) (cs : List Int) (e : Nat), 0 < y → y + k = h → cs.length = w → (∀ c ∈ cs, c ∈ lineL l) → e < 8 →
    Wq l w h (k * w) (encS (lineL l).length (cs.map (lidx l)) e) = Bk l w k (code cs)
  | 0, y, cs, e, hy, hyk, hcl, hc, he => by simp [Wq, Bk]
  | k + 1, y, cs, e, hy, hyk, hcl, hc, he => by
    rw [Nat.add_mul, Nat.one_mul, row_ways hs hw (y := y) (by omega) w 0 [] (cs.map (lidx l)) e (by omega) rfl (by simp) (by simpa using hcl) (fun a ha => by
      obtain ⟨c, hcm, rfl⟩ := List.mem_map.1 ha
      exact lidx_lt (hc c hcm)) he (by omega)]
    show _ = tot _ (rowsL l w)
    refine tot_congr fun r hr => ?_
    obtain ⟨hrl, hn, hso, hE⟩ := row_line hs hr
    have hm := match_iff hc hcl hrl hn
    by_cases hcn : code (norths l r) = code cs
    · rw [if_pos (.inr (hm.2 hcn)), if_pos hcn]
      have hsl : (souths l r).length = w := by simp [souths, hrl]
      have := ways_rows (h := h) hs hw k (y + 1) (souths l r) (endE l r) (by omega) (by omega) hsl hso hE
      simpa [digS] using this
    · rw [if_neg hcn, if_neg]
      rintro (h1 | h1)
      · omega
      · exact hcn (hm.1 h1)

/-- All of a board. -/
theorem ways_all {l : List Tile} (hs : IsSet l) {w h : Nat} (hw : 0 < w) (hh : 0 < h) : Wq l w h (w * h) 0 = tot (fun r => Bk l w (h - 1) (code (souths l r))) (rowsL l w) := by
  have h0 : 0 = encS (lineL l).length (List.replicate w 0) 0 := by rw [encS, encD_zero]
  have hlp := line_pos hs
  have e1 : w * h = (h - 1) * w + w := by
    have : h = h - 1 + 1 := by omega
    conv => lhs; rw [this, Nat.mul_comm, Nat.add_mul, Nat.one_mul]
  have key := row_ways hs hw (h := h) (k := h - 1) (y := 0) (by omega) w 0 [] (List.replicate w 0) 0 (by omega) rfl (by simp) (by simp) (fun a ha => by rw [List.eq_of_mem_replicate ha]; exact hlp) (by omega) (by omega)
  rw [← h0, ← e1] at key
  rw [key]
  show tot _ (rowsL l w) = _
  refine tot_congr fun r hr => ?_
  obtain ⟨hrl, hn, hso, hE⟩ := row_line hs hr
  rw [if_pos (.inl rfl)]
  have hsl : (souths l r).length = w := by simp [souths, hrl]
  have := ways_rows (h := h) hs hw (h - 1) 1 (souths l r) (endE l r) (by omega) (by omega) hsl hso hE
  simpa [digS] using this

/-! ### from above and from below -/
def Fk (L : List Line) : Nat → Int → Nat
  | 0, _ => 1
  | k + 1, c => tot (fun x => if x.2.2.1 = c then Fk L k x.2.1 else 0) L
def Gk (L : List Line) : Nat → Int → Nat
  | 0, _ => 1
  | k + 1, c => tot (fun x => if x.2.1 = c then Gk L k x.2.2.1 else 0) L
theorem Bk_eq (l : List Tile) (w : Nat) : ∀ (k : Nat) (c : Int), Bk l w k c = Gk (linesL l w) k c
  | 0, _ => rfl
  | k + 1, c => by
    rw [Bk, Gk, linesL, tot_map]
    refine tot_congr fun r _ => ?_
    show _ = if code (norths l r) = c then Gk (linesL l w) k (code (souths l r)) else 0
    rw [← Bk_eq l w k]

theorem tot_swap {α : Type} {N : Nat} {f : α → Int} {g : α → Nat → Nat} : ∀ {L : List α}, (∀ x ∈ L, 0 ≤ f x ∧ f x < N) → tot (fun c : Nat => tot (fun x => if f x = (c : Int) then g x c else 0) L) (List.range N) = tot (fun x => g x (f x).toNat) L
  | [], _ => tot_zero fun _ _ => rfl
  | x :: L, h => by
    simp only [tot]
    rw [tot_add, tot_swap fun y hy => h y (by simp [hy])]
    congr 1
    have hx := h x (by simp)
    rw [tot_range_eq (i := (f x).toNat) (by omega) fun j _ hji => if_neg (by omega), if_pos (by omega)]

theorem fg_step {L : List Line} {N : Nat} (hL : LnOk N L) (k j : Nat) : tot (fun c : Nat => Fk L (k + 1) c * Gk L j c) (List.range N) = tot (fun c : Nat => Fk L k c * Gk L (j + 1) c) (List.range N) := by
  have e1 : tot (fun c : Nat => Fk L (k + 1) c * Gk L j c) (List.range N) = tot (fun c : Nat => tot (fun x => if x.2.2.1 = (c : Int) then Fk L k x.2.1 * Gk L j c else 0) L) (List.range N) := tot_congr fun c _ => by
    rw [Fk, ← tot_mul]
    refine tot_congr fun x _ => ?_
    split
    · rfl
    · simp
  have e2 : tot (fun c : Nat => Fk L k c * Gk L (j + 1) c) (List.range N) = tot (fun c : Nat => tot (fun x => if x.2.1 = (c : Int) then Gk L j x.2.2.1 * Fk L k c else 0) L) (List.range N) := tot_congr fun c _ => by
    rw [Gk, Nat.mul_comm, ← tot_mul]
    refine tot_congr fun x _ => ?_
    split
    · rfl
    · simp
  rw [e1, e2, tot_swap (f := fun x : Line => x.2.2.1) (g := fun x c => Fk L k x.2.1 * Gk L j (c : Int)) fun x hx => (hL x hx).2,
    tot_swap (f := fun x : Line => x.2.1) (g := fun x c => Gk L j x.2.2.1 * Fk L k (c : Int)) fun x hx => (hL x hx).1]
  refine tot_congr fun x hx => ?_
  have := hL x hx
  have a1 : ((x.2.2.1.toNat : Nat) : Int) = x.2.2.1 := by omega
  have a2 : ((x.2.1.toNat : Nat) : Int) = x.2.1 := by omega
  rw [a1, a2, Nat.mul_comm]
theorem fg_all {L : List Line} {N : Nat} (hL : LnOk N L) : ∀ (k j : Nat), tot (fun c : Nat => Fk L k c * Gk L j c) (List.range N) = tot (fun c : Nat => Gk L (k + j) c) (List.range N)
  | 0, j => tot_congr fun c _ => by rw [Fk, Nat.one_mul, Nat.zero_add]
  | k + 1, j => by
    rw [fg_step hL, fg_all hL k (j + 1)]
    rw [show k + (j + 1) = k + 1 + j by omega]
/-- How many boards of h rows there are. -/
def boards (L : List Line) (h : Nat) : Nat := tot (fun x => Gk L (h - 1) x.2.2.1) L
theorem f_total {L : List Line} {N h : Nat} (hL : LnOk N L) (hh : 0 < h) : tot (fun c : Nat => Fk L h c) (List.range N) = boards L h := by
  have h1 := fg_all hL h 0
  have h2 : tot (fun c : Nat => Fk L h c * Gk L 0 c) (List.range N) = tot (fun c : Nat => Fk L h c) (List.range N) := tot_congr fun c _ => by rw [Gk, Nat.mul_one]
  rw [h2] at h1
  rw [h1, Nat.add_zero]
  obtain ⟨m, rfl⟩ : ∃ m, h = m + 1 := ⟨h - 1, by omega⟩
  have h3 : tot (fun c : Nat => Gk L (m + 1) c) (List.range N) = tot (fun c : Nat => tot (fun x => if x.2.1 = (c : Int) then Gk L m x.2.2.1 else 0) L) (List.range N) := rfl
  rw [h3, tot_swap (f := fun x : Line => x.2.1) (g := fun x _ => Gk L m x.2.2.1) fun x hx => (hL x hx).1]
  rfl
theorem ways_boards {l : List Tile} (hs : IsSet l) {w h : Nat} (hw : 0 < w) (hh : 0 < h) : Wq l w h (w * h) 0 = boards (linesL l w) h := by
  rw [ways_all hs hw hh, boards, linesL, tot_map]
  exact tot_congr fun r _ => Bk_eq l w _ _

/-! ### numbers that are capped -/
def capI (n : Nat) : Int := min (n : Int) 1099511627777
theorem capI_add (a b : Nat) : min (capI a + capI b) 1099511627777 = capI (a + b) := by unfold capI; omega
theorem capI_zero : capI 0 = 0 := rfl

theorem stepF_exact {L : List Line} {N : Nat} (hL : LnOk N L) {fr : List Int} {F : Int → Nat} (hf : fr.length = N) (hF : ∀ c : Nat, c < N → fr.getD c 0 = capI (F c)) :
    ∀ (M : List Line) (nx : List Int) (G : Nat → Nat), (∀ x ∈ M, x ∈ L) → nx.length = N → (∀ c, c < N → nx.getD c 0 = capI (G c)) →
      ∀ c, c < N → (M.foldl (stepF fr) nx).getD c 0 = capI (G c + tot (fun x => if x.2.2.1 = (c : Int) then F x.2.1 else 0) M)
  | [], nx, G, _, hn, hG, c, hc => by simp only [List.foldl_nil, tot, Nat.add_zero]; exact hG c hc
  | x :: M, nx, G, hM, hn, hG, c, hc => by
    obtain ⟨⟨x1, x2⟩, x3, x4⟩ := hL x (hM x (by simp))
    rw [List.foldl_cons]
    have hstep : ∀ c, c < N → (stepF fr nx x).getD c 0 = capI (G c + if x.2.2.1 = (c : Int) then F x.2.1 else 0) := fun c hc => by
      unfold stepF
      by_cases e : x.2.2.1.toNat = c
      · subst e
        rw [List.getD_eq_getElem?_getD, List.getElem?_set_self (by omega), Option.getD_some, hG _ hc, hF _ (by omega), if_pos (by omega)]
        have : ((x.2.1.toNat : Nat) : Int) = x.2.1 := by omega
        rw [this, capI_add]
      · rw [List.getD_eq_getElem?_getD, List.getElem?_set_ne e, ← List.getD_eq_getElem?_getD, hG c hc, if_neg (by omega), Nat.add_zero]
    have := stepF_exact hL hf hF M (stepF fr nx x) (fun c => G c + if x.2.2.1 = (c : Int) then F x.2.1 else 0) (fun y hy => hM y (by simp [hy])) (by simp [stepF, hn]) hstep c hc
    rw [this]
    simp only [tot]
    congr 1
    omega

theorem steps_exact {L : List Line} {N : Nat} (hL : LnOk N L) : ∀ k, (stepsL L (List.replicate N 1) k).length = N ∧ ∀ c : Nat, c < N → (stepsL L (List.replicate N 1) k).getD c 0 = capI (Fk L k c)
  | 0 => ⟨by simp [stepsL], fun c hc => by
    rw [stepsL, getD_lt _ _ _ (by simpa using hc), List.getElem_replicate]; rfl⟩
  | k + 1 => by
    obtain ⟨h1, h2⟩ := steps_exact hL k
    have hl : (stepsL L (List.replicate N 1) (k + 1)).length = N := by
      have hr : Rng (List.replicate N 1) := fun x hx => by rw [List.eq_of_mem_replicate hx]; decide
      have := (steps_rng (L := L) hr (k + 1)).2
      simpa using this
    refine ⟨hl, fun c hc => ?_⟩
    have := stepF_exact hL h1 h2 L (List.replicate N 0) (fun _ => 0) (fun x hx => hx) (by simp) (fun c hc => by rw [getD_lt _ _ _ (by simpa using hc), List.getElem_replicate]; rfl) c hc
    rw [stepsL, stepL, h1, this, Nat.zero_add]
    rfl

theorem sumC_exact {fr : List Int} {N : Nat} {G : Nat → Nat} (hf : fr.length = N) (hG : ∀ c, c < N → fr.getD c 0 = capI (G c)) : sumC fr = capI (tot G (List.range N)) := by
  have key : ∀ n, n ≤ N → sumC (fr.take n) = capI (tot G (List.range n)) := by
    intro n
    induction n with
    | zero => intro _; rfl
    | succ n ih =>
      intro hn
      have hlt : n < fr.length := by omega
      rw [take_succ' _ _ hlt, List.range_succ, tot_append]
      have : sumC (fr.take n ++ [fr[n]]) = min (sumC (fr.take n) + fr[n]) 1099511627777 := by
        unfold sumC; rw [List.foldl_append]; rfl
      rw [this, ih (by omega), ← getD_lt fr n 0 hlt, hG n (by omega), capI_add]
      simp [tot]
  have := key N (Nat.le_refl _)
  rwa [List.take_of_length_le (by omega)] at this

/-- What Count counts. -/
theorem count_exact {l : List Tile} (hs : IsSet l) {w h : Nat} (hw : 1 ≤ w ∧ w ≤ 4) (hh : 0 < h) : sumC (stepsL (linesL l w) (List.replicate (8 ^ w) 1) h) = capI (boards (linesL l w) h) := by
  have hL := lines_ok hs hw.2
  obtain ⟨h1, h2⟩ := steps_exact hL h
  rw [sumC_exact h1 h2, f_total hL hh]

end Go.Proofs.Ytgalbokmgffhkaa
