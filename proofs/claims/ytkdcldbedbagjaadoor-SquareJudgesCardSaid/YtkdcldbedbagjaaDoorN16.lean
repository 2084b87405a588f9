/- Texts of my own, merged by program: Ge Nb Nf. -/
import Derived.Test.YtkdcldbedbagjaaDoorN06
import Derived.Test.YtkdcldbedbagjaaDoorN11
import Derived.Test.YtkdcldbedbagjaaDoorN12
import Derived.Test.YtkdcldbedbagjaaDoorN15
set_option linter.all false
/- Spreading over a network, plainly. No program. -/
namespace Go.Dt

/-- One turn more: the ends of all wires with one end in S. -/
def grow (ws : List Wr) (S : Nat → Bool) : Nat → Bool := fun x => S x || ws.any fun e => (S e.1 && decide (e.2 = x)) || (S e.2 && decide (e.1 = x))
def ball (ws : List Wr) (t : Nat) : Nat → Nat → Bool
  | 0 => one t
  | k + 1 => grow ws (ball ws t k)

theorem grow_of {ws : List Wr} {S : Nat → Bool} {x : Nat} (h : S x = true) : grow ws S x = true := by simp [grow, h]
theorem cntS_lt {S T : Nat → Bool} {x : Nat} (hST : ∀ v, S v = true → T v = true) (h1 : S x = false) (h2 : T x = true) : ∀ {n : Nat}, x < n → cntS n S + 1 ≤ cntS n T
  | 0, h => absurd h (by omega)
  | n + 1, h => by
    have le : ∀ n, cntS n S ≤ cntS n T := fun n => by
      induction n with
      | zero => exact Nat.le_refl _
      | succ n ih =>
        simp only [cntS]
        cases a : S n with
        | false => cases T n <;> simp <;> omega
        | true => rw [hST n a]; simp; omega
    simp only [cntS]
    by_cases e : x = n
    · subst e
      have := le x
      rw [h1, h2]; simp; omega
    · have ih := cntS_lt hST h1 h2 (n := n) (by omega)
      cases a : S n with
      | false => cases T n <;> simp <;> omega
      | true => rw [hST n a]; simp; omega

theorem closed_conn {ws : List Wr} {S : Nat → Bool} {t : Nat} (ht : S t = true) (h : ∀ e ∈ ws, (S e.1 = true → S e.2 = true) ∧ (S e.2 = true → S e.1 = true)) {x : Nat} (c : Conn ws t x) : S x = true := by
  induction c with
  | refl => exact ht
  | step _ h2 ih =>
    rcases h2 with h2 | h2
    · exact (h _ h2).1 ih
    · exact (h _ h2).2 ih

theorem ball_t (ws : List Wr) (t : Nat) : ∀ k, ball ws t k t = true
  | 0 => one_self t
  | k + 1 => grow_of (ball_t ws t k)

theorem ball_all {n t : Nat} {ws : List Wr} (hl : Wf n ws) (ht : t < n) : ∀ k, (∀ x, Conn ws t x → ball ws t k x = true) ∨ k + 1 ≤ cntS n (ball ws t k)
  | 0 => .inr (by show 1 ≤ cntS n (one t); rw [cnt_one ht]; exact Nat.le_refl _)
  | k + 1 => by
    rcases ball_all hl ht k with h | h
    · exact .inl fun x c => grow_of (h x c)
    · by_cases hc : ∀ e ∈ ws, (ball ws t k e.1 = true → ball ws t k e.2 = true) ∧ (ball ws t k e.2 = true → ball ws t k e.1 = true)
      · exact .inl fun x c => grow_of (closed_conn (ball_t ws t k) hc c)
      · refine .inr ?_
        have : ∃ x, x < n ∧ ball ws t k x = false ∧ ball ws t (k + 1) x = true := by
          refine Classical.byContradiction fun hn => hc fun e he => ?_
          have hw := hl e he
          refine ⟨fun h1 => ?_, fun h1 => ?_⟩
          · cases h2 : ball ws t k e.2 with
            | true => rfl
            | false =>
              refine absurd ⟨e.2, hw.2.1, h2, ?_⟩ hn
              show grow ws (ball ws t k) e.2 = true
              unfold grow
              rw [Bool.or_eq_true]
              exact .inr (List.any_eq_true.2 ⟨e, he, by simp [h1]⟩)
          · cases h2 : ball ws t k e.1 with
            | true => rfl
            | false =>
              refine absurd ⟨e.1, hw.1, h2, ?_⟩ hn
              show grow ws (ball ws t k) e.1 = true
              unfold grow
              rw [Bool.or_eq_true]
              exact .inr (List.any_eq_true.2 ⟨e, he, by simp [h1]⟩)
        obtain ⟨x, hx, h1, h2⟩ := this
        have := cntS_lt (S := ball ws t k) (T := ball ws t (k + 1)) (fun v hv => grow_of hv) h1 h2 hx
        omega

theorem ball_full {n t : Nat} {ws : List Wr} (hl : Wf n ws) (ht : t < n) {x : Nat} (c : Conn ws t x) : ball ws t n x = true := by
  rcases ball_all hl ht n with h | h
  · exact h x c
  · have := cnt_le (ball ws t n) n
    omega

/-- A network with a tree is connected. -/
theorem trees_conn {n t x : Nat} {ws : List Wr} (ht : t < n) (hx : x < n) (h : trees n ws ≠ 0) : Conn ws t x := by
  have : ∃ s, s.Sublist ws ∧ RF n (one 0) s := Classical.byContradiction fun hn => h (cnt_false fun s hs hr => hn ⟨s, hs, hr⟩)
  obtain ⟨s, hs, hr⟩ := this
  have f : ∀ y, y < n → Conn s y 0 := fun y hy => by
    obtain ⟨r, _, h2, h3⟩ := hr.2 y hy
    rwa [one_iff.1 h2] at h3
  exact ((f t ht).trans (f x hx).symm).mono fun e he => hs.subset he

end Go.Dt

/- Dissections, plainly: every cell lies in just one square; at a level as much comes in from above as goes out below; the network of the levels is connected. -/
namespace Go.Proofs.YtkdcldbedbagjaaDoor
open Go.Lf Go.RowKit Go.Dt

def iv (a b x : Int) : Int := if a ≤ x ∧ x < a + b then 1 else 0
theorem iv_sum {a b : Int} (ha : 0 ≤ a) (hb : 0 ≤ b) : ∀ n : Nat, sumN (fun i => iv a b i) n = max 0 (min (n : Int) (a + b) - a)
  | 0 => by simp only [sumN]; omega
  | n + 1 => by
    simp only [sumN]
    rw [iv_sum ha hb n]
    unfold iv
    split <;> omega
theorem iv_all {a b : Int} (ha : 0 ≤ a) (hb : 0 ≤ b) {n : Nat} (h : a + b ≤ n) : sumN (fun i => iv a b i) n = b := by
  rw [iv_sum ha hb]; omega

/-- A square has a cell. -/
def inQ (s : T3) (x y : Int) : Prop := s.1 ≤ x ∧ x < s.1 + s.2.2 ∧ s.2.1 ≤ y ∧ y < s.2.1 + s.2.2
def covI (s : T3) (x y : Int) : Int := iv s.1 s.2.2 x * iv s.2.1 s.2.2 y
theorem covI_in {s : T3} {x y : Int} (h : inQ s x y) : covI s x y = 1 := by
  unfold covI iv; unfold inQ at h
  rw [if_pos ⟨h.1, h.2.1⟩, if_pos ⟨h.2.2.1, h.2.2.2⟩]; rfl
theorem covI_out {s : T3} {x y : Int} (h : ¬ inQ s x y) : covI s x y = 0 := by
  unfold covI iv; unfold inQ at h
  by_cases h1 : s.1 ≤ x ∧ x < s.1 + s.2.2
  · rw [if_neg (show ¬ (s.2.1 ≤ y ∧ y < s.2.1 + s.2.2) from fun h2 => h ⟨h1.1, h1.2, h2.1, h2.2⟩), Int.mul_zero]
  · rw [if_neg h1, Int.zero_mul]
def covL (L : List T3) (x y : Int) : Int := (L.map fun s => covI s x y).sum
theorem covL_cons (s : T3) (L : List T3) (x y : Int) : covL (s :: L) x y = covI s x y + covL L x y := by
  unfold covL; rw [List.map_cons, List.sum_cons]
theorem covL_none {L : List T3} {x y : Int} (h : ∀ s ∈ L, ¬ inQ s x y) : covL L x y = 0 := by
  induction L with
  | nil => rfl
  | cons s L ih => rw [covL_cons, covI_out (h s (List.mem_cons_self ..)), ih fun o ho => h o (List.mem_cons_of_mem _ ho)]; rfl
theorem covL_sum {W H : Nat} : ∀ {L : List T3}, (∀ s ∈ L, 0 ≤ s.2.2 ∧ 0 ≤ s.1 ∧ s.1 + s.2.2 ≤ W ∧ 0 ≤ s.2.1 ∧ s.2.1 + s.2.2 ≤ H) → sumN (fun x => sumN (fun y => covL L x y) H) W = area L
  | [], _ => sum_none fun x _ => sum_none fun y _ => rfl
  | s :: L, h => by
    have hs := h s (List.mem_cons_self ..)
    have e : ∀ x, x < W → sumN (fun y => covL (s :: L) x y) H = s.2.2 * iv s.1 s.2.2 x + sumN (fun y => covL L x y) H := fun x _ => by
      have e1 : ∀ y, y < H → covL (s :: L) x y = iv s.1 s.2.2 x * iv s.2.1 s.2.2 y + covL L x y := fun y _ => covL_cons ..
      rw [sum_congr e1, sum_add, sum_mul, iv_all hs.2.2.2.1 hs.1 hs.2.2.2.2, Int.mul_comm]
    rw [sum_congr e, sum_add, sum_mul, iv_all hs.2.1 hs.1 hs.2.2.1, covL_sum fun o ho => h o (List.mem_cons_of_mem _ ho)]
    rfl
theorem covL_le {x y : Int} : ∀ {L : List T3}, L.Pairwise (fun o s => overB s o = false) → covL L x y ≤ 1
  | [], _ => by show (0 : Int) ≤ 1; omega
  | s :: L, h => by
    have h' := List.pairwise_cons.1 h
    rw [covL_cons]
    by_cases hs : inQ s x y
    · rw [covI_in hs, covL_none fun o ho hq => ?_]
      · omega
      · have := of_decide_eq_false (h'.1 o ho)
        unfold inQ at hs hq
        omega
    · rw [covI_out hs]
      have := covL_le (x := x) (y := y) h'.2
      omega
theorem sum_full {f : Nat → Int} : ∀ {n : Nat}, (∀ i, i < n → 0 ≤ f i) → sumN f n = 0 → ∀ i, i < n → f i = 0
  | 0, _, _, i, hi => by omega
  | n + 1, h, h0, i, hi => by
    have h1 := sum_nonneg fun i (hi : i < n) => h i (by omega)
    have h2 := h n (by omega)
    simp only [sumN] at h0
    by_cases e : i = n
    · subst e; omega
    · exact sum_full (n := n) (fun i hi => h i (by omega)) (by omega) i (by omega)

structure Diss (W H : Int) (L : List T3) : Prop where
  w : 1 ≤ W
  h : 1 ≤ H
  fit : ∀ s ∈ L, 1 ≤ s.2.2 ∧ 0 ≤ s.1 ∧ s.1 + s.2.2 ≤ W ∧ 0 ≤ s.2.1 ∧ s.2.1 + s.2.2 ≤ H
  one : ∀ s ∈ L, ∀ o ∈ L, ∀ x y, inQ s x y → inQ o x y → s = o
  cov : ∀ x y, 0 ≤ x → x < W → 0 ≤ y → y < H → covL L x y = 1

theorem isB_pair {W H : Int} {L : List T3} (h : isB W H L = true) : L.Pairwise fun o s => overB s o = false := by
  unfold isB at h
  rw [Bool.and_eq_true, List.all_eq_true] at h
  refine List.pairwise_iff_getElem.2 fun i j hi hj hij => ?_
  have := h.1 j (List.mem_range.2 hj)
  unfold stepB at this
  rw [Bool.and_eq_true, List.all_eq_true] at this
  have := this.2 L[i] (List.mem_take_iff_getElem.2 ⟨i, by omega, rfl⟩)
  rw [getD_lt _ _ _ hj] at this
  simpa using this
theorem diss_of {W H : Int} {L : List T3} (hW : rectB W = true) (hH : rectB H = true) (h : isB W H L = true) : Diss W H L := by
  have bW := of_decide_eq_true hW
  have bH := of_decide_eq_true hH
  have fit : ∀ s ∈ L, 1 ≤ s.2.2 ∧ 0 ≤ s.1 ∧ s.1 + s.2.2 ≤ W ∧ 0 ≤ s.2.1 ∧ s.2.1 + s.2.2 ≤ H := fun s hs => by
    have := fits_iff.1 (isB_fits h s hs); omega
  have hp := isB_pair h
  refine ⟨bW.1, bH.1, fit, fun s hs o ho x y h1 h2 => ?_, fun x y x0 x1 y0 y1 => ?_⟩
  · obtain ⟨i, hi, rfl⟩ := List.getElem_of_mem hs
    obtain ⟨j, hj, rfl⟩ := List.getElem_of_mem ho
    have hpe := List.pairwise_iff_getElem.1 hp
    unfold inQ at h1 h2
    rcases Nat.lt_trichotomy i j with e | e | e
    · have := of_decide_eq_false (hpe i j hi hj e); omega
    · subst e; rfl
    · have := of_decide_eq_false (hpe j i hj hi e); omega
  · have ha := isB_area h
    have hs := covL_sum (W := W.toNat) (H := H.toNat) (L := L) fun s hs => by have := fit s hs; omega
    have tot : sumN (fun x => sumN (fun y => 1 - covL L x y) H.toNat) W.toNat = 0 := by
      have e : ∀ x, x < W.toNat → sumN (fun y => 1 - covL L x y) H.toNat = H - sumN (fun y => covL L x y) H.toNat := fun x _ => by
        rw [sum_sub]
        have : ∀ n : Nat, sumN (fun _ => 1) n = n := fun n => by induction n with
          | zero => rfl
          | succ n ih => simp only [sumN]; rw [ih]; omega
        rw [this]; omega
      rw [sum_congr e, sum_sub, hs, ha]
      have : ∀ n : Nat, sumN (fun _ => H) n = n * H := fun n => by induction n with
        | zero => simp [sumN]
        | succ n ih => simp only [sumN]; rw [ih, Int.natCast_succ, Int.add_mul]; omega
      rw [this]
      have : ((W.toNat : Nat) : Int) = W := by omega
      rw [this]; omega
    have nn : ∀ x y : Int, 0 ≤ 1 - covL L x y := fun x y => by have := covL_le (x := x) (y := y) hp; omega
    have h1 := sum_full (f := fun x => sumN (fun y => 1 - covL L x y) H.toNat) (fun x _ => sum_nonneg fun y _ => nn _ _) tot x.toNat (by omega)
    have h2 := sum_full (f := fun y : Nat => 1 - covL L (x.toNat : Int) y) (fun y _ => nn _ _) h1 y.toNat (by omega)
    rw [show ((x.toNat : Nat) : Int) = x by omega, show ((y.toNat : Nat) : Int) = y by omega] at h2
    omega
theorem Diss.ex {W H : Int} {L : List T3} (d : Diss W H L) {x y : Int} (x0 : 0 ≤ x) (x1 : x < W) (y0 : 0 ≤ y) (y1 : y < H) : ∃ s ∈ L, inQ s x y :=
  Classical.byContradiction fun hn => by
    have := d.cov x y x0 x1 y0 y1
    rw [covL_none fun s hs hq => hn ⟨s, hs, hq⟩] at this
    omega
theorem Diss.side {W H : Int} {L : List T3} (d : Diss W H L) : ∀ s ∈ L, 1 ≤ s.2.2 := fun s hs => (d.fit s hs).1

/-! ### levels -/
theorem lvI_eq {S V : List T3} (h : IsLv S V) {v : Nat} (hv : v < V.length) {y x : Int} (h1 : (V.getD v (0, 0, 0)).1 = y) (h2 : (V.getD v (0, 0, 0)).2.1 ≤ x) (h3 : x ≤ (V.getD v (0, 0, 0)).2.2) : lvI V y x = v := by
  unfold lvI
  rw [getD_lt _ _ _ hv] at h1 h2 h3
  rw [List.findIdx_eq hv]
  refine ⟨decide_eq_true ⟨h1, h2, h3⟩, fun j hj => ?_⟩
  have g := List.pairwise_iff_getElem.1 h.gap j v (by omega) hv hj
  unfold lvGap at g
  exact decide_eq_false fun hh => by omega
def Lv (L : List T3) (v : Nat) : T3 := (lvsL L).getD v (0, 0, 0)
theorem side_lv {L : List T3} (hs : ∀ s ∈ L, 1 ≤ s.2.2) {l : T3} (hl : l ∈ sidesL L) {x : Int} (h1 : l.2.1 ≤ x) (h2 : x ≤ l.2.2) :
    lvI (lvsL L) l.1 x < (lvsL L).length ∧ (Lv L (lvI (lvsL L) l.1 x)).1 = l.1 ∧ (Lv L (lvI (lvsL L) l.1 x)).2.1 ≤ l.2.1 ∧ l.2.2 ≤ (Lv L (lvI (lvsL L) l.1 x)).2.2 := by
  obtain ⟨o, ho, e1, e2, e3⟩ := (lvs_lv hs).cont l hl
  obtain ⟨v, hv, rfl⟩ := List.getElem_of_mem ho
  have := lvI_eq (lvs_lv hs) hv (y := l.1) (x := x) (by rw [getD_lt _ _ _ hv]; exact e1) (by rw [getD_lt _ _ _ hv]; omega) (by rw [getD_lt _ _ _ hv]; omega)
  rw [this]
  unfold Lv
  rw [getD_lt _ _ _ hv]
  exact ⟨hv, e1, e2, e3⟩
def tp (L : List T3) (s : T3) : Nat := lvI (lvsL L) s.2.1 s.1
def bt (L : List T3) (s : T3) : Nat := lvI (lvsL L) (s.2.1 + s.2.2) s.1
theorem tp_at {L : List T3} (hs : ∀ s ∈ L, 1 ≤ s.2.2) {s : T3} (h : s ∈ L) : tp L s < (lvsL L).length ∧ (Lv L (tp L s)).1 = s.2.1 ∧ (Lv L (tp L s)).2.1 ≤ s.1 ∧ s.1 + s.2.2 ≤ (Lv L (tp L s)).2.2 := by
  have := hs s h
  exact side_lv hs (mem_sides.2 ⟨s, h, .inl rfl⟩) (Int.le_refl _) (by dsimp only; omega)
theorem bt_at {L : List T3} (hs : ∀ s ∈ L, 1 ≤ s.2.2) {s : T3} (h : s ∈ L) : bt L s < (lvsL L).length ∧ (Lv L (bt L s)).1 = s.2.1 + s.2.2 ∧ (Lv L (bt L s)).2.1 ≤ s.1 ∧ s.1 + s.2.2 ≤ (Lv L (bt L s)).2.2 := by
  have := hs s h
  exact side_lv hs (mem_sides.2 ⟨s, h, .inr rfl⟩) (Int.le_refl _) (by dsimp only; omega)
/-- Two levels with a place in common are one. -/
theorem lv_same {L : List T3} (hs : ∀ s ∈ L, 1 ≤ s.2.2) {u v : Nat} (hu : u < (lvsL L).length) (hv : v < (lvsL L).length) (hy : (Lv L u).1 = (Lv L v).1) {x : Int} (h1 : (Lv L u).2.1 ≤ x) (h2 : x ≤ (Lv L u).2.2) (h3 : (Lv L v).2.1 ≤ x) (h4 : x ≤ (Lv L v).2.2) : u = v :=
  (lvI_eq (lvs_lv hs) hu rfl h1 h2).symm.trans (lvI_eq (lvs_lv hs) hv hy.symm h3 h4)
theorem lv_mem {L : List T3} {v : Nat} (hv : v < (lvsL L).length) : Lv L v ∈ lvsL L := getD_mem hv

section
variable {W H : Int} {L : List T3} (d : Diss W H L)
include d
theorem lv_in {v : Nat} (hv : v < (lvsL L).length) : 0 ≤ (Lv L v).2.1 ∧ (Lv L v).2.1 < (Lv L v).2.2 ∧ (Lv L v).2.2 ≤ W ∧ 0 ≤ (Lv L v).1 ∧ (Lv L v).1 ≤ H := by
  have hl := lvs_lv d.side
  have h1 := hl.long _ (lv_mem hv)
  obtain ⟨l, hl1, a1, a2, a3⟩ := hl.cov _ (lv_mem hv) (Lv L v).2.1 (Int.le_refl _) h1
  obtain ⟨m, hm1, b1, b2, b3⟩ := hl.cov _ (lv_mem hv) ((Lv L v).2.2 - 1) (by omega) (by omega)
  obtain ⟨s, hs, e⟩ := mem_sides.1 hl1
  obtain ⟨o, ho, f⟩ := mem_sides.1 hm1
  have fs := d.fit s hs
  have fo := d.fit o ho
  rcases e with rfl | rfl <;> rcases f with rfl | rfl <;> dsimp only at a1 a2 a3 b1 b2 b3 <;> omega
/-- What is under a level begins at it. -/
theorem lv_down {v : Nat} (hv : v < (lvsL L).length) {x : Int} (h1 : (Lv L v).2.1 ≤ x) (h2 : x < (Lv L v).2.2) {s : T3} (hs : s ∈ L) (hq : inQ s x (Lv L v).1) : s.2.1 = (Lv L v).1 := by
  have hl := lvs_lv d.side
  obtain ⟨l, hl1, a1, a2, a3⟩ := hl.cov _ (lv_mem hv) x h1 h2
  obtain ⟨p, hp, e⟩ := mem_sides.1 hl1
  have fp := d.fit p hp
  rcases e with rfl | rfl <;> dsimp only at a1 a2 a3
  · rw [d.one s hs p hp x (Lv L v).1 hq ⟨a2, a3, by omega, by omega⟩]; exact a1
  · refine Classical.byContradiction fun hn => ?_
    unfold inQ at hq
    have := d.one s hs p hp x ((Lv L v).1 - 1) ⟨hq.1, hq.2.1, by omega, by omega⟩ ⟨a2, a3, by omega, by omega⟩
    rw [this] at hq
    omega
/-- What is over a level ends at it. -/
theorem lv_up {v : Nat} (hv : v < (lvsL L).length) {x : Int} (h1 : (Lv L v).2.1 ≤ x) (h2 : x < (Lv L v).2.2) {s : T3} (hs : s ∈ L) (hq : inQ s x ((Lv L v).1 - 1)) : s.2.1 + s.2.2 = (Lv L v).1 := by
  have hl := lvs_lv d.side
  obtain ⟨l, hl1, a1, a2, a3⟩ := hl.cov _ (lv_mem hv) x h1 h2
  obtain ⟨p, hp, e⟩ := mem_sides.1 hl1
  have fp := d.fit p hp
  rcases e with rfl | rfl <;> dsimp only at a1 a2 a3
  · refine Classical.byContradiction fun hn => ?_
    unfold inQ at hq
    have := d.one s hs p hp x (Lv L v).1 ⟨hq.1, hq.2.1, by omega, by omega⟩ ⟨a2, a3, by omega, by omega⟩
    rw [this] at hq
    omega
  · rw [d.one s hs p hp x ((Lv L v).1 - 1) hq ⟨a2, a3, by omega, by omega⟩]; exact a1
theorem tp_of {v : Nat} (hv : v < (lvsL L).length) {s : T3} (hs : s ∈ L) (hy : s.2.1 = (Lv L v).1) {x : Int} (h1 : (Lv L v).2.1 ≤ x) (h2 : x ≤ (Lv L v).2.2) (h3 : s.1 ≤ x) (h4 : x ≤ s.1 + s.2.2) : tp L s = v := by
  have := tp_at d.side hs
  exact lv_same d.side this.1 hv (by omega) (x := x) (by omega) (by omega) h1 h2
theorem bt_of {v : Nat} (hv : v < (lvsL L).length) {s : T3} (hs : s ∈ L) (hy : s.2.1 + s.2.2 = (Lv L v).1) {x : Int} (h1 : (Lv L v).2.1 ≤ x) (h2 : x ≤ (Lv L v).2.2) (h3 : s.1 ≤ x) (h4 : x ≤ s.1 + s.2.2) : bt L s = v := by
  have := bt_at d.side hs
  exact lv_same d.side this.1 hv (by omega) (x := x) (by omega) (by omega) h1 h2
end

theorem sum_zeros : ∀ M : List T3, (M.map fun _ => (0 : Int)).sum = 0
  | [] => rfl
  | s :: M => by rw [List.map_cons, List.sum_cons, sum_zeros M]; rfl
/-- The sides of chosen squares along a row of cells. -/
theorem row_sum {W a b r : Int} : ∀ {L : List T3} {sel : T3 → Bool}, (∀ s ∈ L, 1 ≤ s.2.2 ∧ 0 ≤ s.1 ∧ s.1 + s.2.2 ≤ W) →
    (L.map fun s => if sel s = true then s.2.2 else 0).sum = sumN (fun x => (L.map fun s => if sel s = true then iv s.1 s.2.2 x else 0).sum) W.toNat
  | [], _, _ => (sum_none fun x _ => rfl).symm
  | s :: L, sel, h => by
    have hs := h s (List.mem_cons_self ..)
    have e : ∀ x, x < W.toNat → ((s :: L).map fun s => if sel s = true then iv s.1 s.2.2 x else 0).sum = (if sel s = true then iv s.1 s.2.2 x else 0) + (L.map fun s => if sel s = true then iv s.1 s.2.2 x else 0).sum := fun x _ => by rw [List.map_cons, List.sum_cons]
    rw [sum_congr e, sum_add, List.map_cons, List.sum_cons, row_sum (a := a) (b := b) (r := r) fun o ho => h o (List.mem_cons_of_mem _ ho)]
    congr 1
    by_cases hb : sel s = true
    · simp only [if_pos hb]
      exact (iv_all hs.2.1 (by omega) (by omega)).symm
    · simp only [if_neg hb]
      exact (sum_zero _).symm
theorem row_level {W a b r : Int} {L : List T3} {sel : T3 → Bool} (hfit : ∀ s ∈ L, 1 ≤ s.2.2 ∧ 0 ≤ s.1 ∧ s.1 + s.2.2 ≤ W) (ha : 0 ≤ a) (hb : b ≤ W) (hab : a ≤ b)
    (h1 : ∀ s ∈ L, ∀ x, a ≤ x → x < b → inQ s x r → sel s = true) (h2 : ∀ s ∈ L, sel s = true → a ≤ s.1 ∧ s.1 + s.2.2 ≤ b ∧ s.2.1 ≤ r ∧ r < s.2.1 + s.2.2) (hc : ∀ x, a ≤ x → x < b → covL L x r = 1) :
    (L.map fun s => if sel s = true then s.2.2 else 0).sum = b - a := by
  rw [row_sum (a := a) (b := b) (r := r) hfit]
  rw [sum_congr (g := fun x => iv a (b - a) x) fun x hx => ?_]
  · exact iv_all ha (by omega) (by omega)
  · by_cases hx : a ≤ (x : Int) ∧ (x : Int) < b
    · rw [show iv a (b - a) x = 1 from if_pos (by omega), ← hc x hx.1 hx.2]
      unfold covL
      congr 1
      refine List.map_congr_left fun s hs => ?_
      by_cases hs1 : sel s = true
      · rw [if_pos hs1]
        have := h2 s hs hs1
        unfold covI
        rw [show iv s.2.1 s.2.2 r = 1 from if_pos this.2.2, Int.mul_one]
      · rw [if_neg hs1]
        exact (covI_out fun hq => hs1 (h1 s hs x hx.1 hx.2 hq)).symm
    · rw [show iv a (b - a) x = 0 from if_neg (by omega)]
      have : ∀ s ∈ L, (if sel s = true then iv s.1 s.2.2 (x : Int) else 0) = 0 := fun s hs => by
        by_cases hs1 : sel s = true
        · rw [if_pos hs1]
          have := h2 s hs hs1
          exact if_neg (by omega)
        · rw [if_neg hs1]
      clear h1 h2 hc hfit
      induction L with
      | nil => rfl
      | cons s L ih => rw [List.map_cons, List.sum_cons, this s (List.mem_cons_self ..), ih fun o ho => this o (List.mem_cons_of_mem _ ho)]; rfl

section
variable {W H : Int} {L : List T3} (d : Diss W H L)
include d
/-- What goes out of a level. -/
theorem lv_out {v : Nat} (hv : v < (lvsL L).length) (hy : (Lv L v).1 < H) : (L.map fun s => if decide (tp L s = v) = true then s.2.2 else 0).sum = (Lv L v).2.2 - (Lv L v).2.1 := by
  have hi := lv_in d hv
  refine row_level (W := W) (r := (Lv L v).1) (fun s hs => by have := d.fit s hs; omega) hi.1 hi.2.2.1 (by omega) (fun s hs x x0 x1 hq => ?_) (fun s hs h => ?_) (fun x x0 x1 => d.cov x _ (by omega) (by omega) (by omega) (by omega))
  · have hy := lv_down d hv x0 x1 hs hq
    unfold inQ at hq
    exact decide_eq_true (tp_of d hv hs hy (x := x) x0 (by omega) hq.1 (by omega))
  · have := of_decide_eq_true h
    have h1 := tp_at d.side hs
    have h2 := d.fit s hs
    rw [this] at h1
    omega
/-- What comes into a level. -/
theorem lv_come {v : Nat} (hv : v < (lvsL L).length) (hy : 0 < (Lv L v).1) : (L.map fun s => if decide (bt L s = v) = true then s.2.2 else 0).sum = (Lv L v).2.2 - (Lv L v).2.1 := by
  have hi := lv_in d hv
  refine row_level (W := W) (r := (Lv L v).1 - 1) (fun s hs => by have := d.fit s hs; omega) hi.1 hi.2.2.1 (by omega) (fun s hs x x0 x1 hq => ?_) (fun s hs h => ?_) (fun x x0 x1 => d.cov x _ (by omega) (by omega) (by omega) (by omega))
  · have hy := lv_up d hv x0 x1 hs hq
    unfold inQ at hq
    exact decide_eq_true (bt_of d hv hs hy (x := x) x0 (by omega) hq.1 (by omega))
  · have := of_decide_eq_true h
    have h1 := bt_at d.side hs
    have h2 := d.fit s hs
    rw [this] at h1
    omega
theorem lv_out0 {v : Nat} (hy : (Lv L v).1 = H) : (L.map fun s => if decide (tp L s = v) = true then s.2.2 else 0).sum = 0 := by
  have : ∀ s ∈ L, (if decide (tp L s = v) = true then s.2.2 else 0) = 0 := fun s hs => if_neg fun h => by
    have := of_decide_eq_true h
    have h1 := tp_at d.side hs
    have h2 := d.fit s hs
    rw [this] at h1
    omega
  rw [List.map_congr_left this, sum_zeros]
theorem lv_come0 {v : Nat} (hy : (Lv L v).1 = 0) : (L.map fun s => if decide (bt L s = v) = true then s.2.2 else 0).sum = 0 := by
  have : ∀ s ∈ L, (if decide (bt L s = v) = true then s.2.2 else 0) = 0 := fun s hs => if_neg fun h => by
    have := of_decide_eq_true h
    have h1 := bt_at d.side hs
    have h2 := d.fit s hs
    rw [this] at h1
    omega
  rw [List.map_congr_left this, sum_zeros]
theorem lv_first {v : Nat} (hv : v < (lvsL L).length) (hy : (Lv L v).1 = 0) : (Lv L v).2.1 = 0 ∧ (Lv L v).2.2 = W := by
  have hi := lv_in d hv
  have hh := d.h
  refine ⟨Classical.byContradiction fun hn => ?_, Classical.byContradiction fun hn => ?_⟩
  · obtain ⟨s, hs, hq⟩ := d.ex (x := (Lv L v).2.1 - 1) (y := 0) (by omega) (by omega) (by omega) (by omega)
    unfold inQ at hq
    have fs := d.fit s hs
    have e := tp_of d hv hs (by omega) (x := (Lv L v).2.1) (by omega) (by omega) (by omega) (by omega)
    have h1 := tp_at d.side hs
    rw [e] at h1
    omega
  · obtain ⟨s, hs, hq⟩ := d.ex (x := (Lv L v).2.2) (y := 0) (by omega) (by omega) (by omega) (by omega)
    unfold inQ at hq
    have fs := d.fit s hs
    have e := tp_of d hv hs (by omega) (x := (Lv L v).2.2) (by omega) (by omega) (by omega) (by omega)
    have h1 := tp_at d.side hs
    rw [e] at h1
    omega
theorem lv_last {v : Nat} (hv : v < (lvsL L).length) (hy : (Lv L v).1 = H) : (Lv L v).2.1 = 0 ∧ (Lv L v).2.2 = W := by
  have hi := lv_in d hv
  have hh := d.h
  refine ⟨Classical.byContradiction fun hn => ?_, Classical.byContradiction fun hn => ?_⟩
  · obtain ⟨s, hs, hq⟩ := d.ex (x := (Lv L v).2.1 - 1) (y := H - 1) (by omega) (by omega) (by omega) (by omega)
    unfold inQ at hq
    have fs := d.fit s hs
    have e := bt_of d hv hs (by omega) (x := (Lv L v).2.1) (by omega) (by omega) (by omega) (by omega)
    have h1 := bt_at d.side hs
    rw [e] at h1
    omega
  · obtain ⟨s, hs, hq⟩ := d.ex (x := (Lv L v).2.2) (y := H - 1) (by omega) (by omega) (by omega) (by omega)
    unfold inQ at hq
    have fs := d.fit s hs
    have e := bt_of d hv hs (by omega) (x := (Lv L v).2.2) (by omega) (by omega) (by omega) (by omega)
    have h1 := bt_at d.side hs
    rw [e] at h1
    omega
theorem lv_gap {u v : Nat} (huv : u < v) (hv : v < (lvsL L).length) : lvGap (Lv L u) (Lv L v) := by
  unfold Lv
  rw [getD_lt _ _ _ hv, getD_lt _ _ _ (by omega)]
  exact List.pairwise_iff_getElem.1 (lvs_lv d.side).gap u v (by omega) hv huv
theorem lv_zero {v : Nat} (hv : v < (lvsL L).length) : (Lv L v).1 = 0 ↔ v = 0 := by
  have hw := d.w
  have hh := d.h
  obtain ⟨s, hs, hq⟩ := d.ex (x := 0) (y := 0) (by omega) (by omega) (by omega) (by omega)
  unfold inQ at hq
  have fs := d.fit s hs
  have h1 := tp_at d.side hs
  have key : ∀ {v}, v < (lvsL L).length → (Lv L v).1 = 0 → v = 0 := fun {v} hv hy => by
    refine Classical.byContradiction fun hn => ?_
    have g := lv_gap d (u := 0) (v := v) (by omega) hv
    have f := lv_first d hv hy
    have i0 := lv_in d (v := 0) (by omega)
    unfold lvGap at g
    omega
  refine ⟨key hv, fun h => ?_⟩
  have := key h1.1 (by omega)
  rw [this] at h1
  rw [h]; omega
theorem lv_end {v : Nat} (hv : v < (lvsL L).length) : (Lv L v).1 = H ↔ v = (lvsL L).length - 1 := by
  have hw := d.w
  have hh := d.h
  obtain ⟨s, hs, hq⟩ := d.ex (x := 0) (y := H - 1) (by omega) (by omega) (by omega) (by omega)
  unfold inQ at hq
  have fs := d.fit s hs
  have h1 := bt_at d.side hs
  have key : ∀ {v}, v < (lvsL L).length → (Lv L v).1 = H → v = (lvsL L).length - 1 := fun {v} hv hy => by
    refine Classical.byContradiction fun hn => ?_
    have g := lv_gap d (u := v) (v := (lvsL L).length - 1) (by omega) (by omega)
    have f := lv_last d hv hy
    have i0 := lv_in d (v := (lvsL L).length - 1) (by omega)
    unfold lvGap at g
    omega
  refine ⟨key hv, fun h => ?_⟩
  have := key h1.1 (by omega)
  rw [this] at h1
  rw [h]; omega
theorem lv_two : 2 ≤ (lvsL L).length := by
  have hw := d.w
  have hh := d.h
  obtain ⟨s, hs, hq⟩ := d.ex (x := 0) (y := 0) (by omega) (by omega) (by omega) (by omega)
  have h1 := tp_at d.side hs
  have h2 := bt_at d.side hs
  have fs := d.fit s hs
  have : tp L s ≠ bt L s := fun e => by rw [e] at h1; omega
  omega
end

/-- The wires of squares, as pairs of natural numbers. -/
def wsL (L : List T3) : List Wr := L.map fun s => (tp L s, bt L s)
theorem wsL_nat (L : List T3) : (wiresL L).map natW = wsL L := by
  unfold wiresL wsL
  rw [List.map_map]
  exact List.map_congr_left fun s _ => rfl

section
variable {W H : Int} {L : List T3} (d : Diss W H L)
include d
theorem wsL_wf : Wf (lvsL L).length (wsL L) := fun e he => by
  obtain ⟨s, hs, rfl⟩ := List.mem_map.1 he
  have h1 := tp_at d.side hs
  have h2 := bt_at d.side hs
  have fs := d.fit s hs
  exact ⟨h1.1, h2.1, fun e => by dsimp only at e; rw [e] at h1; omega⟩
theorem wsL_lap {i : Nat} (hi : i < (lvsL L).length) : sumN (fun j => lap (wsL L) i j * (H - (Lv L j).1)) (lvsL L).length = W * (unit 0 i - unit ((lvsL L).length - 1) i) := by
  have htwo := lv_two d
  rw [lap_sum (fun j => H - (Lv L j).1) i (wsL_wf d)]
  have e : ((wsL L).map fun e => ends e i * ((H - (Lv L e.1).1) - (H - (Lv L e.2).1))).sum = (L.map fun s => if decide (tp L s = i) = true then s.2.2 else 0).sum - (L.map fun s => if decide (bt L s = i) = true then s.2.2 else 0).sum := by
    have e1 : ((wsL L).map fun e => ends e i * ((H - (Lv L e.1).1) - (H - (Lv L e.2).1))) = L.map fun s => (if decide (tp L s = i) = true then s.2.2 else 0) - (if decide (bt L s = i) = true then s.2.2 else 0) := by
      unfold wsL
      rw [List.map_map]
      refine List.map_congr_left fun s hs => ?_
      have h1 := tp_at d.side hs
      have h2 := bt_at d.side hs
      have fs := d.fit s hs
      show (unit (tp L s) i - unit (bt L s) i) * ((H - (Lv L (tp L s)).1) - (H - (Lv L (bt L s)).1)) = _
      rw [h1.2.1, h2.2.1, show (H - s.2.1) - (H - (s.2.1 + s.2.2)) = s.2.2 by omega]
      unfold Dt.unit
      by_cases a : tp L s = i <;> by_cases b : bt L s = i
      · rw [if_pos a.symm, if_pos b.symm, if_pos (decide_eq_true a), if_pos (decide_eq_true b)]; omega
      · rw [if_pos a.symm, if_neg (Ne.symm b), if_pos (decide_eq_true a), if_neg (by simp [b])]; omega
      · rw [if_neg (Ne.symm a), if_pos b.symm, if_neg (by simp [a]), if_pos (decide_eq_true b)]; omega
      · rw [if_neg (Ne.symm a), if_neg (Ne.symm b), if_neg (by simp [a]), if_neg (by simp [b])]; omega
    rw [e1]
    clear e1 d hi htwo
    have : ∀ M : List T3, (M.map fun s => (if decide (tp L s = i) = true then s.2.2 else 0) - (if decide (bt L s = i) = true then s.2.2 else 0)).sum = (M.map fun s => if decide (tp L s = i) = true then s.2.2 else 0).sum - (M.map fun s => if decide (bt L s = i) = true then s.2.2 else 0).sum := fun M => by
      induction M with
      | nil => rfl
      | cons s M ih => simp only [List.map_cons, List.sum_cons]; rw [ih]; omega
    exact this L
  rw [e]
  have hin := lv_in d hi
  have hh := d.h
  by_cases h0 : i = 0
  · have y0 := (lv_zero d hi).2 h0
    rw [lv_out d hi (by omega), lv_come0 d y0, (lv_first d hi y0).1, (lv_first d hi y0).2]
    unfold Dt.unit
    rw [if_pos h0, if_neg (by omega)]; omega
  have y0 : (Lv L i).1 ≠ 0 := fun h => h0 ((lv_zero d hi).1 h)
  by_cases h1 : i = (lvsL L).length - 1
  · have y1 := (lv_end d hi).2 h1
    rw [lv_out0 d y1, lv_come d hi (by omega), (lv_last d hi y1).1, (lv_last d hi y1).2]
    unfold Dt.unit
    rw [if_neg h0, if_pos h1]; omega
  have y1 : (Lv L i).1 ≠ H := fun h => h1 ((lv_end d hi).1 h)
  rw [lv_out d hi (by omega), lv_come d hi (by omega)]
  unfold Dt.unit
  rw [if_neg h0, if_neg h1]; omega
/-- Every level comes to the first one. -/
theorem wsL_conn : ∀ (k : Nat) {v : Nat}, v < (lvsL L).length → (Lv L v).1 ≤ k → Conn (wsL L) v 0 := by
  intro k
  induction k with
  | zero =>
    intro v hv hk
    have hi := lv_in d hv
    rw [(lv_zero d hv).1 (by omega)]; exact .refl _
  | succ k ih =>
    intro v hv hk
    have hi := lv_in d hv
    by_cases h0 : (Lv L v).1 = 0
    · rw [(lv_zero d hv).1 h0]; exact .refl _
    obtain ⟨s, hs, hq⟩ := d.ex (x := (Lv L v).2.1) (y := (Lv L v).1 - 1) (by omega) (by omega) (by omega) (by omega)
    have e := lv_up d hv (Int.le_refl _) hi.2.1 hs hq
    unfold inQ at hq
    have hb := bt_of d hv hs e (Int.le_refl _) (by omega) hq.1 (by omega)
    have h1 := tp_at d.side hs
    have fs := d.fit s hs
    have c := ih h1.1 (by omega)
    have hm : (tp L s, bt L s) ∈ wsL L := List.mem_map.2 ⟨s, hs, rfl⟩
    rw [hb] at hm
    exact (Conn.one (.inr hm)).trans c
end

theorem cnt_pos {P : List Wr → Prop} (h : P []) : ∀ l : List Wr, 0 < cnt P l
  | [] => by unfold cnt; rw [if_pos h]; omega
  | e :: l => by have := cnt_pos h l; unfold cnt; omega
/-- A network in which every vertex comes to a root has a forest. -/
theorem spans_cnt {n : Nat} : ∀ (k : Nat) {l : List Wr} {S : Nat → Bool}, l.length = k → Wf n l → Spans n S l → 0 < cnt (RF n S) l := by
  intro k
  induction k with
  | zero =>
    intro l S hk hl hs
    have : l = [] := List.length_eq_zero_iff.1 hk
    subst this
    refine cnt_pos ⟨?_, hs⟩ _
    rw [cnt_all fun v hv => by obtain ⟨r, _, h2, h3⟩ := hs v hv; rw [h3.nil]; exact h2]; rfl
  | succ k ih =>
    intro l S hk hl hs
    by_cases hx : ∃ e ∈ l, S e.1 = true ∨ S e.2 = true
    · obtain ⟨e, he, h⟩ := hx
      have p := List.perm_cons_erase he
      have hl' := hl.perm p.symm
      have hlen : (l.erase e).length = k := by have := p.length_eq; rw [List.length_cons] at this; omega
      have hs' : Spans n S (e :: l.erase e) := fun v hv => let ⟨s, h1, h2, h3⟩ := hs v hv; ⟨s, h1, h2, h3.mono fun _ he => p.subset he⟩
      rw [cnt_perm p (PI_RF n S)]
      generalize l.erase e = l' at *
      have b := hl' e (List.mem_cons_self ..)
      unfold cnt
      by_cases ha : S e.1 = true
      · by_cases hb : S e.2 = true
        · have h1 := hs'.drop hl' ⟨e.1, b.1, ha, .refl _⟩
          rw [ins_old hb] at h1
          have := ih hlen hl'.tail h1
          omega
        · have hb : S e.2 = false := by simpa using hb
          have h1 := hs'.drop hl' ⟨e.1, b.1, ha, .refl _⟩
          have := ih hlen hl'.tail h1
          rw [cnt_iff (P := fun s => RF n S (e :: s)) (Q := RF n (ins S e.2)) fun s hs => RF.grow (hl'.sub (hs.cons_cons _)) ha hb]
          omega
      · have ha : S e.1 = false := by simpa using ha
        have hb : S e.2 = true := by rcases h with h | h; (rw [ha] at h; cases h); exact h
        have h1 := hs'.flip.drop hl'.flip ⟨e.2, b.2.1, hb, .refl _⟩
        have := ih hlen hl'.tail h1
        rw [cnt_iff (P := fun s => RF n S (e :: s)) (Q := RF n (ins S e.1)) fun s hs => RF.grow' (hl'.sub (hs.cons_cons _)) hb ha]
        dsimp only at this
        omega
    · have hoff : ∀ e ∈ l, S e.1 = false ∧ S e.2 = false := fun e he => by
        refine ⟨?_, ?_⟩
        · cases h : S e.1 with
          | false => rfl
          | true => exact absurd ⟨e, he, .inl h⟩ hx
        · cases h : S e.2 with
          | false => rfl
          | true => exact absurd ⟨e, he, .inr h⟩ hx
      have all : ∀ v, v < n → S v = true := fun v hv => by
        obtain ⟨r, _, h2, h3⟩ := hs v hv
        cases h : S v with
        | true => rfl
        | false => rw [h3.off hoff h] at h2; cases h2
      exact cnt_pos ⟨by rw [cnt_all all]; rfl, fun v hv => ⟨v, hv, all v hv, .refl _⟩⟩ _

section
variable {W H : Int} {L : List T3} (d : Diss W H L)
include d
theorem wsL_trees : 0 < trees (lvsL L).length (wsL L) := by
  have h2 := lv_two d
  refine spans_cnt _ rfl (wsL_wf d) fun v hv => ⟨0, by omega, one_self 0, wsL_conn d (Lv L v).1.toNat hv ?_⟩
  have := lv_in d hv
  omega
/-- BROOKS, SMITH, STONE AND TUTTE. -/
theorem wsL_pot {v : Nat} (hv : v < (lvsL L).length) : W * (pot (lvsL L).length (wsL L) 0 ((lvsL L).length - 1) v : Int) = trees (lvsL L).length (wsL L) * (H - (Lv L v).1) := by
  have h2 := lv_two d
  have h0 : trees (lvsL L).length (wsL L) ≠ 0 := by have := wsL_trees d; omega
  have hz := lap_const (n := (lvsL L).length) (l := wsL L) (t := (lvsL L).length - 1) (wsL_wf d) (by omega) h0 (z := fun j => W * (pot (lvsL L).length (wsL L) 0 ((lvsL L).length - 1) j : Int) - trees (lvsL L).length (wsL L) * (H - (Lv L j).1)) (fun i hi => ?_) hv
  · rw [pot_t, (lv_end d (by omega)).2 rfl] at hz
    simp at hz
    omega
  · rw [sum_congr (g := fun j => W * (lap (wsL L) i j * (pot (lvsL L).length (wsL L) 0 ((lvsL L).length - 1) j : Int)) - trees (lvsL L).length (wsL L) * (lap (wsL L) i j * (H - (Lv L j).1))) fun j _ => by grind]
    rw [sum_sub, sum_mul, sum_mul, pot_lap (wsL_wf d) (by omega) (by omega) (by omega) hi, wsL_lap d hi]
    grind
theorem wsL_volt : W * (volt (lvsL L).length (wsL L) 0 ((lvsL L).length - 1) : Int) = trees (lvsL L).length (wsL L) * H := by
  have h2 := lv_two d
  have := wsL_pot d (v := 0) (by omega)
  rw [pot_s (by omega), (lv_zero d (by omega)).2 rfl] at this
  rw [this]; simp
/-- The currents are the sides, times one number. -/
theorem wsL_flow {k : Nat} (hk : k < L.length) :
    (flowC (lvsL L).length (wsL L) 0 ((lvsL L).length - 1)).getD k 0 * W = (L.getD k (0, 0, 0)).2.2 * trees (lvsL L).length (wsL L) ∧
    (flowC (lvsL L).length (wsL L) 0 ((lvsL L).length - 1)).getD k 0 * H = (L.getD k (0, 0, 0)).2.2 * volt (lvsL L).length (wsL L) 0 ((lvsL L).length - 1) := by
  have hm : L.getD k (0, 0, 0) ∈ L := getD_mem hk
  have h1 := tp_at d.side hm
  have h2 := bt_at d.side hm
  have hw := d.w
  have e : (wsL L).getD k (0, 0) = (tp L (L.getD k (0, 0, 0)), bt L (L.getD k (0, 0, 0))) := by
    unfold wsL
    rw [getD_lt _ _ _ (by rw [List.length_map]; exact hk), List.getElem_map, getD_lt _ _ _ hk]
  rw [flowC_at (by unfold wsL; rw [List.length_map]; exact hk), e]
  dsimp only
  have p1 := wsL_pot d h1.1
  have p2 := wsL_pot d h2.1
  have pv := wsL_volt d
  rw [h1.2.1] at p1
  rw [h2.2.1] at p2
  generalize L.getD k (0, 0, 0) = s at *
  generalize (pot (lvsL L).length (wsL L) 0 ((lvsL L).length - 1) (tp L s) : Int) = a at *
  generalize (pot (lvsL L).length (wsL L) 0 ((lvsL L).length - 1) (bt L s) : Int) = b at *
  generalize (trees (lvsL L).length (wsL L) : Int) = T at *
  generalize (volt (lvsL L).length (wsL L) 0 ((lvsL L).length - 1) : Int) = V at *
  have f1 : (a - b) * W = s.2.2 * T := by grind
  refine ⟨f1, ?_⟩
  have f2 : W * ((a - b) * H) = W * (s.2.2 * V) := by grind
  exact Int.eq_of_mul_eq_mul_left (by omega) f2
end

end Go.Proofs.YtkdcldbedbagjaaDoor

/- Parts by spreading of least numbers, plainly; the parts of sides are the levels, and the number of levels before a level. -/
namespace Go.Dt

def link2 (part : Nat → Nat) (i k x : Nat) : Nat → Nat := fun v => if v = k then x else if v = i then x else part v
/-- Two sides that touch get the lesser number of both. -/
def stepP (adj : Nat → Nat → Bool) (part : Nat → Nat) (i k : Nat) : Nat → Nat := if adj i k = true then link2 part i k (min (part i) (part k)) else part
theorem stepP_le (adj : Nat → Nat → Bool) (part : Nat → Nat) (i k v : Nat) : stepP adj part i k v ≤ part v := by
  unfold stepP link2
  by_cases ha : adj i k = true
  · rw [if_pos ha]
    split
    · rename_i h; subst h; omega
    · split
      · rename_i h; subst h; omega
      · omega
  · rw [if_neg ha]; omega

structure PartI (n : Nat) (ws : List Wr) (adj : Nat → Nat → Bool) (t i k : Nat) (part : Nat → Nat) : Prop where
  dom : ∀ v, v < n → part v < n ∧ Conn ws v (part v)
  old : ∀ m x, m < n → x < n → ball ws m t x = true → part x ≤ m
  new : ∀ i' k' m, i' < n → k' < n → m < n → (i' < i ∨ (i' = i ∧ k' < k)) → adj i' k' = true → (ball ws m t i' = true → part k' ≤ m) ∧ (ball ws m t k' = true → part i' ≤ m)
theorem PartI.start (n : Nat) (ws : List Wr) (adj : Nat → Nat → Bool) : PartI n ws adj 0 0 0 (fun v => v) :=
  ⟨fun v hv => ⟨hv, .refl _⟩, fun m x _ _ h => by rw [one_iff.1 h]; exact Nat.le_refl _, fun i' k' m _ _ _ h => by omega⟩
theorem PartI.step {n t i k : Nat} {ws : List Wr} {adj : Nat → Nat → Bool} {part : Nat → Nat} (h : PartI n ws adj t i k part) (hi : i < n) (hk : k < n) (hc : ∀ a b, a < n → b < n → adj a b = true → Conn ws a b) : PartI n ws adj t i (k + 1) (stepP adj part i k) := by
  refine ⟨fun v hv => ?_, fun m x hm hx hb => Nat.le_trans (stepP_le ..) (h.old m x hm hx hb), fun i' k' m hi' hk' hm ho ha => ?_⟩
  · unfold stepP
    by_cases ha : adj i k = true
    · rw [if_pos ha]
      have c := hc i k hi hk ha
      obtain ⟨a1, a2⟩ := h.dom i hi
      obtain ⟨b1, b2⟩ := h.dom k hk
      have hmin : min (part i) (part k) = part i ∨ min (part i) (part k) = part k := by omega
      unfold link2
      split
      · rename_i e; subst e
        rcases hmin with e | e <;> rw [e]
        · exact ⟨a1, c.symm.trans a2⟩
        · exact ⟨b1, b2⟩
      · split
        · rename_i e; subst e
          rcases hmin with e | e <;> rw [e]
          · exact ⟨a1, a2⟩
          · exact ⟨b1, c.trans b2⟩
        · exact h.dom v hv
    · rw [if_neg ha]; exact h.dom v hv
  · by_cases e : i' = i ∧ k' = k
    · obtain ⟨rfl, rfl⟩ := e
      have e1 : stepP adj part i' k' k' = min (part i') (part k') := by unfold stepP link2; rw [if_pos ha, if_pos rfl]
      have e2 : stepP adj part i' k' i' = min (part i') (part k') := by
        unfold stepP link2; rw [if_pos ha]
        split
        · rfl
        · rw [if_pos rfl]
      rw [e1, e2]
      refine ⟨fun hb => ?_, fun hb => ?_⟩
      · have := h.old m i' hm hi' hb; omega
      · have := h.old m k' hm hk' hb; omega
    · have := h.new i' k' m hi' hk' hm (by omega) ha
      exact ⟨fun hb => Nat.le_trans (stepP_le ..) (this.1 hb), fun hb => Nat.le_trans (stepP_le ..) (this.2 hb)⟩
theorem PartI.row {n t i : Nat} {ws : List Wr} {adj : Nat → Nat → Bool} {part : Nat → Nat} (h : PartI n ws adj t i n part) : PartI n ws adj t (i + 1) 0 part :=
  ⟨h.dom, h.old, fun i' k' m hi' hk' hm ho => h.new i' k' m hi' hk' hm (by omega)⟩
theorem PartI.turn {n t : Nat} {ws : List Wr} {adj : Nat → Nat → Bool} {part : Nat → Nat} (h : PartI n ws adj t n 0 part) (hw : ∀ e ∈ ws, e.1 < n ∧ e.2 < n ∧ adj e.1 e.2 = true) : PartI n ws adj (t + 1) 0 0 part := by
  refine ⟨h.dom, fun m x hm hx hb => ?_, fun i' k' m _ _ _ ho => by omega⟩
  have hb : grow ws (ball ws m t) x = true := hb
  unfold grow at hb
  rw [Bool.or_eq_true] at hb
  rcases hb with hb | hb
  · exact h.old m x hm hx hb
  · obtain ⟨e, he, hb⟩ := List.any_eq_true.1 hb
    obtain ⟨e1, e2, e3⟩ := hw e he
    rw [Bool.or_eq_true, Bool.and_eq_true, Bool.and_eq_true] at hb
    have := h.new e.1 e.2 m e1 e2 hm (.inl e1) e3
    rcases hb with ⟨h1, h2⟩ | ⟨h1, h2⟩
    · rw [← of_decide_eq_true h2]; exact this.1 h1
    · rw [← of_decide_eq_true h2]; exact this.2 h1
/-- After as many turns as there are vertices all that hang together have the same number. -/
theorem PartI.done {n : Nat} {ws : List Wr} {adj : Nat → Nat → Bool} {part : Nat → Nat} (h : PartI n ws adj n 0 0 part) (hl : Wf n ws) {x y : Nat} (hx : x < n) (hy : y < n) (c : Conn ws x y) : part x = part y := by
  have key : ∀ a b, a < n → b < n → Conn ws a b → part b ≤ part a := fun a b ha hb c => by
    obtain ⟨d1, d2⟩ := h.dom a ha
    exact h.old _ b d1 hb (ball_full hl d1 (d2.symm.trans c))
  have := key x y hx hy c
  have := key y x hy hx c.symm
  omega

end Go.Dt
namespace Go.Proofs.YtkdcldbedbagjaaDoor
open Go.Lf Go.RowKit Go.Dt

/-- The sides as the reference has them: from, to, y. -/
def rot (p : T3) : T3 := (p.2.1, p.2.2, p.1)
def sidesR (L : List T3) : List T3 := (sidesL L).map rot
/-- The side of a number: y, from, to. -/
def sd (L : List T3) (i : Nat) : T3 := (sidesL L).getD i (0, 0, 0)
def adjB (L : List T3) (i k : Nat) : Bool := decide ((sd L i).1 = (sd L k).1 ∧ (sd L i).2.1 ≤ (sd L k).2.2 ∧ (sd L k).2.1 ≤ (sd L i).2.2)
def adjW (L : List T3) : List Wr := ((List.range (2 * L.length)).flatMap fun i => (List.range (2 * L.length)).map fun k => (i, k)).filter fun e => adjB L e.1 e.2 && !decide (e.1 = e.2)
theorem adjW_mem {L : List T3} {e : Wr} : e ∈ adjW L ↔ e.1 < 2 * L.length ∧ e.2 < 2 * L.length ∧ adjB L e.1 e.2 = true ∧ e.1 ≠ e.2 := by
  unfold adjW
  rw [List.mem_filter]
  obtain ⟨a, b⟩ := e
  simp [and_assoc]
theorem adjW_wf (L : List T3) : Wf (2 * L.length) (adjW L) := fun e he => by
  have := adjW_mem.1 he; exact ⟨this.1, this.2.1, this.2.2.2⟩
theorem adjW_conn {L : List T3} {a b : Nat} (ha : a < 2 * L.length) (hb : b < 2 * L.length) (h : adjB L a b = true) : Conn (adjW L) a b := by
  by_cases e : a = b
  · rw [e]; exact .refl _
  · exact .one (.inl (adjW_mem.2 ⟨ha, hb, h, e⟩))

theorem sides_two : ∀ {L : List T3} {i : Nat}, i < L.length → sd L (2 * i) = ((L.getD i (0, 0, 0)).2.1, (L.getD i (0, 0, 0)).1, (L.getD i (0, 0, 0)).1 + (L.getD i (0, 0, 0)).2.2) ∧
    sd L (2 * i + 1) = ((L.getD i (0, 0, 0)).2.1 + (L.getD i (0, 0, 0)).2.2, (L.getD i (0, 0, 0)).1, (L.getD i (0, 0, 0)).1 + (L.getD i (0, 0, 0)).2.2)
  | [], i, h => absurd h (by simp)
  | s :: L, 0, _ => ⟨rfl, rfl⟩
  | s :: L, i + 1, h => by
    have := sides_two (L := L) (i := i) (by simpa using h)
    have e1 : sd (s :: L) (2 * (i + 1)) = sd L (2 * i) := rfl
    have e2 : sd (s :: L) (2 * (i + 1) + 1) = sd L (2 * i + 1) := rfl
    rw [e1, e2]
    exact this
theorem sd_mem {L : List T3} {i : Nat} (h : i < 2 * L.length) : sd L i ∈ sidesL L := getD_mem (by rw [sides_len]; exact h)
/-- The level of a side. -/
def lvS (L : List T3) (i : Nat) : Nat := lvI (lvsL L) (sd L i).1 (sd L i).2.1

section
variable {W H : Int} {L : List T3} (d : Diss W H L)
include d
theorem sd_long {i : Nat} (h : i < 2 * L.length) : (sd L i).2.1 < (sd L i).2.2 := sides_long d.side _ (sd_mem h)
theorem lvS_at {i : Nat} (h : i < 2 * L.length) : lvS L i < (lvsL L).length ∧ (Lv L (lvS L i)).1 = (sd L i).1 ∧ (Lv L (lvS L i)).2.1 ≤ (sd L i).2.1 ∧ (sd L i).2.2 ≤ (Lv L (lvS L i)).2.2 :=
  side_lv d.side (sd_mem h) (Int.le_refl _) (by have := sd_long d h; omega)
theorem adj_lv {i k : Nat} (hi : i < 2 * L.length) (hk : k < 2 * L.length) (h : adjB L i k = true) : lvS L i = lvS L k := by
  have h := of_decide_eq_true h
  have a := lvS_at d hi
  have b := lvS_at d hk
  have la := sd_long d hi
  have lb := sd_long d hk
  exact lv_same d.side a.1 b.1 (by omega) (x := max (sd L i).2.1 (sd L k).2.1) (by omega) (by omega) (by omega) (by omega)
theorem conn_lv {i k : Nat} (hi : i < 2 * L.length) (c : Conn (adjW L) i k) : lvS L i = lvS L k := by
  induction c with
  | refl => rfl
  | step _ h2 ih =>
    rw [ih]
    rcases h2 with h2 | h2
    · have := adjW_mem.1 h2; exact adj_lv d this.1 this.2.1 this.2.2.1
    · have := adjW_mem.1 h2; exact (adj_lv d this.1 this.2.1 this.2.2.1).symm
/-- Sides along a level hang together. -/
theorem level_conn {v : Nat} (hv : v < (lvsL L).length) : ∀ (g : Nat) {i k : Nat} {x : Int}, i < 2 * L.length → k < 2 * L.length → (sd L i).1 = (Lv L v).1 → (sd L k).1 = (Lv L v).1 → (Lv L v).2.1 ≤ x → x + g < (Lv L v).2.2 →
    (sd L i).2.1 ≤ x → x < (sd L i).2.2 → (sd L k).2.1 ≤ x + g → x + g < (sd L k).2.2 → Conn (adjW L) i k := by
  intro g
  induction g with
  | zero =>
    intro i k x hi hk y1 y2 _ _ a1 a2 b1 b2
    exact adjW_conn hi hk (decide_eq_true (by omega))
  | succ g ih =>
    intro i k x hi hk y1 y2 x0 x1 a1 a2 b1 b2
    obtain ⟨l, hl, e1, e2, e3⟩ := (lvs_lv d.side).cov _ (lv_mem hv) (x + g) (by omega) (by omega)
    obtain ⟨j, hj, rfl⟩ := List.getElem_of_mem hl
    have hj' : j < 2 * L.length := by rw [← sides_len]; exact hj
    have ej : sd L j = (sidesL L)[j] := getD_lt _ _ _ hj
    rw [← ej] at e1 e2 e3
    have c1 := ih hi hj' y1 e1 x0 (by omega) a1 a2 e2 e3
    exact c1.trans (adjW_conn hj' hk (decide_eq_true (by omega)))
theorem lv_conn {i k : Nat} (hi : i < 2 * L.length) (hk : k < 2 * L.length) (h : lvS L i = lvS L k) : Conn (adjW L) i k := by
  have a := lvS_at d hi
  have b := lvS_at d hk
  have la := sd_long d hi
  have lb := sd_long d hk
  rw [← h] at b
  by_cases hle : (sd L i).2.1 ≤ (sd L k).2.1
  · exact level_conn d a.1 ((sd L k).2.1 - (sd L i).2.1).toNat (x := (sd L i).2.1) hi hk (by omega) (by omega) (by omega) (by omega) (by omega) (by omega) (by omega) (by omega)
  · exact (level_conn d a.1 ((sd L i).2.1 - (sd L k).2.1).toNat (x := (sd L k).2.1) hk hi (by omega) (by omega) (by omega) (by omega) (by omega) (by omega) (by omega) (by omega)).symm
end

/-- Parts of sides: each has the number of one side of its level, the same for all of a level. -/
structure Parts (L : List T3) (part : Nat → Nat) : Prop where
  lt : ∀ v, v < 2 * L.length → part v < 2 * L.length
  lv : ∀ v, v < 2 * L.length → lvS L (part v) = lvS L v
  same : ∀ u v, u < 2 * L.length → v < 2 * L.length → lvS L u = lvS L v → part u = part v
theorem parts_of {W H : Int} {L : List T3} (d : Diss W H L) {part : Nat → Nat} (h : PartI (2 * L.length) (adjW L) (adjB L) (2 * L.length) 0 0 part) : Parts L part :=
  ⟨fun v hv => (h.dom v hv).1, fun v hv => (conn_lv d hv (h.dom v hv).2).symm, fun u v hu hv e => h.done (adjW_wf L) hu hv (lv_conn d hu hv e)⟩

section
variable {W H : Int} {L : List T3} (d : Diss W H L) {part : Nat → Nat} (hp : Parts L part)
include d hp
theorem Parts.twice {v : Nat} (hv : v < 2 * L.length) : part (part v) = part v := hp.same _ _ (hp.lt v hv) hv (hp.lv v hv)
/-- Each level has a side. -/
theorem lvS_onto {v : Nat} (hv : v < (lvsL L).length) : ∃ i, i < 2 * L.length ∧ lvS L i = v := by
  have hi := lv_in d hv
  obtain ⟨l, hl, e1, e2, e3⟩ := (lvs_lv d.side).cov _ (lv_mem hv) (Lv L v).2.1 (Int.le_refl _) hi.2.1
  obtain ⟨j, hj, rfl⟩ := List.getElem_of_mem hl
  have hj' : j < 2 * L.length := by rw [← sides_len]; exact hj
  have ej : sd L j = (sidesL L)[j] := getD_lt _ _ _ hj
  rw [← ej] at e1 e2 e3
  have a := lvS_at d hj'
  exact ⟨j, hj', lv_same d.side a.1 hv (by omega) (x := (Lv L v).2.1) (by omega) (by omega) (Int.le_refl _) (by omega)⟩
/-- As many first sides of levels before a level as there are levels. -/
theorem reps_count : ∀ {j : Nat}, j ≤ (lvsL L).length → cntS (2 * L.length) (fun k => decide (part k = k) && decide (lvS L k < j)) = j
  | 0, _ => cnt_none fun v _ => by simp
  | j + 1, hj => by
    have ih := reps_count (j := j) (by omega)
    obtain ⟨i, hi, e⟩ := lvS_onto d hp (v := j) (by omega)
    have h1 := hp.lt i hi
    have h2 := hp.lv i hi
    have h3 := Parts.twice d hp hi
    have ex : cntS (2 * L.length) (fun k => decide (part k = k) && decide (lvS L k < j + 1)) = cntS (2 * L.length) (ins (fun k => decide (part k = k) && decide (lvS L k < j)) (part i)) := cnt_congr fun v hv => by
      unfold ins
      by_cases hv1 : v = part i
      · subst hv1
        simp [h3, h2, e]
      · by_cases hv2 : part v = v
        · have : lvS L v ≠ j := fun q => hv1 (by rw [← hv2]; exact hp.same v i hv hi (by rw [q, e]))
          have hiff : (lvS L v < j + 1) ↔ (lvS L v < j) := by omega
          simp [hv2, hv1, hiff]
        · simp [hv2, hv1]
    rw [ex, cnt_ins (by simp [h2, e]) h1, ih]
theorem reps_all : cntS (2 * L.length) (fun k => decide (part k = k)) = (lvsL L).length := by
  rw [← reps_count d hp (Nat.le_refl _)]
  refine cnt_congr fun v hv => ?_
  have := (lvS_at d hv).1
  simp [this]
end

/-- The order of levels. -/
theorem lv_order {W H : Int} {L : List T3} (d : Diss W H L) {u v : Nat} (hu : u < (lvsL L).length) (hv : v < (lvsL L).length) : u < v ↔ (Lv L u).1 < (Lv L v).1 ∨ ((Lv L u).1 = (Lv L v).1 ∧ (Lv L u).2.1 < (Lv L v).2.1) := by
  have iu := lv_in d hu
  have iv := lv_in d hv
  refine ⟨fun h => ?_, fun h => ?_⟩
  · have g := lv_gap d h hv
    unfold lvGap at g
    omega
  · refine Classical.byContradiction fun hn => ?_
    by_cases e : u = v
    · subst e; omega
    · have g := lv_gap d (u := v) (v := u) (by omega) hu
      unfold lvGap at g
      omega

end Go.Proofs.YtkdcldbedbagjaaDoor
