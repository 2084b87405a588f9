/- Texts of my own, merged by program: Gr Ap. -/
import Derived.Test.YtbekeccfjmoonaaDoorM09
import Derived.Laws.CopyRow
set_option linter.all false
/- The ground: lists of integers and of such lists in memory; copies, appends. -/
namespace Go.Proofs.YtbekeccfjmoonaaDoor
open Go.Lf Go.RowKit

theorem getD_mem {α : Type} {l : List α} {i : Nat} {d : α} (h : i < l.length) : l.getD i d ∈ l := by
  rw [List.getD_eq_getElem?_getD, List.getElem?_eq_getElem h]
  exact List.getElem_mem h

abbrev nilS : Value := .slice none 0 0

set_option maxRecDepth 100000 in
/-- append(v, xs...) where v is one's own, and where the new slice lies. -/
theorem r_apAt {t e ty : TypeId} {size bytes base n m c : Nat} {v : Value} {xs news : List Value} {a : Addr} {w : World} {K : Value → World → Prop} (T : SlT t e size bytes)
    (hown : w.ownsRow base e size v n xs) (hl : news.length = m * size) (hnews : ∀ j u, news[j]? = some u → w.cell? (a.add j) = some u) (h1 : ∀ u ∈ news, u.oneCell' = true)
    (hn : n + m ≤ 1099511627776) (hby : bytes ≤ 128) (hb : base ≤ w.heap.size)
    (hk : ∀ v' w', w'.ownsRow base e size v' (n + m) (xs ++ news) → Chg (fun k => v.ownBlock = some k) w w' → (∀ k, v'.ownBlock = some k → v.ownBlock = some k ∨ w.heap.size ≤ k) → K v' w') : semW Tryd.prog (apS [t, t] ty [v, .slice (some a) m c]) w K := by
  obtain ⟨i, z, i1, i2, i3, i4, i5⟩ := T.info
  have hb2 : (n + m) * bytes ≤ 140737488355328 := Nat.le_trans (Nat.mul_le_mul hn hby) (by decide)
  obtain ⟨v', w', hr, ho, hg, _, hat⟩ := run_append_own_at (P := Tryd.prog) (w := w) base t ty e i z size bytes T.und i1 i2 i3 i4 i5 T.pos v n xs hown a m c news hl hnews h1 (by unfold maxLen; omega) hb2 hb
  refine semW_of_run (by simp [apS, hr]) (hk v' w' ho (Chg.of_grown hg fun k hk => hk) fun k hk => ?_)
  rcases hat with h | h
  · exact .inl (h ▸ hk)
  · rw [h] at hk
    cases hk
    exact .inr (by omega)

def iC (n : Int) : List Value := [.int .i64 n]

def bC (b : Bool) : List Value := [.bool b]

theorem iC_len (n : Int) : (iC n).length = 1 := rfl

theorem bC_len (b : Bool) : (bC b).length = 1 := rfl

abbrev IntsAt (base : Nat) (w : World) (v : Value) (l : List Int) : Prop := RecAt 3 1 iC base w v l

abbrev BoolsAt (base : Nat) (w : World) (v : Value) (l : List Bool) : Prop := RecAt 4 1 bC base w v l

theorem rec_ints : ∀ l : List Int, recCells iC l = l.map (.int .i64)
  | [] => rfl
  | a :: l => by
    have := rec_ints l
    simp only [recCells, List.flatMap_cons, List.map_cons] at this ⊢
    rw [this]; rfl

theorem rec_bools : ∀ l : List Bool, recCells bC l = l.map .bool
  | [] => rfl
  | a :: l => by
    have := rec_bools l
    simp only [recCells, List.flatMap_cons, List.map_cons] at this ⊢
    rw [this]; rfl

theorem Rd.ints {w : World} {v : Value} {l : List Int} (h : Rd 1 iC w v l) (hl : l.length ≤ 1000000) : RdInts w v l := by
  obtain ⟨a, cap, rfl, hlc, hh⟩ := h
  refine ⟨a, cap, rfl, by omega, fun h0 => ?_⟩
  obtain ⟨b, off, rfl, hc⟩ := hh h0
  refine ⟨b, off, rfl, fun i hi => ?_⟩
  have := hc i l[i] (List.getElem?_eq_getElem hi) 0 _ rfl
  rw [getD_lt _ _ _ hi]
  simpa using this

/-- A block that was made holds so many of one. -/
theorem made_rec {α : Type} {e : TypeId} {enc : α → List Value} {x : α} {z : Value} (hz : enc x = [z]) {n : Nat} (hn : n ≤ 1000000) (w : World) : RecAt e 1 enc w.heap.size (w.alloc (.cells (Array.replicate n z) e)) (.slice (some ⟨w.heap.size, 0, none⟩) n n) (List.replicate n x) := by
  have e1 : recCells enc (List.replicate n x) = List.replicate n z := by
    unfold recCells
    induction n with
    | zero => rfl
    | succ n ih => rw [List.replicate_succ, List.flatMap_cons, ih (by omega), hz]; rfl
  refine ⟨by rw [e1]; simp, .inr ⟨w.heap.size, n, _, by simp, Nat.le_refl _, heap_alloc_new w _, by simp, by unfold maxLen; omega, by simp, ?_⟩⟩
  rw [e1]
  simp

set_option maxRecDepth 100000 in
/-- make([]int, n) -/
theorem mk31' {n : Nat} {w : World} {K : Value → World → Prop} (hn : n ≤ 1000000) (h : ∀ v w', IntsAt w.heap.size w' v (List.replicate n 0) → Kp w w' → v.ownBlock = some w.heap.size → K v w') :
    mkW Tryd.prog 31 (.int .i64 n) (.int .i64 n) w K :=
  mk31 (by omega) (h _ _ (made_rec (x := (0 : Int)) (enc := iC) rfl hn w) (below_alloc _) rfl)

set_option maxRecDepth 100000 in
/-- copy(d, s) at elements of one cell. -/
theorem r_cp {t elem : TypeId} {bytes : Nat} (T : SlT t elem 1 bytes) {w : World} {g o dLen dCap : Nat} {a : Addr} {sLen sCap : Nat} {cur : Array Value} {ty : TypeId} {cs : List Value} {K : Value → World → Prop}
    (hg : w.heap[g]? = some (.cells cur ty (0, 0))) (hn : cs.length = min sLen dLen) (hsrc : ∀ j v, cs[j]? = some v → w.cell? (a.add j) = some v) (hfit : o + cs.length ≤ cur.size) (h1 : ∀ v ∈ cs, v.oneCell' = true)
    (hk : ∀ w', Chg (fun k => k = g) w w' → w'.heap.size = w.heap.size → w'.heap[g]? = some (.cells (cur.toList.take o ++ cs ++ cur.toList.drop (o + cs.length)).toArray ty (0, 0)) → K (.int .i64 cs.length) w') :
    semW Tryd.prog (cpS [t, t] 3 [.slice (some ⟨g, o, none⟩) dLen dCap, .slice (some a) sLen sCap]) w K := by
  obtain ⟨i, z, i1, i2, i3, i4, i5⟩ := T.info
  have hr := run_copy_row (P := Tryd.prog) w t t 3 elem g o dLen dCap a sLen sCap cur ty cs T.und (by simp [i1, i3]) hg hn hsrc hfit h1
  refine semW_of_run (v := goInt cs.length) (w' := w.setRow g (cur.toList.take o ++ cs ++ cur.toList.drop (o + cs.length)).toArray) (by simp [cpS, hr]) (hk _ ⟨rfl, rfl, rfl, by simp [World.setRow], fun k _ hne => by simp [World.setRow, Array.getElem?_modify, Ne.symm hne]⟩ (by simp [World.setRow]) (setRow_heap _ _ _ _ _ _ hg))

theorem IntsAt.put {base : Nat} {w : World} {v : Value} {l : List Int} (h : IntsAt base w v l) {q : Nat} (hq : q < l.length) (x : Int) :
    ∃ g cap, v = .slice (some ⟨g, 0, none⟩) l.length cap ∧ base ≤ g ∧ w.cell? ⟨g, q, none⟩ = some (.int .i64 (l.getD q 0)) ∧ w.frozen? ⟨g, q, none⟩ = false ∧ IntsAt base (w.setCell ⟨g, q, none⟩ (.int .i64 x)) v (l.set q x) := by
  obtain ⟨g, cap, e, hb, _, hf, hr⟩ := RecAt.set (j := 0) (p' := x) (u := .int .i64 x) iC_len h (List.getElem?_eq_getElem hq) (by omega) rfl
  simp only [Nat.mul_one, Nat.add_zero] at hf hr
  refine ⟨g, cap, e, hb, ?_, hf, hr⟩
  obtain ⟨b, off, _, e2, _, hc⟩ := (h.rd iC_len).at (List.getElem?_eq_getElem hq)
  rw [e] at e2
  cases e2
  have := hc 0 _ rfl
  rw [getD_lt _ _ _ hq]
  simpa using this

theorem BoolsAt.put {base : Nat} {w : World} {v : Value} {l : List Bool} (h : BoolsAt base w v l) {q : Nat} (hq : q < l.length) (x : Bool) :
    ∃ g cap, v = .slice (some ⟨g, 0, none⟩) l.length cap ∧ base ≤ g ∧ w.cell? ⟨g, q, none⟩ = some (.bool (l.getD q false)) ∧ w.frozen? ⟨g, q, none⟩ = false ∧ BoolsAt base (w.setCell ⟨g, q, none⟩ (.bool x)) v (l.set q x) := by
  obtain ⟨g, cap, e, hb, _, hf, hr⟩ := RecAt.set (j := 0) (p' := x) (u := .bool x) bC_len h (List.getElem?_eq_getElem hq) (by omega) rfl
  simp only [Nat.mul_one, Nat.add_zero] at hf hr
  refine ⟨g, cap, e, hb, ?_, hf, hr⟩
  obtain ⟨b, off, _, e2, _, hc⟩ := (h.rd bC_len).at (List.getElem?_eq_getElem hq)
  rw [e] at e2
  cases e2
  have := hc 0 _ rfl
  rw [getD_lt _ _ _ hq]
  simpa using this

abbrev vE (u : Value) : List Value := [u]

theorem vE_len (u : Value) : (vE u).length = 1 := rfl

theorem rec_one {α : Type} {e : TypeId} {enc : α → List Value} {x : α} {z : Value} (hz : enc x = [z]) (w : World) : RecAt e 1 enc w.heap.size (w.alloc (.cells #[z] e)) (.slice (some ⟨w.heap.size, 0, none⟩) 1 1) [x] := by
  have e1 : recCells enc [x] = [z] := by simp [recCells, hz]
  refine ⟨by rw [e1]; rfl, .inr ⟨w.heap.size, 1, _, rfl, Nat.le_refl _, heap_alloc_new w _, Nat.le_refl _, by unfold maxLen; omega, rfl, ?_⟩⟩
  rw [e1]
  rfl

/-- Blocks of different types are different. -/
theorem rec_ne {α β : Type} {e e' : TypeId} {m m' : Nat} {enc : α → List Value} {enc' : β → List Value} {base base' : Nat} {w : World} {v v' : Value} {P : List α} {Q : List β} (h : RecAt e m enc base w v P) (h' : RecAt e' m' enc' base' w v' Q) (hne : e ≠ e') : ∀ k, v.ownBlock = some k → v'.ownBlock ≠ some k := by
  intro k hk hk'
  rcases h.2 with ⟨rfl, _⟩ | ⟨g, cap, cur, rfl, _, hg, _⟩
  · cases hk
  rcases h'.2 with ⟨rfl, _⟩ | ⟨g', cap', cur', rfl, _, hg', _⟩
  · cases hk'
  cases hk
  injection hk' with hk'
  dsimp only at hk'
  subst hk'
  rw [hg] at hg'
  injection hg' with hg'
  injection hg' with _ h3 _
  exact hne h3

/-- Lists of integers, each in memory of its own. -/
def IRows (base : Nat) (w : World) (v : Value) (R : List (List Int)) : Prop :=
  ∃ vs : List Value, RecAt 31 1 vE base w v vs ∧ vs.length = R.length ∧ ∀ (i : Nat) (u : Value) (r : List Int), vs[i]? = some u → R[i]? = some r → IntsAt base w u r

theorem IRows.kp {base : Nat} {w w' : World} {v : Value} {R : List (List Int)} (h : IRows base w v R) (hk : Kp w w') : IRows base w' v R :=
  let ⟨vs, h1, h2, h3⟩ := h; ⟨vs, h1.kp hk, h2, fun i u r hu hr => (h3 i u r hu hr).kp hk⟩

theorem st50 {w : World} {a : Addr} {x : Option Addr} {n c : Nat} {v : Value} {K : World → Prop} (hc : w.cell? a = some v) (hf : w.frozen? a = false) : stW Tryd.prog 50 (.pointer (some a)) (.slice x n c) w K = K (w.setCell a (.slice x n c)) := by
  have e : stW Tryd.prog 50 (.pointer (some a)) (.slice x n c) w K = ((w.cell? (a.add 0)).isSome = true ∧ w.frozen? (a.add 0) = false ∧ true = true ∧ K (w.setCell (a.add 0) (.slice x n c))) := by kernel_rfl
  rw [e]
  have ha : a.add 0 = a := rfl
  simp [ha, hc, hf]

theorem IRows.chg {S : Nat → Prop} {base : Nat} {w w' : World} {v : Value} {R : List (List Int)} (h : IRows base w v R) (hc : Chg S w w') (hs : ∀ k, base ≤ k → k < w.heap.size → ¬ S k) : IRows base w' v R :=
  let ⟨vs, h1, h2, h3⟩ := h; ⟨vs, h1.chg hc fun k hk => hs k (h1.lt hk).1 (h1.lt hk).2, h2, fun i u r hu hr => (h3 i u r hu hr).chg hc fun k hk => hs k ((h3 i u r hu hr).lt hk).1 ((h3 i u r hu hr).lt hk).2⟩

/-- What was owned in w stays while blocks that came later turn. -/
theorem IRows.later {S : Nat → Prop} {base : Nat} {w w1 w2 : World} {v : Value} {R : List (List Int)} (h : IRows base w v R) (hk : Kp w w1) (hc : Chg S w1 w2) (hs : ∀ k, k < w.heap.size → ¬ S k) : IRows base w2 v R :=
  let ⟨vs, h1, h2, h3⟩ := h; ⟨vs, (h1.kp hk).chg hc fun k hk' => hs k (h1.lt hk').2, h2, fun i u r hu hr => ((h3 i u r hu hr).kp hk).chg hc fun k hk' => hs k ((h3 i u r hu hr).lt hk').2⟩

set_option maxRecDepth 100000 in
/-- append(out, row) -/
theorem r_pushRow {base : Nat} {w : World} {v : Value} {R : List (List Int)} {a : Option Addr} {n c : Nat} {r : List Int} {K : Value → World → Prop} (h : IRows base w v R) (hr : IntsAt base w (.slice a n c) r) (hn : R.length + 1 ≤ 1000000) (hb : base ≤ w.heap.size)
    (hk : ∀ v' w', IRows base w' v' (R ++ [r]) → Chg (fun k => v.ownBlock = some k) w w' → (∃ a n c, v' = .slice a n c) → K v' w') :
    bsW Tryd.prog 50 1 [(0, .slice a n c)] w fun s w => semW Tryd.prog (apS [50, 50] 50 [v, s]) w K := by
  obtain ⟨vs, h1, h2, h3⟩ := h
  refine r_pushRec (x := .slice a n c) slt50 vE_len rfl (bs50 _ _ _ _) (by intro u hu; simp at hu; subst hu; rfl) (by omega) h1 (by omega) hb fun v' w' p1 p2 p3 => ?_
  refine hk v' w' ⟨_, p1, by simp [h2], fun j u r' hu hr' => ?_⟩ p2 ?_
  · have key : ∀ u r, IntsAt base w u r → IntsAt base w' u r := fun u r hb => hb.chg p2 fun q hq => rec_ne hb h1 (by decide) q hq
    by_cases hj : j < vs.length
    · rw [List.getElem?_append_left hj] at hu
      rw [List.getElem?_append_left (by rw [← h2]; exact hj)] at hr'
      exact key u r' (h3 j u r' hu hr')
    · rw [List.getElem?_append_right (by omega)] at hu
      rw [List.getElem?_append_right (by rw [← h2]; omega), ← h2] at hr'
      match hjj : j - vs.length with
      | 0 =>
        rw [hjj] at hu hr'
        cases hu
        cases hr'
        exact key _ _ hr
      | n + 1 => rw [hjj] at hu; simp at hu
  · obtain ⟨a, c, e, _⟩ := p1.len
    exact ⟨_, _, _, e⟩

theorem own_type {α : Type} {e : TypeId} {m : Nat} {enc : α → List Value} {base : Nat} {w : World} {v : Value} {P : List α} (h : RecAt e m enc base w v P) {k : Nat} (hk : v.ownBlock = some k) : ∃ cur, w.heap[k]? = some (.cells cur e (0, 0)) := by
  rcases h.2 with ⟨rfl, _⟩ | ⟨g, cap, cur, rfl, _, hg, _⟩
  · cases hk
  · cases hk
    exact ⟨cur, hg⟩

theorem IRows.nil {base : Nat} {w : World} : IRows base w nilS [] := ⟨[], RecAt.nil, rfl, by simp⟩

theorem IRows.down {base base' : Nat} {w : World} {v : Value} {R : List (List Int)} (h : IRows base w v R) (hb : base' ≤ base) : IRows base' w v R :=
  let ⟨vs, h1, h2, h3⟩ := h; ⟨vs, h1.down hb, h2, fun i u r hu hr => (h3 i u r hu hr).down hb⟩

theorem rec_alloc {α : Type} {e : TypeId} {m : Nat} {enc : α → List Value} (he : ∀ x, (enc x).length = m) (P : List α) (hP : P.length ≤ 1000000) (w : World) : RecAt e m enc w.heap.size (w.alloc (.cells (recCells enc P).toArray e)) (.slice (some ⟨w.heap.size, 0, none⟩) P.length P.length) P := by
  have hl := recCells_length he P
  refine ⟨hl, .inr ⟨w.heap.size, P.length, _, rfl, Nat.le_refl _, heap_alloc_new w _, Nat.le_refl _, by unfold maxLen; omega, by simpa using hl, ?_⟩⟩
  rw [← hl]
  simp

theorem IRows.rd {base : Nat} {w : World} {v : Value} {R : List (List Int)} (h : IRows base w v R) (hR : R.length ≤ 1000000) (hr : ∀ r ∈ R, r.length ≤ 1000000) : RdRows w v R := by
  obtain ⟨vs, h1, h2, h3⟩ := h
  obtain ⟨a, cap, rfl, _⟩ := h1.len
  have hrow : ∀ i, i < R.length → ∃ u, vs[i]? = some u ∧ RdInts w u (R.getD i []) := fun i hi => by
    have e1 : vs[i]? = some (vs[i]'(by omega)) := List.getElem?_eq_getElem (by omega)
    have e2 : R[i]? = some (R.getD i []) := by rw [List.getElem?_eq_getElem hi, getD_lt _ _ _ hi]
    exact ⟨_, e1, ((h3 i _ _ e1 e2).rd iC_len).ints (hr _ (getD_mem hi))⟩
  refine ⟨a, cap, fun i => vs.getD i undef, by rw [h2], by omega, fun h0 => ?_, fun i hi => ?_⟩
  · obtain ⟨b, off, _, e, _, _⟩ := (h1.rd vE_len).at (i := 0) (x := vs[0]'(by omega)) (List.getElem?_eq_getElem (by omega))
    cases e
    refine ⟨b, off, rfl, fun i hi => ?_⟩
    obtain ⟨b', off', _, e', _, hc⟩ := (h1.rd vE_len).at (i := i) (x := vs[i]'(by omega)) (List.getElem?_eq_getElem (by omega))
    cases e'
    have := hc 0 _ rfl
    simp only [Nat.mul_one, Nat.add_zero] at this
    dsimp only
    rw [this, getD_lt _ _ _ (by omega)]
  · obtain ⟨u, q1, q2⟩ := hrow i hi
    have : vs.getD i undef = u := by rw [List.getD_eq_getElem?_getD, q1]; rfl
    dsimp only
    rw [this]
    exact q2

theorem st31 {w : World} {a : Addr} {x : Option Addr} {n c : Nat} {v : Value} {K : World → Prop} (hc : w.cell? a = some v) (hf : w.frozen? a = false) : stW Tryd.prog 31 (.pointer (some a)) (.slice x n c) w K = K (w.setCell a (.slice x n c)) := by
  have e : stW Tryd.prog 31 (.pointer (some a)) (.slice x n c) w K = ((w.cell? (a.add 0)).isSome = true ∧ w.frozen? (a.add 0) = false ∧ true = true ∧ K (w.setCell (a.add 0) (.slice x n c))) := by kernel_rfl
  rw [e]
  have ha : a.add 0 = a := rfl
  simp [ha, hc, hf]

/-- make([][]int, n) -/
theorem mk50 {n : Nat} {w : World} {K : Value → World → Prop} (hn : n ≤ 1000000) (h : ∀ v w', RecAt 31 1 vE w.heap.size w' v (List.replicate n nilS) → Kp w w' → K v w') :
    mkW Tryd.prog 50 (.int .i64 n) (.int .i64 n) w K := by
  have e : ∀ (l : Int) (K : Value → World → Prop), mkW Tryd.prog 50 (.int .i64 l) (.int .i64 l) w K = (0 ≤ l ∧ l ≤ l ∧ l ≤ 4611686018427387904 ∧ ((24 : Nat) : Int) * l ≤ 281474976710656 ∧ 0 < 1 ∧
      K (.slice (some ⟨w.heap.size, 0, none⟩) l.toNat l.toNat) (w.alloc (.cells (mkCells #[.slice none 0 0] (l.toNat * 1)) 31))) := fun l K => by kernel_rfl
  rw [e]
  refine ⟨by omega, by omega, by omega, by omega, by omega, ?_⟩
  rw [Nat.mul_one, mkCells_one, Int.toNat_natCast]
  exact h _ _ (made_rec (x := nilS) (enc := vE) rfl hn w) (below_alloc _)

theorem bs31_0 (w : World) (K : Value → World → Prop) : bsW Tryd.prog 31 0 [] w K = K (.slice (some ⟨w.heap.size, 0, none⟩) 0 0) (w.alloc (.cells #[] 3)) := by kernel_rfl

theorem r_nilT {w : World} {K : Value → Prop} (h : K (.bool true)) : binQ Tryd.prog w .eql 31 true nilS nilS K := ⟨.bool true, fun w' _ => by kernel_rfl, h⟩

theorem r_nilF {w : World} {a : Addr} {n c : Nat} {K : Value → Prop} (h : K (.bool false)) : binQ Tryd.prog w .eql 31 true (.slice (some a) n c) nilS K := ⟨.bool false, fun w' _ => by kernel_rfl, h⟩

set_option maxRecDepth 100000 in
/-- append([]int{}, l...): a copy. -/
theorem r_copyI {w : World} {v : Value} {l : List Int} {K : Value → World → Prop} (hr : RdInts w v l) (hl : l.length ≤ 1000000)
    (hk : ∀ v' w', IntsAt w.heap.size w' v' l → Kp w w' → v' ≠ nilS → K v' w') :
    bsW Tryd.prog 31 0 [] w fun s w => semW Tryd.prog (apS [31, 31] 31 [s, v]) w K := by
  rw [bs31_0]
  have hk1 : Kp w (w.alloc (.cells #[] 3)) := below_alloc _
  have hown : (w.alloc (.cells #[] 3)).ownsRow w.heap.size 3 1 (.slice (some ⟨w.heap.size, 0, none⟩) 0 0) 0 [] := ⟨rfl, .inr ⟨w.heap.size, 0, #[], rfl, Nat.le_refl _, heap_alloc_new w _, Nat.le_refl _, by unfold maxLen; omega, rfl, rfl⟩⟩
  obtain ⟨a, cap, rfl, _, hh⟩ := hr.below hk1
  have hsz : w.heap.size ≤ (w.alloc (.cells #[] 3)).heap.size := hk1.size
  cases l with
  | nil => exact r_ap0 slt31 hown (hk _ _ hown hk1 (by intro e; cases e))
  | cons x l =>
    obtain ⟨b, off, rfl, hc⟩ := hh (by simp)
    refine r_ap (xs := []) (news := intCells (x :: l)) slt31 hown (by simp [intCells]) (fun j u hj => ?_) intCells_one (by simp at hl ⊢; omega) (by omega) hsz fun v' w' ho hg hn => ?_
    · have hlt : j < (x :: l).length := by
        have := (List.getElem?_eq_some_iff.1 hj).1
        simpa [intCells] using this
      rw [r_addr, hc j hlt]
      rw [← hj, intCells, List.getElem?_map, List.getElem?_eq_getElem hlt]
      rw [getD_lt _ _ _ hlt]; rfl
    · refine hk _ _ ?_ (Kp.of_chg hk1 (Chg.of_grown (S := fun k => k = w.heap.size) hg fun k e => by cases e; rfl) fun i e => by omega) fun e => ?_
      · have e2 : recCells iC (x :: l) = intCells (x :: l) := by rw [rec_ints]; rfl
        unfold IntsAt RecAt
        rw [e2]
        simpa using ho
      · have := (hn.1 e).2
        simp at this

theorem ints_slice {base : Nat} {w : World} {v : Value} {l : List Int} (h : IntsAt base w v l) : v.oneCell' = true := by
  obtain ⟨a, cap, rfl, _⟩ := h.len
  rfl

set_option maxRecDepth 100000 in
/-- append(nil, l...) at integers. -/
theorem r_copyN {w : World} {v : Value} {l : List Int} {K : Value → World → Prop} (hr : RdInts w v l) (hl : l.length ≤ 1000000)
    (hk : ∀ v' w', IntsAt w.heap.size w' v' l → Kp w w' → K v' w') : semW Tryd.prog (apS [31, 31] 31 [nilS, v]) w K := by
  have hown : w.ownsRow w.heap.size 3 1 nilS 0 [] := World.ownsRow_nil _ _ _ _
  obtain ⟨a, cap, rfl, _, hh⟩ := hr
  cases l with
  | nil => exact r_ap0 slt31 hown (hk _ _ hown (Kp.refl _))
  | cons x l =>
    obtain ⟨b, off, rfl, hc⟩ := hh (by simp)
    refine r_ap (xs := []) (news := intCells (x :: l)) slt31 hown (by simp [intCells]) (fun j u hj => ?_) intCells_one (by simp at hl ⊢; omega) (by omega) (Nat.le_refl _) fun v' w' ho hg hn => ?_
    · have hlt : j < (x :: l).length := by
        have := (List.getElem?_eq_some_iff.1 hj).1
        simpa [intCells] using this
      rw [r_addr, hc j hlt]
      rw [← hj, intCells, List.getElem?_map, List.getElem?_eq_getElem hlt]
      rw [getD_lt _ _ _ hlt]; rfl
    · refine hk _ _ ?_ (Kp.of_chg (Kp.refl _) (Chg.of_grown (S := fun _ => False) hg fun k e => by cases e) fun i e => e.elim)
      have e2 : recCells iC (x :: l) = intCells (x :: l) := by rw [rec_ints]; rfl
      unfold IntsAt RecAt
      rw [e2]
      simpa using ho

set_option maxRecDepth 100000 in
/-- append(out, rows...) -/
theorem r_apRows {base base' : Nat} {w : World} {v v' : Value} {R R' : List (List Int)} {K : Value → World → Prop} (h : IRows base w v R) (h' : IRows base' w v' R') (hb' : base ≤ base') (hn : R.length + R'.length ≤ 1000000) (hb : base ≤ w.heap.size)
    (hk : ∀ v2 w2, IRows base w2 v2 (R ++ R') → Chg (fun k => v.ownBlock = some k) w w2 → K v2 w2) : semW Tryd.prog (apS [50, 50] 50 [v, v']) w K := by
  have h0 := h
  obtain ⟨vs, h1, h2, h3⟩ := h
  obtain ⟨vs', g1, g2, g3⟩ := h'
  obtain ⟨a', cap', ev', _⟩ := g1.len
  by_cases h00 : vs'.length = 0
  · have e : R' = [] := List.length_eq_zero_iff.1 (by omega)
    rw [h00] at ev'
    subst ev'
    subst e
    exact r_ap0 slt50 h1 (hk _ _ (by rw [List.append_nil]; exact h0) (Chg.refl _ _))
  obtain ⟨g, cap, cur, ev, hgb, hg, hle, hm, hs, ht⟩ := g1.blk (by omega)
  rw [ev]
  have ecell : recCells vE vs' = vs' := by simp [recCells]
  rw [ecell] at ht
  refine r_ap (xs := recCells vE vs) (news := vs') (m := vs'.length) slt50 h1 (by simp) (fun j u hj => ?_) (fun u hu => ?_) (by omega) (by omega) hb fun v2 w2 ho hgr _ => ?_
  · have hlt := (List.getElem?_eq_some_iff.1 hj).1
    rw [r_addr, Nat.zero_add, cell_row hg]
    rw [← ht, List.getElem?_take, if_pos (by omega)] at hj
    simpa using hj
  · obtain ⟨i, hi, rfl⟩ := List.getElem_of_mem hu
    exact ints_slice (g3 i _ _ (List.getElem?_eq_getElem hi) (List.getElem?_eq_getElem (by omega)))
  · have hc : Chg (fun k => v.ownBlock = some k) w w2 := Chg.of_grown hgr fun k hk => hk
    have key : ∀ b u r, IntsAt b w u r → IntsAt b w2 u r := fun b u r hb => hb.chg hc fun q hq => rec_ne hb h1 (by decide) q hq
    refine hk v2 w2 ⟨vs ++ vs', ?_, by simp; omega, fun j u r hu hr => ?_⟩ hc
    · unfold RecAt
      rw [recCells_append, List.length_append, ecell]
      exact ho
    · by_cases hj : j < vs.length
      · rw [List.getElem?_append_left hj] at hu
        rw [List.getElem?_append_left (by omega)] at hr
        exact key _ _ _ (h3 j u r hu hr)
      · rw [List.getElem?_append_right (by omega)] at hu
        rw [List.getElem?_append_right (by omega), ← h2] at hr
        exact (key _ _ _ (g3 _ u r hu hr)).down hb'

theorem IRows.one {base : Nat} {w : World} {a : Option Addr} {n c : Nat} {r : List Int} (h : IntsAt base w (.slice a n c) r) (hb : base ≤ w.heap.size) : IRows base (w.alloc (.cells #[.slice a n c] 31)) (.slice (some ⟨w.heap.size, 0, none⟩) 1 1) [r] := by
  have o := rec_one (e := 31) (enc := vE) (x := .slice a n c) rfl w
  refine ⟨[.slice a n c], o.down hb, rfl, fun i u r' hu hr => ?_⟩
  match i with
  | 0 =>
    cases hu
    cases hr
    exact h.kp (below_alloc _)
  | i + 1 => simp at hu

theorem addr_add0 (a : Addr) : a.add 0 = a := by
  cases a with
  | mk b o h => cases h <;> rfl

/-- s[:j] -/
theorem r_slTo {sz : Nat} {a : Option Addr} {n c : Nat} {j : Int} {k : IntKind} {K : Value → Prop} (h0 : 0 ≤ j) (h1 : j ≤ c) : slS sz (.slice a n c) none (some (.int k j)) K = K (.slice a j.toNat c) := by
  have e : (if c = 0 then a else a.map fun x => x.add (0 * sz)) = a := by
    split
    · rfl
    · cases a with
      | none => rfl
      | some x => simp [addr_add0]
  simp only [slS, cutQ, bnd, h0, h1, and_self, if_true, Nat.sub_zero, e]

/-- s[j:] -/
theorem r_slFrom {sz : Nat} {a : Option Addr} {n c : Nat} {j : Int} {k : IntKind} {K : Value → Prop} (h0 : 0 ≤ j) (h1 : j ≤ n) : slS sz (.slice a n c) (some (.int k j)) none K = K (.slice (if c = j.toNat then a else a.map fun x => x.add (j.toNat * sz)) (n - j.toNat) (c - j.toNat)) := by
  simp only [slS, cutQ, bnd, h0, h1, and_self, if_true]

/-- The number at row i, column j. -/
def hat (h : List (List Int)) (i j : Nat) : Int := (h.getD i []).getD j 0

/-- h with x at row i, column j. -/
def put2 (h : List (List Int)) (i j : Nat) (x : Int) : List (List Int) := h.set i ((h.getD i []).set j x)

theorem put2_length (h : List (List Int)) (i j : Nat) (x : Int) : (put2 h i j x).length = h.length := by simp [put2]

theorem put2_row (h : List (List Int)) (i j k : Nat) (x : Int) (hi : i < h.length) : (put2 h i j x).getD k [] = if k = i then (h.getD i []).set j x else h.getD k [] := by
  by_cases hk : k = i
  · subst hk; simp [put2, hi]
  · simp [put2, hk, List.getElem?_set_ne (Ne.symm hk)]

theorem put2_len (h : List (List Int)) (i j k : Nat) (x : Int) (hi : i < h.length) : ((put2 h i j x).getD k []).length = (h.getD k []).length := by
  rw [put2_row h i j k x hi]; split
  · subst_vars; simp
  · rfl

theorem put2_hat (h : List (List Int)) (i j k l : Nat) (x : Int) (hi : i < h.length) (hj : j < (h.getD i []).length) : hat (put2 h i j x) k l = if k = i ∧ l = j then x else hat h k l := by
  unfold hat
  rw [put2_row h i j k x hi]
  by_cases hk : k = i
  · subst hk
    rw [if_pos rfl]
    by_cases hl : l = j
    · subst hl
      rw [if_pos ⟨rfl, rfl⟩, List.getD_eq_getElem?_getD, List.getElem?_set_self hj]; rfl
    · rw [if_neg (fun e => hl e.2), List.getD_eq_getElem?_getD, List.getElem?_set_ne (Ne.symm hl), ← List.getD_eq_getElem?_getD]
  · rw [if_neg hk, if_neg (fun e => hk e.1)]

/-- h has A rows of B numbers. -/
def Sized (A B : Nat) (h : List (List Int)) : Prop := h.length = A ∧ ∀ i, i < A → (h.getD i []).length = B

theorem put2_sized {A B : Nat} {h : List (List Int)} (hs : Sized A B h) {i j : Nat} (hi : i < A) (x : Int) : Sized A B (put2 h i j x) :=
  ⟨by rw [put2_length]; exact hs.1, fun k hk => by rw [put2_len _ _ _ _ _ (by rw [hs.1]; exact hi)]; exact hs.2 k hk⟩

end Go.Proofs.YtbekeccfjmoonaaDoor

/- Appending records to records. -/
namespace Go.Proofs.YtbekeccfjmoonaaDoor
open Go.Lf Go.RowKit

section
variable {α : Type} {m : Nat} {enc : α → List Value}
theorem recCells_get (he : ∀ x, (enc x).length = m) : ∀ (P : List α) (q : Nat) (u : Value), (recCells enc P)[q]? = some u → ∃ i x j, P[i]? = some x ∧ (enc x)[j]? = some u ∧ q = i * m + j
  | [], q, u, h => by simp [recCells] at h
  | p :: P, q, u, h => by
    by_cases hq : q < m
    · refine ⟨0, p, q, rfl, ?_, by omega⟩
      simp only [recCells, List.flatMap_cons] at h
      rwa [List.getElem?_append_left (by rw [he]; exact hq)] at h
    · simp only [recCells, List.flatMap_cons] at h
      rw [List.getElem?_append_right (by rw [he]; omega), he] at h
      obtain ⟨i, x, j, h1, h2, h3⟩ := recCells_get he P (q - m) u h
      exact ⟨i + 1, x, j, h1, h2, by rw [Nat.add_mul]; omega⟩

theorem RecAt.row {e : TypeId} {base : Nat} {w : World} {v : Value} {P : List α} (h : RecAt e m enc base w v P) {k : Nat} (hk : v.ownBlock = some k) : ∃ cur, w.heap[k]? = some (.cells cur e (0, 0)) := by
  rcases h.2 with ⟨rfl, _⟩ | ⟨g, cap, cur, rfl, _, hg, _⟩
  · cases hk
  · cases hk
    exact ⟨cur, hg⟩

set_option maxRecDepth 100000 in
/-- append(v, src...) at records, src any slice that reads as L. -/
theorem r_apRec {bytes base : Nat} {t e ty : TypeId} {w : World} {v src : Value} {P L : List α} {K : Value → World → Prop} (T : SlT t e m bytes) (he : ∀ x, (enc x).length = m)
    (h1 : ∀ x, ∀ u ∈ enc x, u.oneCell' = true) (hby : bytes ≤ 128) (h : RecAt e m enc base w v P) (hs : Rd m enc w src L) (hn : P.length + L.length ≤ 1000000) (hb : base ≤ w.heap.size)
    (hk : ∀ v' w', RecAt e m enc base w' v' (P ++ L) → Chg (fun k => v.ownBlock = some k) w w' → (∀ k, v'.ownBlock = some k → v.ownBlock = some k ∨ w.heap.size ≤ k) → K v' w') :
    semW Tryd.prog (apS [t, t] ty [v, src]) w K := by
  obtain ⟨a, cap, rfl, hl, hc⟩ := hs
  by_cases h0 : 0 < L.length
  · obtain ⟨b, off, rfl, hcell⟩ := hc h0
    refine r_apAt (news := recCells enc L) T h (recCells_length he L) (fun j u hj => ?_) (fun u hu => ?_) (by omega) hby hb fun v' w' ho c hat => hk v' w' ?_ c hat
    · obtain ⟨i, x, j', e1, e2, rfl⟩ := recCells_get he L j u hj
      rw [r_addr, ← Nat.add_assoc]
      exact hcell i x e1 j' u e2
    · obtain ⟨x, _, hx⟩ := List.mem_flatMap.1 hu
      exact h1 x u hx
    · unfold RecAt
      rw [recCells_append, List.length_append]
      exact ho
  · have e0 : L = [] := List.length_eq_zero_iff.1 (by omega)
    subst e0
    refine r_ap0 T h (hk v w (by simpa using h) (Chg.refl _ _) fun k hk => .inl hk)
end

end Go.Proofs.YtbekeccfjmoonaaDoor
