/- Texts of my own, merged by program: Gr Mt Sa. -/
import Derived.Test.YtkdcldbedbagjaaDoorN03
import Derived.Laws.CopyRow
import Derived.Test.YtkdcldbedbagjaaDoorN02
set_option linter.all false
/- The ground: lists of integers and of such lists in memory; copies, appends. -/
namespace Go.Proofs.YtkdcldbedbagjaaDoor
open Go.Lf Go.RowKit

theorem getD_mem {α : Type} {l : List α} {i : Nat} {d : α} (h : i < l.length) : l.getD i d ∈ l := by
  rw [List.getD_eq_getElem?_getD, List.getElem?_eq_getElem h]
  exact List.getElem_mem h

abbrev nilS : Value := .slice none 0 0

set_option maxRecDepth 100000 in
/-- append(v, xs...) where v is one's own, and where the new slice lies. -/
theorem r_apAt {t e ty : TypeId} {size bytes base n m c : Nat} {v : Value} {xs news : List Value} {a : Addr} {w : World} {K : Value → World → Prop} (T : SlT t e size bytes)
    (hown : w.ownsRow base e size v n xs) (hl : news.length = m * size) (hnews : ∀ j u, news[j]? = some u → w.cell? (a.add j) = some u) (h1 : ∀ u ∈ news, u.oneCell' = true)
    (hn : n + m ≤ 1099511627776) (hby : bytes ≤ 128) (hb : base ≤ w.heap.size)
    (hk : ∀ v' w', w'.ownsRow base e size v' (n + m) (xs ++ news) → Chg (fun k => v.ownBlock = some k) w w' → (∀ k, v'.ownBlock = some k → v.ownBlock = some k ∨ w.heap.size ≤ k) → K v' w') : semW Tryd.prog (apS [t, t] ty [v, .slice (some a) m c]) w K := by
  obtain ⟨i, z, i1, i2, i3, i4, i5⟩ := T.info
  have hb2 : (n + m) * bytes ≤ 140737488355328 := Nat.le_trans (Nat.mul_le_mul hn hby) (by decide)
  obtain ⟨v', w', hr, ho, hg, _, hat⟩ := run_append_own_at (P := Tryd.prog) (w := w) base t ty e i z size bytes T.und i1 i2 i3 i4 i5 T.pos v n xs hown a m c news hl hnews h1 (by unfold maxLen; omega) hb2 hb
  refine semW_of_run (by simp [apS, hr]) (hk v' w' ho (Chg.of_grown hg fun k hk => hk) fun k hk => ?_)
  rcases hat with h | h
  · exact .inl (h ▸ hk)
  · rw [h] at hk
    cases hk
    exact .inr (by omega)

def iC (n : Int) : List Value := [.int .i64 n]

def bC (b : Bool) : List Value := [.bool b]

theorem iC_len (n : Int) : (iC n).length = 1 := rfl

theorem bC_len (b : Bool) : (bC b).length = 1 := rfl

abbrev IntsAt (base : Nat) (w : World) (v : Value) (l : List Int) : Prop := RecAt 3 1 iC base w v l

abbrev BoolsAt (base : Nat) (w : World) (v : Value) (l : List Bool) : Prop := RecAt 4 1 bC base w v l

theorem rec_ints : ∀ l : List Int, recCells iC l = l.map (.int .i64)
  | [] => rfl
  | a :: l => by
    have := rec_ints l
    simp only [recCells, List.flatMap_cons, List.map_cons] at this ⊢
    rw [this]; rfl

theorem rec_bools : ∀ l : List Bool, recCells bC l = l.map .bool
  | [] => rfl
  | a :: l => by
    have := rec_bools l
    simp only [recCells, List.flatMap_cons, List.map_cons] at this ⊢
    rw [this]; rfl

theorem Rd.ints {w : World} {v : Value} {l : List Int} (h : Rd 1 iC w v l) (hl : l.length ≤ 1000000) : RdInts w v l := by
  obtain ⟨a, cap, rfl, hlc, hh⟩ := h
  refine ⟨a, cap, rfl, by omega, fun h0 => ?_⟩
  obtain ⟨b, off, rfl, hc⟩ := hh h0
  refine ⟨b, off, rfl, fun i hi => ?_⟩
  have := hc i l[i] (List.getElem?_eq_getElem hi) 0 _ rfl
  rw [getD_lt _ _ _ hi]
  simpa using this

theorem slt85 : SlT 85 4 1 1 := SlT.mk' (z := .bool false) (by kernel_rfl) (by kernel_rfl) rfl (by decide)

/-- A block that was made holds so many of one. -/
theorem made_rec {α : Type} {e : TypeId} {enc : α → List Value} {x : α} {z : Value} (hz : enc x = [z]) {n : Nat} (hn : n ≤ 1000000) (w : World) : RecAt e 1 enc w.heap.size (w.alloc (.cells (Array.replicate n z) e)) (.slice (some ⟨w.heap.size, 0, none⟩) n n) (List.replicate n x) := by
  have e1 : recCells enc (List.replicate n x) = List.replicate n z := by
    unfold recCells
    induction n with
    | zero => rfl
    | succ n ih => rw [List.replicate_succ, List.flatMap_cons, ih (by omega), hz]; rfl
  refine ⟨by rw [e1]; simp, .inr ⟨w.heap.size, n, _, by simp, Nat.le_refl _, heap_alloc_new w _, by simp, by unfold maxLen; omega, by simp, ?_⟩⟩
  rw [e1]
  simp

/-- make([]bool, n) -/
theorem mk85 {n : Nat} {w : World} {K : Value → World → Prop} (hn : n ≤ 1000000) (h : ∀ v w', BoolsAt w.heap.size w' v (List.replicate n false) → Kp w w' → v.ownBlock = some w.heap.size → K v w') :
    mkW Tryd.prog 85 (.int .i64 n) (.int .i64 n) w K := by
  have e : ∀ (l : Int) (K : Value → World → Prop), mkW Tryd.prog 85 (.int .i64 l) (.int .i64 l) w K = (0 ≤ l ∧ l ≤ l ∧ l ≤ 4611686018427387904 ∧ ((1 : Nat) : Int) * l ≤ 281474976710656 ∧ 0 < 1 ∧
      K (.slice (some ⟨w.heap.size, 0, none⟩) l.toNat l.toNat) (w.alloc (.cells (mkCells #[.bool false] (l.toNat * 1)) 4))) := fun l K => by kernel_rfl
  rw [e]
  refine ⟨by omega, by omega, by omega, by omega, by omega, ?_⟩
  rw [Nat.mul_one, mkCells_one, Int.toNat_natCast]
  exact h _ _ (made_rec (x := false) (enc := bC) rfl hn w) (below_alloc _) rfl

set_option maxRecDepth 100000 in
/-- make([]int, n) -/
theorem mk34' {n : Nat} {w : World} {K : Value → World → Prop} (hn : n ≤ 1000000) (h : ∀ v w', IntsAt w.heap.size w' v (List.replicate n 0) → Kp w w' → v.ownBlock = some w.heap.size → K v w') :
    mkW Tryd.prog 34 (.int .i64 n) (.int .i64 n) w K :=
  mk34 (by omega) (h _ _ (made_rec (x := (0 : Int)) (enc := iC) rfl hn w) (below_alloc _) rfl)

set_option maxRecDepth 100000 in
/-- copy(d, s) at elements of one cell. -/
theorem r_cp {t elem : TypeId} {bytes : Nat} (T : SlT t elem 1 bytes) {w : World} {g o dLen dCap : Nat} {a : Addr} {sLen sCap : Nat} {cur : Array Value} {ty : TypeId} {cs : List Value} {K : Value → World → Prop}
    (hg : w.heap[g]? = some (.cells cur ty (0, 0))) (hn : cs.length = min sLen dLen) (hsrc : ∀ j v, cs[j]? = some v → w.cell? (a.add j) = some v) (hfit : o + cs.length ≤ cur.size) (h1 : ∀ v ∈ cs, v.oneCell' = true)
    (hk : ∀ w', Chg (fun k => k = g) w w' → w'.heap.size = w.heap.size → w'.heap[g]? = some (.cells (cur.toList.take o ++ cs ++ cur.toList.drop (o + cs.length)).toArray ty (0, 0)) → K (.int .i64 cs.length) w') :
    semW Tryd.prog (cpS [t, t] 3 [.slice (some ⟨g, o, none⟩) dLen dCap, .slice (some a) sLen sCap]) w K := by
  obtain ⟨i, z, i1, i2, i3, i4, i5⟩ := T.info
  have hr := run_copy_row (P := Tryd.prog) w t t 3 elem g o dLen dCap a sLen sCap cur ty cs T.und (by simp [i1, i3]) hg hn hsrc hfit h1
  refine semW_of_run (v := goInt cs.length) (w' := w.setRow g (cur.toList.take o ++ cs ++ cur.toList.drop (o + cs.length)).toArray) (by simp [cpS, hr]) (hk _ ⟨rfl, rfl, rfl, by simp [World.setRow], fun k _ hne => by simp [World.setRow, Array.getElem?_modify, Ne.symm hne]⟩ (by simp [World.setRow]) (setRow_heap _ _ _ _ _ _ hg))

theorem IntsAt.put {base : Nat} {w : World} {v : Value} {l : List Int} (h : IntsAt base w v l) {q : Nat} (hq : q < l.length) (x : Int) :
    ∃ g cap, v = .slice (some ⟨g, 0, none⟩) l.length cap ∧ base ≤ g ∧ w.cell? ⟨g, q, none⟩ = some (.int .i64 (l.getD q 0)) ∧ w.frozen? ⟨g, q, none⟩ = false ∧ IntsAt base (w.setCell ⟨g, q, none⟩ (.int .i64 x)) v (l.set q x) := by
  obtain ⟨g, cap, e, hb, _, hf, hr⟩ := RecAt.set (j := 0) (p' := x) (u := .int .i64 x) iC_len h (List.getElem?_eq_getElem hq) (by omega) rfl
  simp only [Nat.mul_one, Nat.add_zero] at hf hr
  refine ⟨g, cap, e, hb, ?_, hf, hr⟩
  obtain ⟨b, off, _, e2, _, hc⟩ := (h.rd iC_len).at (List.getElem?_eq_getElem hq)
  rw [e] at e2
  cases e2
  have := hc 0 _ rfl
  rw [getD_lt _ _ _ hq]
  simpa using this

theorem BoolsAt.put {base : Nat} {w : World} {v : Value} {l : List Bool} (h : BoolsAt base w v l) {q : Nat} (hq : q < l.length) (x : Bool) :
    ∃ g cap, v = .slice (some ⟨g, 0, none⟩) l.length cap ∧ base ≤ g ∧ w.cell? ⟨g, q, none⟩ = some (.bool (l.getD q false)) ∧ w.frozen? ⟨g, q, none⟩ = false ∧ BoolsAt base (w.setCell ⟨g, q, none⟩ (.bool x)) v (l.set q x) := by
  obtain ⟨g, cap, e, hb, _, hf, hr⟩ := RecAt.set (j := 0) (p' := x) (u := .bool x) bC_len h (List.getElem?_eq_getElem hq) (by omega) rfl
  simp only [Nat.mul_one, Nat.add_zero] at hf hr
  refine ⟨g, cap, e, hb, ?_, hf, hr⟩
  obtain ⟨b, off, _, e2, _, hc⟩ := (h.rd bC_len).at (List.getElem?_eq_getElem hq)
  rw [e] at e2
  cases e2
  have := hc 0 _ rfl
  rw [getD_lt _ _ _ hq]
  simpa using this

abbrev vE (u : Value) : List Value := [u]

theorem vE_len (u : Value) : (vE u).length = 1 := rfl

theorem rec_one {α : Type} {e : TypeId} {enc : α → List Value} {x : α} {z : Value} (hz : enc x = [z]) (w : World) : RecAt e 1 enc w.heap.size (w.alloc (.cells #[z] e)) (.slice (some ⟨w.heap.size, 0, none⟩) 1 1) [x] := by
  have e1 : recCells enc [x] = [z] := by simp [recCells, hz]
  refine ⟨by rw [e1]; rfl, .inr ⟨w.heap.size, 1, _, rfl, Nat.le_refl _, heap_alloc_new w _, Nat.le_refl _, by unfold maxLen; omega, rfl, ?_⟩⟩
  rw [e1]
  rfl

/-- Blocks of different types are different. -/
theorem rec_ne {α β : Type} {e e' : TypeId} {m m' : Nat} {enc : α → List Value} {enc' : β → List Value} {base base' : Nat} {w : World} {v v' : Value} {P : List α} {Q : List β} (h : RecAt e m enc base w v P) (h' : RecAt e' m' enc' base' w v' Q) (hne : e ≠ e') : ∀ k, v.ownBlock = some k → v'.ownBlock ≠ some k := by
  intro k hk hk'
  rcases h.2 with ⟨rfl, _⟩ | ⟨g, cap, cur, rfl, _, hg, _⟩
  · cases hk
  rcases h'.2 with ⟨rfl, _⟩ | ⟨g', cap', cur', rfl, _, hg', _⟩
  · cases hk'
  cases hk
  injection hk' with hk'
  dsimp only at hk'
  subst hk'
  rw [hg] at hg'
  injection hg' with hg'
  injection hg' with _ h3 _
  exact hne h3

/-- Lists of integers, each in memory of its own. -/
def IRows (base : Nat) (w : World) (v : Value) (R : List (List Int)) : Prop :=
  ∃ vs : List Value, RecAt 34 1 vE base w v vs ∧ vs.length = R.length ∧ ∀ (i : Nat) (u : Value) (r : List Int), vs[i]? = some u → R[i]? = some r → IntsAt base w u r

theorem IRows.kp {base : Nat} {w w' : World} {v : Value} {R : List (List Int)} (h : IRows base w v R) (hk : Kp w w') : IRows base w' v R :=
  let ⟨vs, h1, h2, h3⟩ := h; ⟨vs, h1.kp hk, h2, fun i u r hu hr => (h3 i u r hu hr).kp hk⟩

theorem st52 {w : World} {a : Addr} {x : Option Addr} {n c : Nat} {v : Value} {K : World → Prop} (hc : w.cell? a = some v) (hf : w.frozen? a = false) : stW Tryd.prog 52 (.pointer (some a)) (.slice x n c) w K = K (w.setCell a (.slice x n c)) := by
  have e : stW Tryd.prog 52 (.pointer (some a)) (.slice x n c) w K = ((w.cell? (a.add 0)).isSome = true ∧ w.frozen? (a.add 0) = false ∧ true = true ∧ K (w.setCell (a.add 0) (.slice x n c))) := by kernel_rfl
  rw [e]
  have ha : a.add 0 = a := rfl
  simp [ha, hc, hf]

theorem IRows.chg {S : Nat → Prop} {base : Nat} {w w' : World} {v : Value} {R : List (List Int)} (h : IRows base w v R) (hc : Chg S w w') (hs : ∀ k, base ≤ k → k < w.heap.size → ¬ S k) : IRows base w' v R :=
  let ⟨vs, h1, h2, h3⟩ := h; ⟨vs, h1.chg hc fun k hk => hs k (h1.lt hk).1 (h1.lt hk).2, h2, fun i u r hu hr => (h3 i u r hu hr).chg hc fun k hk => hs k ((h3 i u r hu hr).lt hk).1 ((h3 i u r hu hr).lt hk).2⟩

/-- What was owned in w stays while blocks that came later turn. -/
theorem IRows.later {S : Nat → Prop} {base : Nat} {w w1 w2 : World} {v : Value} {R : List (List Int)} (h : IRows base w v R) (hk : Kp w w1) (hc : Chg S w1 w2) (hs : ∀ k, k < w.heap.size → ¬ S k) : IRows base w2 v R :=
  let ⟨vs, h1, h2, h3⟩ := h; ⟨vs, (h1.kp hk).chg hc fun k hk' => hs k (h1.lt hk').2, h2, fun i u r hu hr => ((h3 i u r hu hr).kp hk).chg hc fun k hk' => hs k ((h3 i u r hu hr).lt hk').2⟩

set_option maxRecDepth 100000 in
/-- append(out, row) -/
theorem r_pushRow {base : Nat} {w : World} {v : Value} {R : List (List Int)} {a : Option Addr} {n c : Nat} {r : List Int} {K : Value → World → Prop} (h : IRows base w v R) (hr : IntsAt base w (.slice a n c) r) (hn : R.length + 1 ≤ 1000000) (hb : base ≤ w.heap.size)
    (hk : ∀ v' w', IRows base w' v' (R ++ [r]) → Chg (fun k => v.ownBlock = some k) w w' → (∃ a n c, v' = .slice a n c) → K v' w') :
    bsW Tryd.prog 52 1 [(0, .slice a n c)] w fun s w => semW Tryd.prog (apS [52, 52] 52 [v, s]) w K := by
  obtain ⟨vs, h1, h2, h3⟩ := h
  refine r_pushRec (x := .slice a n c) slt52 vE_len rfl (bs52 _ _ _ _) (by intro u hu; simp at hu; subst hu; rfl) (by omega) h1 (by omega) hb fun v' w' p1 p2 p3 => ?_
  refine hk v' w' ⟨_, p1, by simp [h2], fun j u r' hu hr' => ?_⟩ p2 ?_
  · have key : ∀ u r, IntsAt base w u r → IntsAt base w' u r := fun u r hb => hb.chg p2 fun q hq => rec_ne hb h1 (by decide) q hq
    by_cases hj : j < vs.length
    · rw [List.getElem?_append_left hj] at hu
      rw [List.getElem?_append_left (by rw [← h2]; exact hj)] at hr'
      exact key u r' (h3 j u r' hu hr')
    · rw [List.getElem?_append_right (by omega)] at hu
      rw [List.getElem?_append_right (by rw [← h2]; omega), ← h2] at hr'
      match hjj : j - vs.length with
      | 0 =>
        rw [hjj] at hu hr'
        cases hu
        cases hr'
        exact key _ _ hr
      | n + 1 => rw [hjj] at hu; simp at hu
  · obtain ⟨a, c, e, _⟩ := p1.len
    exact ⟨_, _, _, e⟩

theorem own_type {α : Type} {e : TypeId} {m : Nat} {enc : α → List Value} {base : Nat} {w : World} {v : Value} {P : List α} (h : RecAt e m enc base w v P) {k : Nat} (hk : v.ownBlock = some k) : ∃ cur, w.heap[k]? = some (.cells cur e (0, 0)) := by
  rcases h.2 with ⟨rfl, _⟩ | ⟨g, cap, cur, rfl, _, hg, _⟩
  · cases hk
  · cases hk
    exact ⟨cur, hg⟩

theorem IRows.nil {base : Nat} {w : World} : IRows base w nilS [] := ⟨[], RecAt.nil, rfl, by simp⟩

theorem IRows.down {base base' : Nat} {w : World} {v : Value} {R : List (List Int)} (h : IRows base w v R) (hb : base' ≤ base) : IRows base' w v R :=
  let ⟨vs, h1, h2, h3⟩ := h; ⟨vs, h1.down hb, h2, fun i u r hu hr => (h3 i u r hu hr).down hb⟩

theorem rec_alloc {α : Type} {e : TypeId} {m : Nat} {enc : α → List Value} (he : ∀ x, (enc x).length = m) (P : List α) (hP : P.length ≤ 1000000) (w : World) : RecAt e m enc w.heap.size (w.alloc (.cells (recCells enc P).toArray e)) (.slice (some ⟨w.heap.size, 0, none⟩) P.length P.length) P := by
  have hl := recCells_length he P
  refine ⟨hl, .inr ⟨w.heap.size, P.length, _, rfl, Nat.le_refl _, heap_alloc_new w _, Nat.le_refl _, by unfold maxLen; omega, by simpa using hl, ?_⟩⟩
  rw [← hl]
  simp

theorem IRows.rd {base : Nat} {w : World} {v : Value} {R : List (List Int)} (h : IRows base w v R) (hR : R.length ≤ 1000000) (hr : ∀ r ∈ R, r.length ≤ 1000000) : RdRows w v R := by
  obtain ⟨vs, h1, h2, h3⟩ := h
  obtain ⟨a, cap, rfl, _⟩ := h1.len
  have hrow : ∀ i, i < R.length → ∃ u, vs[i]? = some u ∧ RdInts w u (R.getD i []) := fun i hi => by
    have e1 : vs[i]? = some (vs[i]'(by omega)) := List.getElem?_eq_getElem (by omega)
    have e2 : R[i]? = some (R.getD i []) := by rw [List.getElem?_eq_getElem hi, getD_lt _ _ _ hi]
    exact ⟨_, e1, ((h3 i _ _ e1 e2).rd iC_len).ints (hr _ (getD_mem hi))⟩
  refine ⟨a, cap, fun i => vs.getD i undef, by rw [h2], by omega, fun h0 => ?_, fun i hi => ?_⟩
  · obtain ⟨b, off, _, e, _, _⟩ := (h1.rd vE_len).at (i := 0) (x := vs[0]'(by omega)) (List.getElem?_eq_getElem (by omega))
    cases e
    refine ⟨b, off, rfl, fun i hi => ?_⟩
    obtain ⟨b', off', _, e', _, hc⟩ := (h1.rd vE_len).at (i := i) (x := vs[i]'(by omega)) (List.getElem?_eq_getElem (by omega))
    cases e'
    have := hc 0 _ rfl
    simp only [Nat.mul_one, Nat.add_zero] at this
    dsimp only
    rw [this, getD_lt _ _ _ (by omega)]
  · obtain ⟨u, q1, q2⟩ := hrow i hi
    have : vs.getD i undef = u := by rw [List.getD_eq_getElem?_getD, q1]; rfl
    dsimp only
    rw [this]
    exact q2

theorem st34 {w : World} {a : Addr} {x : Option Addr} {n c : Nat} {v : Value} {K : World → Prop} (hc : w.cell? a = some v) (hf : w.frozen? a = false) : stW Tryd.prog 34 (.pointer (some a)) (.slice x n c) w K = K (w.setCell a (.slice x n c)) := by
  have e : stW Tryd.prog 34 (.pointer (some a)) (.slice x n c) w K = ((w.cell? (a.add 0)).isSome = true ∧ w.frozen? (a.add 0) = false ∧ true = true ∧ K (w.setCell (a.add 0) (.slice x n c))) := by kernel_rfl
  rw [e]
  have ha : a.add 0 = a := rfl
  simp [ha, hc, hf]

/-- make([][]int, n) -/
theorem mk52 {n : Nat} {w : World} {K : Value → World → Prop} (hn : n ≤ 1000000) (h : ∀ v w', RecAt 34 1 vE w.heap.size w' v (List.replicate n nilS) → Kp w w' → K v w') :
    mkW Tryd.prog 52 (.int .i64 n) (.int .i64 n) w K := by
  have e : ∀ (l : Int) (K : Value → World → Prop), mkW Tryd.prog 52 (.int .i64 l) (.int .i64 l) w K = (0 ≤ l ∧ l ≤ l ∧ l ≤ 4611686018427387904 ∧ ((24 : Nat) : Int) * l ≤ 281474976710656 ∧ 0 < 1 ∧
      K (.slice (some ⟨w.heap.size, 0, none⟩) l.toNat l.toNat) (w.alloc (.cells (mkCells #[.slice none 0 0] (l.toNat * 1)) 34))) := fun l K => by kernel_rfl
  rw [e]
  refine ⟨by omega, by omega, by omega, by omega, by omega, ?_⟩
  rw [Nat.mul_one, mkCells_one, Int.toNat_natCast]
  exact h _ _ (made_rec (x := nilS) (enc := vE) rfl hn w) (below_alloc _)

theorem bs34_0 (w : World) (K : Value → World → Prop) : bsW Tryd.prog 34 0 [] w K = K (.slice (some ⟨w.heap.size, 0, none⟩) 0 0) (w.alloc (.cells #[] 3)) := by kernel_rfl

theorem r_nilT {w : World} {K : Value → Prop} (h : K (.bool true)) : binQ Tryd.prog w .eql 34 true nilS nilS K := ⟨.bool true, fun w' _ => by kernel_rfl, h⟩

theorem r_nilF {w : World} {a : Addr} {n c : Nat} {K : Value → Prop} (h : K (.bool false)) : binQ Tryd.prog w .eql 34 true (.slice (some a) n c) nilS K := ⟨.bool false, fun w' _ => by kernel_rfl, h⟩

set_option maxRecDepth 100000 in
/-- append([]int{}, l...): a copy. -/
theorem r_copyI {w : World} {v : Value} {l : List Int} {K : Value → World → Prop} (hr : RdInts w v l) (hl : l.length ≤ 1000000)
    (hk : ∀ v' w', IntsAt w.heap.size w' v' l → Kp w w' → v' ≠ nilS → K v' w') :
    bsW Tryd.prog 34 0 [] w fun s w => semW Tryd.prog (apS [34, 34] 34 [s, v]) w K := by
  rw [bs34_0]
  have hk1 : Kp w (w.alloc (.cells #[] 3)) := below_alloc _
  have hown : (w.alloc (.cells #[] 3)).ownsRow w.heap.size 3 1 (.slice (some ⟨w.heap.size, 0, none⟩) 0 0) 0 [] := ⟨rfl, .inr ⟨w.heap.size, 0, #[], rfl, Nat.le_refl _, heap_alloc_new w _, Nat.le_refl _, by unfold maxLen; omega, rfl, rfl⟩⟩
  obtain ⟨a, cap, rfl, _, hh⟩ := hr.below hk1
  have hsz : w.heap.size ≤ (w.alloc (.cells #[] 3)).heap.size := hk1.size
  cases l with
  | nil => exact r_ap0 slt34 hown (hk _ _ hown hk1 (by intro e; cases e))
  | cons x l =>
    obtain ⟨b, off, rfl, hc⟩ := hh (by simp)
    refine r_ap (xs := []) (news := intCells (x :: l)) slt34 hown (by simp [intCells]) (fun j u hj => ?_) intCells_one (by simp at hl ⊢; omega) (by omega) hsz fun v' w' ho hg hn => ?_
    · have hlt : j < (x :: l).length := by
        have := (List.getElem?_eq_some_iff.1 hj).1
        simpa [intCells] using this
      rw [r_addr, hc j hlt]
      rw [← hj, intCells, List.getElem?_map, List.getElem?_eq_getElem hlt]
      rw [getD_lt _ _ _ hlt]; rfl
    · refine hk _ _ ?_ (Kp.of_chg hk1 (Chg.of_grown (S := fun k => k = w.heap.size) hg fun k e => by cases e; rfl) fun i e => by omega) fun e => ?_
      · have e2 : recCells iC (x :: l) = intCells (x :: l) := by rw [rec_ints]; rfl
        unfold IntsAt RecAt
        rw [e2]
        simpa using ho
      · have := (hn.1 e).2
        simp at this

theorem ints_slice {base : Nat} {w : World} {v : Value} {l : List Int} (h : IntsAt base w v l) : v.oneCell' = true := by
  obtain ⟨a, cap, rfl, _⟩ := h.len
  rfl

set_option maxRecDepth 100000 in
/-- append(nil, l...) at integers. -/
theorem r_copyN {w : World} {v : Value} {l : List Int} {K : Value → World → Prop} (hr : RdInts w v l) (hl : l.length ≤ 1000000)
    (hk : ∀ v' w', IntsAt w.heap.size w' v' l → Kp w w' → K v' w') : semW Tryd.prog (apS [34, 34] 34 [nilS, v]) w K := by
  have hown : w.ownsRow w.heap.size 3 1 nilS 0 [] := World.ownsRow_nil _ _ _ _
  obtain ⟨a, cap, rfl, _, hh⟩ := hr
  cases l with
  | nil => exact r_ap0 slt34 hown (hk _ _ hown (Kp.refl _))
  | cons x l =>
    obtain ⟨b, off, rfl, hc⟩ := hh (by simp)
    refine r_ap (xs := []) (news := intCells (x :: l)) slt34 hown (by simp [intCells]) (fun j u hj => ?_) intCells_one (by simp at hl ⊢; omega) (by omega) (Nat.le_refl _) fun v' w' ho hg hn => ?_
    · have hlt : j < (x :: l).length := by
        have := (List.getElem?_eq_some_iff.1 hj).1
        simpa [intCells] using this
      rw [r_addr, hc j hlt]
      rw [← hj, intCells, List.getElem?_map, List.getElem?_eq_getElem hlt]
      rw [getD_lt _ _ _ hlt]; rfl
    · refine hk _ _ ?_ (Kp.of_chg (Kp.refl _) (Chg.of_grown (S := fun _ => False) hg fun k e => by cases e) fun i e => e.elim)
      have e2 : recCells iC (x :: l) = intCells (x :: l) := by rw [rec_ints]; rfl
      unfold IntsAt RecAt
      rw [e2]
      simpa using ho

set_option maxRecDepth 100000 in
/-- append(out, rows...) -/
theorem r_apRows {base base' : Nat} {w : World} {v v' : Value} {R R' : List (List Int)} {K : Value → World → Prop} (h : IRows base w v R) (h' : IRows base' w v' R') (hb' : base ≤ base') (hn : R.length + R'.length ≤ 1000000) (hb : base ≤ w.heap.size)
    (hk : ∀ v2 w2, IRows base w2 v2 (R ++ R') → Chg (fun k => v.ownBlock = some k) w w2 → K v2 w2) : semW Tryd.prog (apS [52, 52] 52 [v, v']) w K := by
  have h0 := h
  obtain ⟨vs, h1, h2, h3⟩ := h
  obtain ⟨vs', g1, g2, g3⟩ := h'
  obtain ⟨a', cap', ev', _⟩ := g1.len
  by_cases h00 : vs'.length = 0
  · have e : R' = [] := List.length_eq_zero_iff.1 (by omega)
    rw [h00] at ev'
    subst ev'
    subst e
    exact r_ap0 slt52 h1 (hk _ _ (by rw [List.append_nil]; exact h0) (Chg.refl _ _))
  obtain ⟨g, cap, cur, ev, hgb, hg, hle, hm, hs, ht⟩ := g1.blk (by omega)
  rw [ev]
  have ecell : recCells vE vs' = vs' := by simp [recCells]
  rw [ecell] at ht
  refine r_ap (xs := recCells vE vs) (news := vs') (m := vs'.length) slt52 h1 (by simp) (fun j u hj => ?_) (fun u hu => ?_) (by omega) (by omega) hb fun v2 w2 ho hgr _ => ?_
  · have hlt := (List.getElem?_eq_some_iff.1 hj).1
    rw [r_addr, Nat.zero_add, cell_row hg]
    rw [← ht, List.getElem?_take, if_pos (by omega)] at hj
    simpa using hj
  · obtain ⟨i, hi, rfl⟩ := List.getElem_of_mem hu
    exact ints_slice (g3 i _ _ (List.getElem?_eq_getElem hi) (List.getElem?_eq_getElem (by omega)))
  · have hc : Chg (fun k => v.ownBlock = some k) w w2 := Chg.of_grown hgr fun k hk => hk
    have key : ∀ b u r, IntsAt b w u r → IntsAt b w2 u r := fun b u r hb => hb.chg hc fun q hq => rec_ne hb h1 (by decide) q hq
    refine hk v2 w2 ⟨vs ++ vs', ?_, by simp; omega, fun j u r hu hr => ?_⟩ hc
    · unfold RecAt
      rw [recCells_append, List.length_append, ecell]
      exact ho
    · by_cases hj : j < vs.length
      · rw [List.getElem?_append_left hj] at hu
        rw [List.getElem?_append_left (by omega)] at hr
        exact key _ _ _ (h3 j u r hu hr)
      · rw [List.getElem?_append_right (by omega)] at hu
        rw [List.getElem?_append_right (by omega), ← h2] at hr
        exact (key _ _ _ (g3 _ u r hu hr)).down hb'

theorem IRows.one {base : Nat} {w : World} {a : Option Addr} {n c : Nat} {r : List Int} (h : IntsAt base w (.slice a n c) r) (hb : base ≤ w.heap.size) : IRows base (w.alloc (.cells #[.slice a n c] 34)) (.slice (some ⟨w.heap.size, 0, none⟩) 1 1) [r] := by
  have o := rec_one (e := 34) (enc := vE) (x := .slice a n c) rfl w
  refine ⟨[.slice a n c], o.down hb, rfl, fun i u r' hu hr => ?_⟩
  match i with
  | 0 =>
    cases hu
    cases hr
    exact h.kp (below_alloc _)
  | i + 1 => simp at hu

theorem addr_add0 (a : Addr) : a.add 0 = a := by
  cases a with
  | mk b o h => cases h <;> rfl

/-- s[:j] -/
theorem r_slTo {sz : Nat} {a : Option Addr} {n c : Nat} {j : Int} {k : IntKind} {K : Value → Prop} (h0 : 0 ≤ j) (h1 : j ≤ c) : slS sz (.slice a n c) none (some (.int k j)) K = K (.slice a j.toNat c) := by
  have e : (if c = 0 then a else a.map fun x => x.add (0 * sz)) = a := by
    split
    · rfl
    · cases a with
      | none => rfl
      | some x => simp [addr_add0]
  simp only [slS, cutQ, bnd, h0, h1, and_self, if_true, Nat.sub_zero, e]

/-- s[j:] -/
theorem r_slFrom {sz : Nat} {a : Option Addr} {n c : Nat} {j : Int} {k : IntKind} {K : Value → Prop} (h0 : 0 ≤ j) (h1 : j ≤ n) : slS sz (.slice a n c) (some (.int k j)) none K = K (.slice (if c = j.toNat then a else a.map fun x => x.add (j.toNat * sz)) (n - j.toNat) (c - j.toNat)) := by
  simp only [slS, cutQ, bnd, h0, h1, and_self, if_true]

/-- The number at row i, column j. -/
def hat (h : List (List Int)) (i j : Nat) : Int := (h.getD i []).getD j 0

/-- h with x at row i, column j. -/
def put2 (h : List (List Int)) (i j : Nat) (x : Int) : List (List Int) := h.set i ((h.getD i []).set j x)

theorem put2_length (h : List (List Int)) (i j : Nat) (x : Int) : (put2 h i j x).length = h.length := by simp [put2]

theorem put2_row (h : List (List Int)) (i j k : Nat) (x : Int) (hi : i < h.length) : (put2 h i j x).getD k [] = if k = i then (h.getD i []).set j x else h.getD k [] := by
  by_cases hk : k = i
  · subst hk; simp [put2, hi]
  · simp [put2, hk, List.getElem?_set_ne (Ne.symm hk)]

theorem put2_len (h : List (List Int)) (i j k : Nat) (x : Int) (hi : i < h.length) : ((put2 h i j x).getD k []).length = (h.getD k []).length := by
  rw [put2_row h i j k x hi]; split
  · subst_vars; simp
  · rfl

theorem put2_hat (h : List (List Int)) (i j k l : Nat) (x : Int) (hi : i < h.length) (hj : j < (h.getD i []).length) : hat (put2 h i j x) k l = if k = i ∧ l = j then x else hat h k l := by
  unfold hat
  rw [put2_row h i j k x hi]
  by_cases hk : k = i
  · subst hk
    rw [if_pos rfl]
    by_cases hl : l = j
    · subst hl
      rw [if_pos ⟨rfl, rfl⟩, List.getD_eq_getElem?_getD, List.getElem?_set_self hj]; rfl
    · rw [if_neg (fun e => hl e.2), List.getD_eq_getElem?_getD, List.getElem?_set_ne (Ne.symm hl), ← List.getD_eq_getElem?_getD]
  · rw [if_neg hk, if_neg (fun e => hk e.1)]

/-- h has A rows of B numbers. -/
def Sized (A B : Nat) (h : List (List Int)) : Prop := h.length = A ∧ ∀ i, i < A → (h.getD i []).length = B

theorem put2_sized {A B : Nat} {h : List (List Int)} (hs : Sized A B h) {i j : Nat} (hi : i < A) (x : Int) : Sized A B (put2 h i j x) :=
  ⟨by rw [put2_length]; exact hs.1, fun k hk => by rw [put2_len _ _ _ _ _ (by rw [hs.1]; exact hi)]; exact hs.2 k hk⟩

end Go.Proofs.YtkdcldbedbagjaaDoor

/- Matrices in memory: lists of integers, each in a block of its own, no two in one. -/
namespace Go.Proofs.YtkdcldbedbagjaaDoor
open Go.Lf Go.RowKit

def IMatV (base : Nat) (w : World) (v : Value) (vs : List Value) (R : List (List Int)) : Prop :=
  RecAt 34 1 vE base w v vs ∧ vs.length = R.length ∧ (∀ (i : Nat) (u : Value) (r : List Int), vs[i]? = some u → R[i]? = some r → IntsAt base w u r) ∧
    ∀ (i j : Nat) (u u' : Value) (k : Nat), vs[i]? = some u → vs[j]? = some u' → u.ownBlock = some k → u'.ownBlock = some k → i = j
def IMat (base : Nat) (w : World) (v : Value) (R : List (List Int)) : Prop := ∃ vs : List Value, IMatV base w v vs R
/-- All blocks of a matrix lie below top. -/
def TopV (top : Nat) (v : Value) (vs : List Value) : Prop := (∀ k, v.ownBlock = some k → k < top) ∧ ∀ (i : Nat) u, vs[i]? = some u → ∀ k, u.ownBlock = some k → k < top
theorem IMatV.top {base : Nat} {w : World} {v : Value} {vs : List Value} {R : List (List Int)} (h : IMatV base w v vs R) : TopV w.heap.size v vs :=
  let ⟨h1, h2, h3, _⟩ := h
  ⟨fun k hk => (h1.lt hk).2, fun i u hu k hk => by
    have hlt := (List.getElem?_eq_some_iff.1 hu).1
    exact ((h3 i u (R[i]'(by omega)) hu (List.getElem?_eq_getElem (by omega))).lt hk).2⟩
theorem IMatV.kp {base : Nat} {w w' : World} {v : Value} {vs : List Value} {R : List (List Int)} (h : IMatV base w v vs R) (hk : Kp w w') : IMatV base w' v vs R :=
  let ⟨h1, h2, h3, h4⟩ := h; ⟨h1.kp hk, h2, fun i u r hu hr => (h3 i u r hu hr).kp hk, h4⟩
theorem IMat.rows {base : Nat} {w : World} {v : Value} {R : List (List Int)} (h : IMat base w v R) : IRows base w v R :=
  let ⟨vs, h1, h2, h3, _⟩ := h; ⟨vs, h1, h2, h3⟩
theorem IMat.nil {base : Nat} {w : World} : IMat base w nilS [] := ⟨[], RecAt.nil, rfl, by simp, by simp⟩
theorem IMat.chg {S : Nat → Prop} {base : Nat} {w w' : World} {v : Value} {R : List (List Int)} (h : IMat base w v R) (hc : Chg S w w') (hs : ∀ k, base ≤ k → k < w.heap.size → ¬ S k) : IMat base w' v R :=
  let ⟨vs, h1, h2, h3, h4⟩ := h; ⟨vs, h1.chg hc fun k hk => hs k (h1.lt hk).1 (h1.lt hk).2, h2, fun i u r hu hr => (h3 i u r hu hr).chg hc fun k hk => hs k ((h3 i u r hu hr).lt hk).1 ((h3 i u r hu hr).lt hk).2, h4⟩
theorem IMat.kp {base : Nat} {w w' : World} {v : Value} {R : List (List Int)} (h : IMat base w v R) (hk : Kp w w') : IMat base w' v R :=
  let ⟨vs, h1, h2, h3, h4⟩ := h; ⟨vs, h1.kp hk, h2, fun i u r hu hr => (h3 i u r hu hr).kp hk, h4⟩
theorem IMat.down {base base' : Nat} {w : World} {v : Value} {R : List (List Int)} (h : IMat base w v R) (hb : base' ≤ base) : IMat base' w v R :=
  let ⟨vs, h1, h2, h3, h4⟩ := h; ⟨vs, h1.down hb, h2, fun i u r hu hr => (h3 i u r hu hr).down hb, h4⟩
theorem IMat.len {base : Nat} {w : World} {v : Value} {R : List (List Int)} (h : IMat base w v R) : ∃ a cap, v = .slice a R.length cap ∧ R.length ≤ cap := by
  obtain ⟨vs, h1, h2, _⟩ := h
  have := h1.len
  rwa [h2] at this

theorem own_at {α : Type} {e : TypeId} {m : Nat} {enc : α → List Value} {base : Nat} {w : World} {v : Value} {P : List α} (he : ∀ x, (enc x).length = m) (h : RecAt e m enc base w v P) {q : Nat} {p : α} (hq : P[q]? = some p) :
    ∃ g cap, v = .slice (some ⟨g, 0, none⟩) P.length cap ∧ base ≤ g ∧ ∀ j u, (enc p)[j]? = some u → w.cell? ⟨g, q * m + j, none⟩ = some u := by
  have hlt := (List.getElem?_eq_some_iff.1 hq).1
  obtain ⟨g, cap, _, e1, hb, _⟩ := h.blk (by omega)
  obtain ⟨b, off, _, e2, _, hc⟩ := (h.rd he).at hq
  rw [e1] at e2
  cases e2
  exact ⟨g, cap, e1, hb, fun j u hj => by have := hc j u hj; simpa using this⟩

/-- A row: where its slice lies, and its numbers. -/
theorem IMat.row {base : Nat} {w : World} {v : Value} {R : List (List Int)} (h : IMat base w v R) {i : Nat} (hi : i < R.length) :
    ∃ g cap u, v = .slice (some ⟨g, 0, none⟩) R.length cap ∧ base ≤ g ∧ w.cell? ⟨g, i, none⟩ = some u ∧ IntsAt base w u (R.getD i []) := by
  obtain ⟨vs, h1, h2, h3, _⟩ := h
  have hlt : i < vs.length := by omega
  obtain ⟨g, cap, e, hb, hc⟩ := own_at vE_len h1 (List.getElem?_eq_getElem hlt)
  have := hc 0 _ rfl
  refine ⟨g, cap, vs[i], by rw [← h2]; exact e, hb, by simpa using this, ?_⟩
  rw [getD_lt _ _ _ hi]
  exact h3 i _ _ (List.getElem?_eq_getElem hlt) (List.getElem?_eq_getElem hi)
theorem IMatV.ldK {base : Nat} {w : World} {v : Value} {vs : List Value} {R : List (List Int)} (h : IMatV base w v vs R) {i : Nat} (hi : i < R.length) :
    ∃ u, vs[i]? = some u ∧ IntsAt base w u (R.getD i []) ∧ ∀ K : Value → Prop, (iaS 1 v (.int .i64 i) fun p => ld1 w p K) = K u := by
  obtain ⟨h1, h2, h3, _⟩ := h
  have hlt : i < vs.length := by omega
  obtain ⟨g, cap, e, hb, hc⟩ := own_at vE_len h1 (List.getElem?_eq_getElem hlt)
  have hc := hc 0 _ rfl
  simp only [Nat.mul_one, Nat.add_zero] at hc
  have hii : (i : Int).toNat = i := by omega
  refine ⟨_, List.getElem?_eq_getElem hlt, ?_, fun K => ?_⟩
  · rw [getD_lt _ _ _ hi]
    exact h3 i _ _ (List.getElem?_eq_getElem hlt) (List.getElem?_eq_getElem hi)
  · rw [e, r_iaS _ _ _ _ _ _ _ (by omega) (by omega), hii, Nat.mul_one, Nat.zero_add, r_ld hc]
theorem IMat.ldK {base : Nat} {w : World} {v : Value} {R : List (List Int)} (h : IMat base w v R) {i : Nat} (hi : i < R.length) :
    ∃ u, IntsAt base w u (R.getD i []) ∧ ∀ K : Value → Prop, (iaS 1 v (.int .i64 i) fun p => ld1 w p K) = K u := by
  obtain ⟨g, cap, u, e, _, hc, hI⟩ := h.row hi
  refine ⟨u, hI, fun K => ?_⟩
  have hii : (i : Int).toNat = i := by omega
  rw [e, r_iaS _ _ _ _ _ _ _ (by omega) (by omega), hii, Nat.mul_one, Nat.zero_add, r_ld hc]
theorem ints_ldK {w : World} {u : Value} {l : List Int} (h : RdInts w u l) {j : Nat} (hj : j < l.length) (K : Value → Prop) : (iaS 1 u (.int .i64 j) fun p => ld1 w p K) = K (.int .i64 (l.getD j 0)) := by
  obtain ⟨b, off, cap, e, hc⟩ := h.at hj
  have hjj : (j : Int).toNat = j := by omega
  rw [e, r_iaS _ _ _ _ _ _ _ (by omega) (by omega), hjj, Nat.mul_one, r_ld hc]
theorem own_ldK {base : Nat} {w : World} {u : Value} {l : List Int} (h : IntsAt base w u l) {j : Nat} (hj : j < l.length) (K : Value → Prop) : (iaS 1 u (.int .i64 j) fun p => ld1 w p K) = K (.int .i64 (l.getD j 0)) := by
  obtain ⟨g, cap, e, _, hc, _⟩ := h.put hj 0
  have hjj : (j : Int).toNat = j := by omega
  rw [e, r_iaS _ _ _ _ _ _ _ (by omega) (by omega), hjj, Nat.mul_one, Nat.zero_add, r_ld hc]
/-- A store into a row. -/
theorem IMatV.put {base : Nat} {w : World} {v : Value} {vs : List Value} {R : List (List Int)} (h : IMatV base w v vs R) {i j : Nat} (hi : i < R.length) (hj : j < (R.getD i []).length) :
    ∃ g cap q c, v = .slice (some ⟨g, 0, none⟩) R.length cap ∧ w.cell? ⟨g, i, none⟩ = some (.slice (some ⟨q, 0, none⟩) (R.getD i []).length c) ∧ base ≤ g ∧ base ≤ q ∧ w.cell? ⟨q, j, none⟩ = some (.int .i64 (hat R i j)) ∧ w.frozen? ⟨q, j, none⟩ = false ∧ (∃ u, vs[i]? = some u ∧ u.ownBlock = some q) ∧
      ∀ x, IMatV base (w.setCell ⟨q, j, none⟩ (.int .i64 x)) v vs (put2 R i j x) := by
  obtain ⟨h1, h2, h3, h4⟩ := h
  have hlt : i < vs.length := by omega
  obtain ⟨g, cap, e, hb, hc⟩ := own_at vE_len h1 (List.getElem?_eq_getElem hlt)
  have hI := h3 i _ _ (List.getElem?_eq_getElem hlt) (List.getElem?_eq_getElem hi)
  rw [← getD_lt _ _ [] hi] at hI
  obtain ⟨q, c, eu, hbq, hcell, hfr, _⟩ := hI.put hj 0
  have hcell0 := hc 0 _ rfl
  simp only [Nat.mul_one, Nat.add_zero] at hcell0
  rw [eu] at hcell0
  refine ⟨g, cap, q, c, by rw [← h2]; exact e, hcell0, hb, hbq, hcell, hfr, ⟨_, List.getElem?_eq_getElem hlt, by rw [eu]; rfl⟩, fun x => ?_⟩
  have hgI : (vs[i]'hlt).ownBlock = some q := by rw [eu]; rfl
  have hch : Chg (fun k => k = q) w (w.setCell ⟨q, j, none⟩ (.int .i64 x)) := Chg.setCell _ _ rfl
  obtain ⟨q', c', eu', _, _, _, hset⟩ := hI.put hj x
  have : q' = q := by rw [eu] at eu'; injection eu' with e1; injection e1 with e1; injection e1 with e1; exact e1.symm
  subst this
  refine ⟨h1.chg hch fun k hk e => ?_, by rw [put2_length]; exact h2, fun a u r hu hr => ?_, h4⟩
  · subst e
    exact rec_ne hI h1 (by decide) k hgI hk
  · by_cases ea : a = i
    · subst ea
      rw [List.getElem?_eq_getElem hlt] at hu
      cases hu
      have : r = (R.getD a []).set j x := by
        unfold put2 at hr
        rw [List.getElem?_set_self hi] at hr
        injection hr with hr
        exact hr.symm
      rw [this]
      exact hset
    · have hr' : R[a]? = some r := by
        unfold put2 at hr
        rwa [List.getElem?_set_ne (Ne.symm ea)] at hr
      exact (h3 a u r hu hr').chg hch fun k hk e => ea (h4 a i u _ k hu (List.getElem?_eq_getElem hlt) hk (by rw [e]; exact hgI))

set_option maxRecDepth 100000 in
/-- A new row is put behind the others. -/
theorem r_pushMat {base base' : Nat} {w0 w : World} {v : Value} {R : List (List Int)} {a : Option Addr} {n c : Nat} {r : List Int} {K : Value → World → Prop} (h : IMat base w0 v R) (hk0 : Kp w0 w) (hr : IntsAt base' w (.slice a n c) r) (hb' : w0.heap.size ≤ base') (hn : R.length + 1 ≤ 1000000) (hb : base ≤ w0.heap.size)
    (hk : ∀ v' w', IMat base w' v' (R ++ [r]) → Chg (fun k => v.ownBlock = some k) w w' → (∃ a n c, v' = .slice a n c) → K v' w') :
    bsW Tryd.prog 52 1 [(0, .slice a n c)] w fun s w => semW Tryd.prog (apS [52, 52] 52 [v, s]) w K := by
  obtain ⟨vs, h1, h2, h3, h4⟩ := h
  have g1 := h1.kp hk0
  have hsz := hk0.size
  refine r_pushRec (x := .slice a n c) slt52 vE_len rfl (bs52 _ _ _ _) (by intro u hu; simp at hu; subst hu; rfl) (by omega) g1 (by omega) (by omega) fun v' w' p1 p2 p3 => ?_
  have key : ∀ b u r, IntsAt b w u r → IntsAt b w' u r := fun b u r hb => hb.chg p2 fun q hq => rec_ne hb g1 (by decide) q hq
  have split : ∀ (j : Nat) u, (vs ++ [Value.slice a n c])[j]? = some u → (j < vs.length ∧ vs[j]? = some u) ∨ (j = vs.length ∧ u = .slice a n c) := fun j u hu => by
    by_cases hj : j < vs.length
    · rw [List.getElem?_append_left hj] at hu
      exact .inl ⟨hj, hu⟩
    · rw [List.getElem?_append_right (by omega)] at hu
      match hjj : j - vs.length with
      | 0 => rw [hjj] at hu; cases hu; exact .inr ⟨by omega, rfl⟩
      | m + 1 => rw [hjj] at hu; simp at hu
  refine hk v' w' ⟨_, p1, by simp [h2], fun j u r' hu hr' => ?_, fun i j u u' k hu hu' hk1 hk2 => ?_⟩ p2 ?_
  · rcases split j u hu with ⟨hj, hu⟩ | ⟨hj, rfl⟩
    · rw [List.getElem?_append_left (by rw [← h2]; exact hj)] at hr'
      exact key _ u r' ((h3 j u r' hu hr').kp hk0)
    · rw [List.getElem?_append_right (by rw [← h2]; omega), ← h2, hj, Nat.sub_self] at hr'
      cases hr'
      exact (key _ _ _ hr).down (by omega)
  · have old : ∀ (i : Nat) u, i < vs.length → vs[i]? = some u → u.ownBlock = some k → k < w0.heap.size := fun i u hi hu hk1 => by
      have := (h3 i u (R[i]'(by omega)) hu (List.getElem?_eq_getElem (by omega))).lt hk1
      exact this.2
    have new : (Value.slice a n c).ownBlock = some k → w0.heap.size ≤ k := fun hk1 => by have := (hr.lt hk1).1; omega
    rcases split i u hu with ⟨hi, hu⟩ | ⟨hi, rfl⟩
    · rcases split j u' hu' with ⟨hj, hu'⟩ | ⟨hj, rfl⟩
      · exact h4 i j u u' k hu hu' hk1 hk2
      · have := old i u hi hu hk1; have := new hk2; omega
    · rcases split j u' hu' with ⟨hj, hu'⟩ | ⟨hj, rfl⟩
      · have := old j u' hj hu' hk2; have := new hk1; omega
      · omega
  · obtain ⟨a, c, e, _⟩ := p1.len
    exact ⟨_, _, _, e⟩

/-- Two rows change places. -/
theorem IMatV.swap {base : Nat} {w : World} {v : Value} {vs : List Value} {R : List (List Int)} (h : IMatV base w v vs R) {i j : Nat} (hi : i < R.length) (hj : j < R.length) (hij : i ≠ j) :
    ∃ g cap a n c a' n' c', v = .slice (some ⟨g, 0, none⟩) R.length cap ∧ base ≤ g ∧ w.cell? ⟨g, i, none⟩ = some (.slice a n c) ∧ w.cell? ⟨g, j, none⟩ = some (.slice a' n' c') ∧ (∀ o, w.frozen? ⟨g, o, none⟩ = false) ∧
      (∃ x, (w.setCell ⟨g, i, none⟩ (.slice a' n' c')).cell? ⟨g, j, none⟩ = some x) ∧ (∀ o, (w.setCell ⟨g, i, none⟩ (.slice a' n' c')).frozen? ⟨g, o, none⟩ = false) ∧
      ∃ vs', IMatV base ((w.setCell ⟨g, i, none⟩ (.slice a' n' c')).setCell ⟨g, j, none⟩ (.slice a n c)) v vs' ((R.set i (R.getD j [])).set j (R.getD i [])) ∧ ∀ (q : Nat) u, vs'[q]? = some u → ∃ p : Nat, vs[p]? = some u := by
  obtain ⟨h1, h2, h3, h4⟩ := h
  have li : i < vs.length := by omega
  have lj : j < vs.length := by omega
  have Ii := h3 i _ _ (List.getElem?_eq_getElem li) (List.getElem?_eq_getElem hi)
  have Ij := h3 j _ _ (List.getElem?_eq_getElem lj) (List.getElem?_eq_getElem hj)
  obtain ⟨a, c, ei, _⟩ := Ii.len
  obtain ⟨a', c', ej, _⟩ := Ij.len
  obtain ⟨g, cap, cur, e, hb, hg, hle, hm, hs, ht⟩ := h1.blk (by omega)
  obtain ⟨g1, cap1, ev1, _, hc1⟩ := own_at vE_len h1 (List.getElem?_eq_getElem li)
  obtain ⟨g2, cap2, ev2, _, hc2⟩ := own_at vE_len h1 (List.getElem?_eq_getElem lj)
  rw [e] at ev1 ev2
  cases ev1
  cases ev2
  have ci := hc1 0 _ rfl
  have cj := hc2 0 _ rfl
  simp only [Nat.mul_one, Nat.add_zero] at ci cj
  have s1 := RecAt.set (j := 0) (p' := vs[j]) (u := vs[j]) vE_len h1 (List.getElem?_eq_getElem li) (by omega) rfl
  obtain ⟨g3, cap3, ev3, _, _, _, r1⟩ := s1
  rw [e] at ev3
  cases ev3
  have s2 := RecAt.set (q := j) (j := 0) (p' := vs[i]) (u := vs[i]) vE_len r1 (List.getElem?_eq_getElem (by rw [List.length_set]; exact lj)) (by omega) rfl
  obtain ⟨g4, cap4, ev4, _, hx, _, r2⟩ := s2
  rw [e, List.length_set] at ev4
  cases ev4
  simp only [Nat.mul_one, Nat.add_zero] at r1 r2 hx
  have hc : Chg (fun k => k = g) w ((w.setCell ⟨g, i, none⟩ vs[j]).setCell ⟨g, j, none⟩ vs[i]) := (Chg.setCell (S := fun k => k = g) w vs[j] (p := ⟨g, i, none⟩) rfl).trans (Chg.setCell (S := fun k => k = g) _ vs[i] (p := ⟨g, j, none⟩) rfl)
  have hgo : v.ownBlock = some g := by rw [e]; rfl
  have hb1 := setCell_block (o := i) (v := vs[j]) hg rfl
  rw [ei] at ci
  rw [ej] at cj
  refine ⟨g, cap, a, _, c, a', _, c', by rw [← h2]; exact e, hb, ci, cj, fun o => frozen_row hg, by rw [← ej]; exact hx, fun o => by rw [← ej]; exact frozen_row hb1, ?_⟩
  rw [← ei, ← ej]
  have hat : ∀ q, q < vs.length → ((vs.set i vs[j]).set j vs[i])[q]? = some (if q = j then vs[i] else if q = i then vs[j] else vs.getD q undef) := fun q hq => by
    by_cases b : q = j
    · subst b; rw [if_pos rfl, List.getElem?_set_self (by rw [List.length_set]; exact hq)]
    · rw [if_neg b, List.getElem?_set_ne (Ne.symm b)]
      by_cases x : q = i
      · subst x; rw [if_pos rfl, List.getElem?_set_self hq]
      · rw [if_neg x, List.getElem?_set_ne (Ne.symm x), List.getElem?_eq_getElem hq, getD_lt _ _ _ hq]
  have rat : ∀ q, q < R.length → ((R.set i (R.getD j [])).set j (R.getD i []))[q]? = some (if q = j then R.getD i [] else if q = i then R.getD j [] else R.getD q []) := fun q hq => by
    by_cases b : q = j
    · subst b; rw [if_pos rfl, List.getElem?_set_self (by rw [List.length_set]; exact hq)]
    · rw [if_neg b, List.getElem?_set_ne (Ne.symm b)]
      by_cases x : q = i
      · subst x; rw [if_pos rfl, List.getElem?_set_self hq]
      · rw [if_neg x, List.getElem?_set_ne (Ne.symm x), List.getElem?_eq_getElem hq, getD_lt _ _ _ hq]
  let σ : Nat → Nat := fun q => if q = j then i else if q = i then j else q
  have vat : ∀ q u, ((vs.set i vs[j]).set j vs[i])[q]? = some u → q < vs.length ∧ vs[σ q]? = some u ∧ σ q < vs.length := fun q u hu => by
    have hq : q < vs.length := by
      have := (List.getElem?_eq_some_iff.1 hu).1
      simpa using this
    rw [hat q hq] at hu
    injection hu with hu
    refine ⟨hq, ?_, ?_⟩
    · simp only [σ]
      by_cases b : q = j
      · rw [if_pos b] at hu ⊢; rw [← hu]; exact List.getElem?_eq_getElem li
      · rw [if_neg b] at hu ⊢
        by_cases x : q = i
        · rw [if_pos x] at hu ⊢; rw [← hu]; exact List.getElem?_eq_getElem lj
        · rw [if_neg x] at hu ⊢; rw [← hu, getD_lt _ _ _ hq]; exact List.getElem?_eq_getElem hq
    · simp only [σ]; split <;> (try split) <;> omega
  refine ⟨_, ⟨r2, by simp [h2], fun q u r hu hr => ?_, fun p q u u' k hu hu' hk hk' => ?_⟩, fun q u hu => ⟨_, (vat q u hu).2.1⟩⟩
  · obtain ⟨hq, hv, hl⟩ := vat q u hu
    have hr' : R[σ q]? = some r := by
      rw [rat q (by omega)] at hr
      injection hr with hr
      rw [List.getElem?_eq_getElem (by omega), ← getD_lt _ _ [] (by omega), ← hr]
      simp only [σ]
      by_cases b : q = j
      · rw [if_pos b, if_pos b]
      · rw [if_neg b, if_neg b]
        by_cases x : q = i
        · rw [if_pos x, if_pos x]
        · rw [if_neg x, if_neg x]
    have hI := h3 _ u r hv hr'
    exact hI.chg hc fun k hk e => rec_ne hI h1 (by decide) k hk (by rw [e]; exact hgo)
  · obtain ⟨hp, hv, _⟩ := vat p u hu
    obtain ⟨hq, hv', _⟩ := vat q u' hu'
    have := h4 _ _ u u' k hv hv' hk hk'
    simp only [σ] at this
    by_cases a1 : p = j
    · rw [if_pos a1] at this
      by_cases a2 : q = j
      · omega
      · rw [if_neg a2] at this
        by_cases a3 : q = i
        · rw [if_pos a3] at this; omega
        · rw [if_neg a3] at this; omega
    · rw [if_neg a1] at this
      by_cases a4 : p = i
      · rw [if_pos a4] at this
        by_cases a2 : q = j
        · rw [if_pos a2] at this; omega
        · rw [if_neg a2] at this
          by_cases a3 : q = i
          · omega
          · rw [if_neg a3] at this; omega
      · rw [if_neg a4] at this
        by_cases a2 : q = j
        · rw [if_pos a2] at this; omega
        · rw [if_neg a2] at this
          by_cases a3 : q = i
          · rw [if_pos a3] at this; omega
          · rw [if_neg a3] at this; exact this

end Go.Proofs.YtkdcldbedbagjaaDoor

/- Lifted texts, printed by program (gen.py): what each function's code asks. The ties are by the kernel. -/
namespace Go.Proofs.YtkdcldbedbagjaaDoor
open Go.Lf Go.RowKit

def S58 (t0 t1 : Value) (w : World) (R : Ending → World → Prop) : Prop :=
  boxW 3 t0 w fun t2 w =>
  boxW 80 (.agg #[(.int .i64 0), (.slice none 0 0)]) w fun t4 w =>
  ld1 w t2 fun t7 =>
  binQ Tryd.prog w .lss 3 true t7 (.int .i64 2) fun t8 =>
  gd t8 false (fun k => ld1 w t2 fun v => k v w) w fun t10 w =>
  gd t8 false (fun k => binQ Tryd.prog w .gtr 3 true t10 (.int .i64 8) fun v => k v w) w fun t11 w =>
  pickQ t8 (.bool true) t11 fun t12 =>
  condW t12 (
    bdQ Tryd.prog 80 [] fun t13 =>
    stW Tryd.prog 80 t4 t13 w fun w =>
    ldN 2 w t4 fun r =>
    R (.returned (.tuple #[r, (.int .i64 2)])) w
  ) (
    ln1 t1 fun t16 =>
    binQ Tryd.prog w .gtr 3 true t16 (.int .i64 16) fun t17 =>
    condW t17 (
      bdQ Tryd.prog 80 [] fun t18 =>
      stW Tryd.prog 80 t4 t18 w fun w =>
      ldN 2 w t4 fun r_2 =>
      R (.returned (.tuple #[r_2, (.int .i64 3)])) w
    ) (
      callW Tryd.prog (.func (.func 73) #[] #[]) [t1, (.func (.func 74) #[] #[t2])] w fun t22 w =>
      condW t22 (
        bdQ Tryd.prog 80 [] fun t23 =>
        stW Tryd.prog 80 t4 t23 w fun w =>
        ldN 2 w t4 fun r_3 =>
        R (.returned (.tuple #[r_3, (.int .i64 2)])) w
      ) (
        ld1 w t2 fun t24 =>
        bdQ Tryd.prog 80 [(0, t24), (1, t1)] fun t26 =>
        stW Tryd.prog 80 t4 t26 w fun w =>
        ldN 2 w t4 fun r_4 =>
        R (.returned (.tuple #[r_4, (.int .i64 0)])) w
      )
    )
  )

def A58 : Ann where
  live := fun _ => []
  wr := fun _ _ => false
  sched := fun _ => .done

set_option maxRecDepth 100000 in
theorem ok58 : (codeOk Tryd.f58.ntmps A58 (Tryd.f58.body.getD .skip) 0 && Nat.ble 2 Tryd.f58.ntmps) = true := by kernel_rfl
set_option maxRecDepth 100000 in
theorem lift58 {t0 t1 : Value} {w : World} {R : Ending → World → Prop} (h : S58 t0 t1 w R) : Calls Tryd.prog 58 #[t0, t1] w R :=
  calls_of_cw (fn := Tryd.f58) (c := Tryd.f58.body.getD .skip) A58 mixes Tryd.func58 (by kernel_rfl) ok58
    ((by kernel_rfl : (S58 t0 t1 w R) = cw Tryd.prog A58 (Tryd.f58.body.getD .skip) 0 (bodyQ Tryd.prog Tryd.f58 R) (frOf #[t0, t1]) w).mp h)

def S74 (t0 t1 : Value) (w : World) (R : Ending → World → Prop) : Prop :=
  boxW 40 t0 w fun t2 w =>
  fa1 t2 0 fun t4 =>
  ld1 w t4 fun t5 =>
  binQ Tryd.prog w .lss 3 true t5 (.int .i64 0) fun t6 =>
  gd t6 false (fun k => fa1 t2 0 fun v => k v w) w fun t8 w =>
  gd t6 false (fun k => ld1 w t8 fun v => k v w) w fun t9 w =>
  gd t6 false (fun k => ld1 w t1 fun v => k v w) w fun t10 w =>
  gd t6 false (fun k => binQ Tryd.prog w .geq 3 false t9 t10 fun v => k v w) w fun t11 w =>
  pickQ t6 (.bool true) t11 fun t12 =>
  gd t12 false (fun k => fa1 t2 1 fun v => k v w) w fun t14 w =>
  gd t12 false (fun k => ld1 w t14 fun v => k v w) w fun t15 w =>
  gd t12 false (fun k => binQ Tryd.prog w .lss 3 true t15 (.int .i64 0) fun v => k v w) w fun t16 w =>
  pickQ t12 (.bool true) t16 fun t17 =>
  gd t17 false (fun k => fa1 t2 1 fun v => k v w) w fun t19 w =>
  gd t17 false (fun k => ld1 w t19 fun v => k v w) w fun t20 w =>
  gd t17 false (fun k => ld1 w t1 fun v => k v w) w fun t21 w =>
  gd t17 false (fun k => binQ Tryd.prog w .geq 3 false t20 t21 fun v => k v w) w fun t22 w =>
  pickQ t17 (.bool true) t22 fun t23 =>
  gd t23 false (fun k => fa1 t2 0 fun v => k v w) w fun t25 w =>
  gd t23 false (fun k => ld1 w t25 fun v => k v w) w fun t26 w =>
  gd t23 false (fun k => fa1 t2 1 fun v => k v w) w fun t27 w =>
  gd t23 false (fun k => ld1 w t27 fun v => k v w) w fun t28 w =>
  gd t23 false (fun k => binQ Tryd.prog w .eql 3 false t26 t28 fun v => k v w) w fun t29 w =>
  pickQ t23 (.bool true) t29 fun t30 =>
  R (.returned t30) w

def A74 : Ann where
  live := fun _ => []
  wr := fun _ _ => false
  sched := fun _ => .done

set_option maxRecDepth 100000 in
theorem ok74 : (codeOk Tryd.f74.ntmps A74 (Tryd.f74.body.getD .skip) 0 && Nat.ble 2 Tryd.f74.ntmps) = true := by kernel_rfl
set_option maxRecDepth 100000 in
theorem lift74 {t0 t1 : Value} {w : World} {R : Ending → World → Prop} (h : S74 t0 t1 w R) : Calls Tryd.prog 74 #[t0, t1] w R :=
  calls_of_cw (fn := Tryd.f74) (c := Tryd.f74.body.getD .skip) A74 mixes Tryd.func74 (by kernel_rfl) ok74
    ((by kernel_rfl : (S74 t0 t1 w R) = cw Tryd.prog A74 (Tryd.f74.body.getD .skip) 0 (bodyQ Tryd.prog Tryd.f74 R) (frOf #[t0, t1]) w).mp h)

def S73 (t0 t1 : Value) (w : World) (R : Ending → World → Prop) : Prop :=
  callW Tryd.prog (.func (.func 87) #[] #[]) [t0, t1] w fun t7 w =>
  binQ Tryd.prog w .geq 3 true t7 (.int .i64 0) fun t8 =>
  R (.returned t8) w

def A73 : Ann where
  live := fun _ => []
  wr := fun _ _ => false
  sched := fun _ => .done

set_option maxRecDepth 100000 in
theorem ok73 : (codeOk Tryd.f73.ntmps A73 (Tryd.f73.body.getD .skip) 0 && Nat.ble 2 Tryd.f73.ntmps) = true := by kernel_rfl
set_option maxRecDepth 100000 in
theorem lift73 {t0 t1 : Value} {w : World} {R : Ending → World → Prop} (h : S73 t0 t1 w R) : Calls Tryd.prog 73 #[t0, t1] w R :=
  calls_of_cw (fn := Tryd.f73) (c := Tryd.f73.body.getD .skip) A73 mixes Tryd.func73 (by kernel_rfl) ok73
    ((by kernel_rfl : (S73 t0 t1 w R) = cw Tryd.prog A73 (Tryd.f73.body.getD .skip) 0 (bodyQ Tryd.prog Tryd.f73 R) (frOf #[t0, t1]) w).mp h)

def S87L0 (t0 t1 t7 : Value) (R : Ending → World → Prop) (w : World) : Prop :=
  Loop1 (.int .i64 0) w fun _ t8 w next =>
    binQ Tryd.prog w .lss 3 false t8 t7 fun t9 =>
    condW t9 (
      iaS 2 t0 t8 fun t14 =>
      ldN 2 w t14 fun t15 =>
      callW Tryd.prog t1 [t15] w fun t16 w =>
      condW t16 (
        R (.returned t8) w
      ) (
        binQ Tryd.prog w .add 3 true t8 (.int .i64 1) fun t18 =>
        next t18 w
      )
    ) (
      R (.returned (.int .i64 (-1))) w
    )



def S87 (t0 t1 : Value) (w : World) (R : Ending → World → Prop) : Prop :=
  ln1 t0 fun t7 =>
  S87L0 t0 t1 t7 R w

def A87 : Ann where
  live := fun
    | 0 => [8]
    | _ => []
  wr := fun
    | 0 => fun i => (Nat.ble 4 i && Nat.ble i 5) || (Nat.ble 8 i && Nat.ble i 18)
    | _ => fun _ => false
  sched := fun _ => .done

set_option maxRecDepth 100000 in
theorem ok87 : (codeOk Tryd.f87.ntmps A87 (Tryd.f87.body.getD .skip) 0 && Nat.ble 2 Tryd.f87.ntmps) = true := by kernel_rfl
set_option maxRecDepth 100000 in
theorem lift87 {t0 t1 : Value} {w : World} {R : Ending → World → Prop} (h : S87 t0 t1 w R) : Calls Tryd.prog 87 #[t0, t1] w R :=
  calls_of_cw (fn := Tryd.f87) (c := Tryd.f87.body.getD .skip) A87 mixes Tryd.func87 (by kernel_rfl) ok87
    ((by kernel_rfl : (S87 t0 t1 w R) = cw Tryd.prog A87 (Tryd.f87.body.getD .skip) 0 (bodyQ Tryd.prog Tryd.f87 R) (frOf #[t0, t1]) w).mp h)

def S54 (t0 t1 t2 t3 : Value) (w : World) (R : Ending → World → Prop) : Prop :=
  boxW 80 (.agg #[(.int .i64 0), (.slice none 0 0)]) w fun t8 w =>
  callW Tryd.prog (.func (.func 58) #[] #[]) [t0, t1] w fun t15 w =>
  exQ t15 0 fun t16 =>
  exQ t15 1 fun t17 =>
  boxW 80 (.agg #[(.int .i64 0), (.slice none 0 0)]) w fun t10 w =>
  stW Tryd.prog 80 t10 t16 w fun w =>
  binQ Tryd.prog w .eql 24 true t17 (.int .i64 0) fun t19 =>
  gd t19 true (fun k => k t2 w) w fun t21 w =>
  gd t19 true (fun k => binQ Tryd.prog w .lss 3 true t21 (.int .i64 0) fun v => k v w) w fun t22 w =>
  gd t19 true (fun k => k t22 w) w fun t23 w =>
  gd t23 false (fun k => k t2 w) w fun t24 w =>
  gd t23 false (fun k => k t0 w) w fun t25 w =>
  gd t23 false (fun k => binQ Tryd.prog w .geq 3 false t24 t25 fun v => k v w) w fun t26 w =>
  gd t19 true (fun k => pickQ t23 (.bool true) t26 fun v => k v w) w fun t27 w =>
  gd t19 true (fun k => k t27 w) w fun t28 w =>
  gd t28 false (fun k => k t3 w) w fun t29 w =>
  gd t28 false (fun k => binQ Tryd.prog w .lss 3 true t29 (.int .i64 0) fun v => k v w) w fun t30 w =>
  gd t19 true (fun k => pickQ t28 (.bool true) t30 fun v => k v w) w fun t31 w =>
  gd t19 true (fun k => k t31 w) w fun t32 w =>
  gd t32 false (fun k => k t3 w) w fun t33 w =>
  gd t32 false (fun k => k t0 w) w fun t34 w =>
  gd t32 false (fun k => binQ Tryd.prog w .geq 3 false t33 t34 fun v => k v w) w fun t35 w =>
  gd t19 true (fun k => pickQ t32 (.bool true) t35 fun v => k v w) w fun t36 w =>
  gd t19 true (fun k => k t36 w) w fun t37 w =>
  gd t37 false (fun k => k t2 w) w fun t38 w =>
  gd t37 false (fun k => k t3 w) w fun t39 w =>
  gd t37 false (fun k => binQ Tryd.prog w .eql 3 false t38 t39 fun v => k v w) w fun t40 w =>
  gd t19 true (fun k => pickQ t37 (.bool true) t40 fun v => k v w) w fun t41 w =>
  pickQ t19 t41 (.bool false) fun t42 =>
  Join (fun (k_2 : Value → World → Prop) =>
    condW t42 (
      k_2 (.int .i64 2) w
    ) (
      k_2 t17 w
    )
  ) fun t11 w =>
  ldN 2 w t10 fun t43_2 =>
  stW Tryd.prog 80 t8 t43_2 w fun w =>
  ldN 2 w t8 fun r_2 =>
  R (.returned (.tuple #[r_2, t11])) w

def A54 : Ann where
  live := fun _ => []
  wr := fun _ _ => false
  sched := fun _ => .done

set_option maxRecDepth 100000 in
theorem ok54 : (codeOk Tryd.f54.ntmps A54 (Tryd.f54.body.getD .skip) 0 && Nat.ble 4 Tryd.f54.ntmps) = true := by kernel_rfl
set_option maxRecDepth 100000 in
theorem lift54 {t0 t1 t2 t3 : Value} {w : World} {R : Ending → World → Prop} (h : S54 t0 t1 t2 t3 w R) : Calls Tryd.prog 54 #[t0, t1, t2, t3] w R :=
  calls_of_cw (fn := Tryd.f54) (c := Tryd.f54.body.getD .skip) A54 mixes Tryd.func54 (by kernel_rfl) ok54
    ((by kernel_rfl : (S54 t0 t1 t2 t3 w R) = cw Tryd.prog A54 (Tryd.f54.body.getD .skip) 0 (bodyQ Tryd.prog Tryd.f54 R) (frOf #[t0, t1, t2, t3]) w).mp h)

def S71L3 (t1 t9 t88 t93 : Value) (k_2 : Value → World → Prop) (w : World) : Prop :=
  Loop2 (.slice none 0 0) (.int .i64 0) w fun _ t12 t94 w next_4 =>
    binQ Tryd.prog w .lss 3 false t94 t93 fun t95 =>
    condW t95 (
      iaS 1 t88 t94 fun t97 =>
      ld1 w t97 fun t98 =>
      callW Tryd.prog (.func (.func 86) #[] #[]) [t1, t94] w fun t101 w =>
      unQ .not t101 fun t102 =>
      Join (fun (k_3 : Value → World → Prop) =>
        condW t102 (
          bsW Tryd.prog 34 1 [(0, t98)] w fun t105 w =>
          semW Tryd.prog (apS [34, 34] 34 [t12, t105]) w fun t106 w =>
          k_3 t106 w
        ) (
          k_3 t12 w
        )
      ) fun t12_2 w =>
      binQ Tryd.prog w .add 3 true t94 (.int .i64 1) fun t107_2 =>
      next_4 t12_2 t107_2 w
    ) (
      bsW Tryd.prog 52 1 [(0, t12)] w fun t110 w =>
      semW Tryd.prog (apS [52, 52] 52 [t9, t110]) w fun t111 w =>
      k_2 t111 w
    )

def S71L2 (t1 t17 t83 : Value) (R : Ending → World → Prop) (w : World) : Prop :=
  Loop2 (.slice none 0 0) (.int .i64 0) w fun _ t9 t84 w next_3 =>
    binQ Tryd.prog w .lss 3 false t84 t83 fun t85 =>
    condW t85 (
      Join (fun (k_2 : Value → World → Prop) =>
        iaS 1 t17 t84 fun t87 =>
        ld1 w t87 fun t88 =>
        callW Tryd.prog (.func (.func 86) #[] #[]) [t1, t84] w fun t91 w =>
        condW t91 (
          k_2 t9 w
        ) (
          ln1 t88 fun t93 =>
          S71L3 t1 t9 t88 t93 k_2 w
        )
      ) fun t9_2 w =>
      binQ Tryd.prog w .add 3 true t84 (.int .i64 1) fun t112_2 =>
      next_3 t9_2 t112_2 w
    ) (
      R (.returned t9) w
    )

def S71L1 (t1 t17 t31 t32 : Value) (R : Ending → World → Prop) (w : World) : Prop :=
  Loop1 (.int .i64 0) w fun _ t33 w next_2 =>
    binQ Tryd.prog w .lss 3 false t33 t32 fun t34 =>
    condW t34 (
      iaS 2 t31 t33 fun t35 =>
      ldN 2 w t35 fun t36 =>
      boxW 40 (.agg #[(.int .i64 0), (.int .i64 0)]) w fun t8 w =>
      stW Tryd.prog 40 t8 t36 w fun w =>
      Drew w fun w =>
      fa1 t8 0 fun t38 =>
      ld1 w t38 fun t39 =>
      iaS 1 t17 t39 fun t40 =>
      ld1 w t40 fun t41 =>
      fa1 t8 0 fun t42 =>
      ld1 w t42 fun t43 =>
      iaS 1 t41 t43 fun t44 =>
      ld1 w t44 fun t45 =>
      binQ Tryd.prog w .add 3 true t45 (.int .i64 1) fun t46 =>
      iaS 1 t41 t43 fun t47 =>
      stW Tryd.prog 3 t47 t46 w fun w =>
      Drew w fun w =>
      fa1 t8 1 fun t49 =>
      ld1 w t49 fun t50 =>
      iaS 1 t17 t50 fun t51 =>
      ld1 w t51 fun t52 =>
      fa1 t8 1 fun t53 =>
      ld1 w t53 fun t54 =>
      iaS 1 t52 t54 fun t55 =>
      ld1 w t55 fun t56 =>
      binQ Tryd.prog w .add 3 true t56 (.int .i64 1) fun t57 =>
      iaS 1 t52 t54 fun t58 =>
      stW Tryd.prog 3 t58 t57 w fun w =>
      Drew w fun w =>
      fa1 t8 0 fun t60 =>
      ld1 w t60 fun t61 =>
      iaS 1 t17 t61 fun t62 =>
      ld1 w t62 fun t63 =>
      fa1 t8 1 fun t64 =>
      ld1 w t64 fun t65 =>
      iaS 1 t63 t65 fun t66 =>
      ld1 w t66 fun t67 =>
      binQ Tryd.prog w .sub 3 true t67 (.int .i64 1) fun t68 =>
      iaS 1 t63 t65 fun t69 =>
      stW Tryd.prog 3 t69 t68 w fun w =>
      Drew w fun w =>
      fa1 t8 1 fun t71 =>
      ld1 w t71 fun t72 =>
      iaS 1 t17 t72 fun t73 =>
      ld1 w t73 fun t74 =>
      fa1 t8 0 fun t75 =>
      ld1 w t75 fun t76 =>
      iaS 1 t74 t76 fun t77 =>
      ld1 w t77 fun t78 =>
      binQ Tryd.prog w .sub 3 true t78 (.int .i64 1) fun t79 =>
      iaS 1 t74 t76 fun t80 =>
      stW Tryd.prog 3 t80 t79 w fun w =>
      binQ Tryd.prog w .add 3 true t33 (.int .i64 1) fun t81 =>
      next_2 t81 w
    ) (
      ln1 t17 fun t83 =>
      S71L2 t1 t17 t83 R w
    )

def S71L0 (t1 t2 t17 t19 : Value) (R : Ending → World → Prop) (w : World) : Prop :=
  Loop1 (.int .i64 0) w fun _ t20 w next =>
    binQ Tryd.prog w .lss 3 false t20 t19 fun t21 =>
    condW t21 (
      fa1 t2 0 fun t25 =>
      ld1 w t25 fun t26 =>
      mkW Tryd.prog 34 t26 t26 w fun t27 w =>
      iaS 1 t17 t20 fun t28 =>
      stW Tryd.prog 34 t28 t27 w fun w =>
      binQ Tryd.prog w .add 3 true t20 (.int .i64 1) fun t29 =>
      next t29 w
    ) (
      fa1 t2 1 fun t30 =>
      ld1 w t30 fun t31 =>
      ln1 t31 fun t32 =>
      S71L1 t1 t17 t31 t32 R w
    )



def S71 (t0 t1 : Value) (w : World) (R : Ending → World → Prop) : Prop :=
  boxW 80 t0 w fun t2 w =>
  fa1 t2 0 fun t15 =>
  ld1 w t15 fun t16 =>
  mkW Tryd.prog 52 t16 t16 w fun t17 w =>
  ln1 t17 fun t19 =>
  S71L0 t1 t2 t17 t19 R w

def A71 : Ann where
  live := fun
    | 0 => [20]
    | 2 => [33]
    | 4 => [9, 84]
    | 6 => [12, 94]
    | _ => []
  wr := fun
    | 0 => fun i => Nat.beq i 6 || (Nat.ble 20 i && Nat.ble i 29)
    | 2 => fun i => Nat.beq i 8 || (Nat.ble 33 i && Nat.ble i 81)
    | 4 => fun i => (Nat.ble 9 i && Nat.ble i 14) || (Nat.ble 84 i && Nat.ble i 112)
    | 6 => fun i => (Nat.ble 12 i && Nat.ble i 14) || (Nat.ble 94 i && Nat.ble i 107)
    | _ => fun _ => false
  sched := fun
    | 10 => (.take 0 (.take 1 (.take 2 (.take 3 (.take 4 (.take 5 (.take 6 (.take 7 (.take 8 (.take 9 (.take 10 (.bar 11 .done))))))))))))
    | 11 => (.take 0 (.take 1 (.take 2 (.take 3 (.take 4 (.take 5 (.take 6 (.take 7 (.take 8 (.take 9 (.take 10 (.bar 11 .done))))))))))))
    | 12 => (.take 0 (.take 1 (.take 2 (.take 3 (.take 4 (.take 5 (.take 6 (.take 7 (.take 8 (.take 9 (.take 10 (.bar 11 .done))))))))))))
    | 13 => (.take 0 (.take 1 (.take 2 (.take 3 (.take 4 (.take 5 (.take 6 (.take 7 (.take 8 (.take 9 (.take 10 (.bar 11 .done))))))))))))
    | _ => .done

set_option maxRecDepth 100000 in
theorem ok71 : (codeOk Tryd.f71.ntmps A71 (Tryd.f71.body.getD .skip) 0 && Nat.ble 2 Tryd.f71.ntmps) = true := by kernel_rfl
set_option maxRecDepth 100000 in
theorem lift71 {t0 t1 : Value} {w : World} {R : Ending → World → Prop} (h : S71 t0 t1 w R) : Calls Tryd.prog 71 #[t0, t1] w R :=
  calls_of_cw (fn := Tryd.f71) (c := Tryd.f71.body.getD .skip) A71 mixes Tryd.func71 (by kernel_rfl) ok71
    ((by kernel_rfl : (S71 t0 t1 w R) = cw Tryd.prog A71 (Tryd.f71.body.getD .skip) 0 (bodyQ Tryd.prog Tryd.f71 R) (frOf #[t0, t1]) w).mp h)

def S86 (t0 t1 : Value) (w : World) (R : Ending → World → Prop) : Prop :=
  callW Tryd.prog (.func (.func 99) #[] #[]) [t0, t1] w fun t7 w =>
  binQ Tryd.prog w .geq 3 true t7 (.int .i64 0) fun t8 =>
  R (.returned t8) w

def A86 : Ann where
  live := fun _ => []
  wr := fun _ _ => false
  sched := fun _ => .done

set_option maxRecDepth 100000 in
theorem ok86 : (codeOk Tryd.f86.ntmps A86 (Tryd.f86.body.getD .skip) 0 && Nat.ble 2 Tryd.f86.ntmps) = true := by kernel_rfl
set_option maxRecDepth 100000 in
theorem lift86 {t0 t1 : Value} {w : World} {R : Ending → World → Prop} (h : S86 t0 t1 w R) : Calls Tryd.prog 86 #[t0, t1] w R :=
  calls_of_cw (fn := Tryd.f86) (c := Tryd.f86.body.getD .skip) A86 mixes Tryd.func86 (by kernel_rfl) ok86
    ((by kernel_rfl : (S86 t0 t1 w R) = cw Tryd.prog A86 (Tryd.f86.body.getD .skip) 0 (bodyQ Tryd.prog Tryd.f86 R) (frOf #[t0, t1]) w).mp h)

def S99L0 (t0 t1 t7 : Value) (R : Ending → World → Prop) (w : World) : Prop :=
  Loop1 (.int .i64 0) w fun _ t8 w next =>
    binQ Tryd.prog w .lss 3 false t8 t7 fun t9 =>
    condW t9 (
      iaS 1 t0 t8 fun t14 =>
      ld1 w t14 fun t15 =>
      binQ Tryd.prog w .eql 3 false t1 t15 fun t16 =>
      condW t16 (
        R (.returned t8) w
      ) (
        binQ Tryd.prog w .add 3 true t8 (.int .i64 1) fun t18 =>
        next t18 w
      )
    ) (
      R (.returned (.int .i64 (-1))) w
    )



def S99 (t0 t1 : Value) (w : World) (R : Ending → World → Prop) : Prop :=
  ln1 t0 fun t7 =>
  S99L0 t0 t1 t7 R w

def A99 : Ann where
  live := fun
    | 0 => [8]
    | _ => []
  wr := fun
    | 0 => fun i => (Nat.ble 4 i && Nat.ble i 5) || (Nat.ble 8 i && Nat.ble i 18)
    | _ => fun _ => false
  sched := fun _ => .done

set_option maxRecDepth 100000 in
theorem ok99 : (codeOk Tryd.f99.ntmps A99 (Tryd.f99.body.getD .skip) 0 && Nat.ble 2 Tryd.f99.ntmps) = true := by kernel_rfl
set_option maxRecDepth 100000 in
theorem lift99 {t0 t1 : Value} {w : World} {R : Ending → World → Prop} (h : S99 t0 t1 w R) : Calls Tryd.prog 99 #[t0, t1] w R :=
  calls_of_cw (fn := Tryd.f99) (c := Tryd.f99.body.getD .skip) A99 mixes Tryd.func99 (by kernel_rfl) ok99
    ((by kernel_rfl : (S99 t0 t1 w R) = cw Tryd.prog A99 (Tryd.f99.body.getD .skip) 0 (bodyQ Tryd.prog Tryd.f99 R) (frOf #[t0, t1]) w).mp h)

def S70L2 (t1 t2 t6 t7 t9_2 t54_2 : Value) (next_4 : Value → World → Prop) (w : World) : Prop :=
  Loop1 t54_2 w fun _ t10_2 w next_5 =>
    ln1 t1 fun t57_2 =>
    binQ Tryd.prog w .lss 3 false t10_2 t57_2 fun t58_2 =>
    condW t58_2 (
      Drew w fun w =>
      iaS 1 t1 t9_2 fun t63_2 =>
      ld1 w t63_2 fun t64_2 =>
      fa1 t2 2 fun t66_2 =>
      ld1 w t66_2 fun t67_2 =>
      fa1 t2 0 fun t68_2 =>
      ld1 w t68_2 fun t69_2 =>
      fa1 t2 1 fun t70_2 =>
      ld1 w t70_2 fun t71_2 =>
      iaS 1 t1 t9_2 fun t74_2 =>
      ld1 w t74_2 fun t75_2 =>
      iaS 1 t75_2 t10_2 fun t77_2 =>
      ld1 w t77_2 fun t78_2 =>
      ld1 w t7 fun t80_2 =>
      iaS 1 t1 t80_2 fun t81_2 =>
      ld1 w t81_2 fun t82_2 =>
      ld1 w t7 fun t83_2 =>
      iaS 1 t82_2 t83_2 fun t84_2 =>
      ld1 w t84_2 fun t85_2 =>
      fa1 t2 1 fun t87_2 =>
      ld1 w t87_2 fun t88_2 =>
      iaS 1 t1 t9_2 fun t91_2 =>
      ld1 w t91_2 fun t92_2 =>
      ld1 w t7 fun t93_2 =>
      iaS 1 t92_2 t93_2 fun t94_2 =>
      ld1 w t94_2 fun t95_2 =>
      ld1 w t7 fun t97_2 =>
      iaS 1 t1 t97_2 fun t98_2 =>
      ld1 w t98_2 fun t99_2 =>
      iaS 1 t99_2 t10_2 fun t101_2 =>
      ld1 w t101_2 fun t102_2 =>
      callW Tryd.prog t71_2 [t78_2, t85_2] w <| keepB w fun t86_2 w =>
      callW Tryd.prog t88_2 [t95_2, t102_2] w <| keepB w fun t103_2 w =>
      callW Tryd.prog t69_2 [t86_2, t103_2] w <| keepB w fun t104_2 w =>
      callW Tryd.prog t67_2 [t104_2, t6] w <| keepB w fun t106_2 w =>
      iaS 1 t64_2 t10_2 fun t107_2 =>
      stW Tryd.prog 3 t107_2 t106_2 w fun w =>
      binQ Tryd.prog w .add 3 true t10_2 (.int .i64 1) fun t60_2 =>
      next_5 t60_2 w
    ) (
      binQ Tryd.prog w .add 3 true t9_2 (.int .i64 1) fun t52_2 =>
      next_4 t52_2 w
    )

def S70L1 (t1 t2 t5_2 t6 t7 t13 t46_2 : Value) (next : Value → Value → Value → World → Prop) (w : World) : Prop :=
  Loop1 t46_2 w fun _ t9_2 w next_4 =>
    ln1 t1 fun t49_2 =>
    binQ Tryd.prog w .lss 3 false t9_2 t49_2 fun t50_2 =>
    condW t50_2 (
      ld1 w t7 fun t53_2 =>
      binQ Tryd.prog w .add 3 true t53_2 (.int .i64 1) fun t54_2 =>
      S70L2 t1 t2 t6 t7 t9_2 t54_2 next_4 w
    ) (
      Drew w fun w =>
      ld1 w t7 fun t109_2 =>
      iaS 1 t1 t109_2 fun t110_2 =>
      ld1 w t110_2 fun t111_2 =>
      ld1 w t7 fun t112_2 =>
      iaS 1 t111_2 t112_2 fun t113_2 =>
      ld1 w t113_2 fun t114_2 =>
      binQ Tryd.prog w .add 3 true t13 (.int .i64 1) fun t115_2 =>
      next t5_2 t114_2 t115_2 w
    )

def S70L0 (t1 t2 t12 : Value) (R : Ending → World → Prop) (w : World) : Prop :=
  Loop3 (.int .i64 1) (.int .i64 1) (.int .i64 0) w fun _ t5 t6 t13 w next =>
    binQ Tryd.prog w .lss 3 false t13 t12 fun t14 =>
    condW t14 (
      boxW 3 (.int .i64 0) w fun t7 w =>
      stW Tryd.prog 3 t7 t13 w fun w =>
      ld1 w t7 fun t17 =>
      slS 1 t1 (some t17) none fun t18 =>
      callW Tryd.prog (.func (.func 84) #[] #[]) [t18, (.func (.func 85) #[] #[t7])] w fun t20 w =>
      binQ Tryd.prog w .lss 3 true t20 (.int .i64 0) fun t22 =>
      condW t22 (
        R (.returned (.int .i64 0)) w
      ) (
        binQ Tryd.prog w .gtr 3 true t20 (.int .i64 0) fun t24 =>
        Join (fun (k_2 : Value → World → Prop) =>
          condW t24 (
            Drew w fun w =>
            ∃ X : Nat → Prop,
            ld1 w t7 fun t26 =>
            takeX X w (fun w k => k t1) fun t27 =>
            takeX X w (fun w k => ld1 w t7 k) fun t28 =>
            takeX X w (fun w k => k t20) fun t29 =>
            takeX X w (fun w k => binQ Tryd.prog w .add 3 false t28 t29 k) fun t30 =>
            ld1 w t7 fun t32 =>
            binQ Tryd.prog w .add 3 false t32 t20 fun t34 =>
            iaS 1 t1 t34 fun t35 =>
            ld1 w t35 fun t36 =>
            ld1 w t7 fun t38 =>
            iaS 1 t1 t38 fun t39 =>
            ld1 w t39 fun t40 =>
            iaS 1 t1 t26 fun t41 =>
            stW Tryd.prog 34 t41 t36 w <| keepW X w fun w =>
            takeX X w (fun w k => iaS 1 t27 t30 k) fun t42 =>
            stW Tryd.prog 34 t42 t40 w fun w =>
            unQ .neg t5 fun t44 =>
            k_2 t44 w
          ) (
            k_2 t5 w
          )
        ) fun t5_2 w =>
        ld1 w t7 fun t45_2 =>
        binQ Tryd.prog w .add 3 true t45_2 (.int .i64 1) fun t46_2 =>
        S70L1 t1 t2 t5_2 t6 t7 t13 t46_2 next w
      )
    ) (
      binQ Tryd.prog w .mul 3 false t5 t6 fun t118 =>
      R (.returned t118) w
    )



def S70 (t0 t1 : Value) (w : World) (R : Ending → World → Prop) : Prop :=
  boxW 100 t0 w fun t2 w =>
  ln1 t1 fun t12 =>
  S70L0 t1 t2 t12 R w

def A70 : Ann where
  live := fun
    | 0 => [5, 6, 13]
    | 2 => [9]
    | 4 => [10]
    | _ => []
  wr := fun
    | 0 => fun i => (Nat.ble 4 i && Nat.ble i 10) || (Nat.ble 13 i && Nat.ble i 115)
    | 2 => fun i => (Nat.ble 9 i && Nat.ble i 10) || (Nat.ble 47 i && Nat.ble i 107)
    | 4 => fun i => Nat.beq i 10 || (Nat.ble 55 i && Nat.ble i 107)
    | _ => fun _ => false
  sched := fun
    | 9 => (.cls (.take 0 (.take 1 (.take 2 (.take 3 (.take 4 (.take 5 (.take 6 (.take 7 (.take 8 (.take 9 (.take 10 (.take 11 (.take 12 (.take 13 (.take 14 (.take 15 (.take 16 (.eff 17 (.take 18 (.bar 19 .done)))))))))))))))))))))
    | 17 => (.take 0 (.take 1 (.take 2 (.take 3 (.take 4 (.take 5 (.take 6 (.take 7 (.take 8 (.take 9 (.take 10 (.take 11 (.take 12 (.take 13 (.take 14 (.take 15 (.take 16 (.take 17 (.take 18 (.take 19 (.take 20 (.take 21 (.take 22 (.take 23 (.take 24 (.take 26 (.take 27 (.take 28 (.take 29 (.take 30 (.take 31 (.take 32 (.take 33 (.take 34 (.take 35 (.take 36 (.take 37 (.take 38 (.take 39 (.take 40 (.take 41 (.take 44 (.eff 25 (.eff 42 (.eff 43 (.eff 45 (.take 46 (.bar 47 .done))))))))))))))))))))))))))))))))))))))))))))))))
    | 18 => (.take 0 (.take 1 (.take 2 (.take 3 (.take 4 (.take 5 (.take 6 (.take 7 .done))))))))
    | _ => .done

set_option maxRecDepth 100000 in
theorem ok70 : (codeOk Tryd.f70.ntmps A70 (Tryd.f70.body.getD .skip) 0 && Nat.ble 2 Tryd.f70.ntmps) = true := by kernel_rfl
set_option maxRecDepth 100000 in
theorem lift70 {t0 t1 : Value} {w : World} {R : Ending → World → Prop} (h : S70 t0 t1 w R) : Calls Tryd.prog 70 #[t0, t1] w R :=
  calls_of_cw (fn := Tryd.f70) (c := Tryd.f70.body.getD .skip) A70 mixes Tryd.func70 (by kernel_rfl) ok70
    ((by kernel_rfl : (S70 t0 t1 w R) = cw Tryd.prog A70 (Tryd.f70.body.getD .skip) 0 (bodyQ Tryd.prog Tryd.f70 R) (frOf #[t0, t1]) w).mp h)

def S84L0 (t0 t1 t7 : Value) (R : Ending → World → Prop) (w : World) : Prop :=
  Loop1 (.int .i64 0) w fun _ t8 w next =>
    binQ Tryd.prog w .lss 3 false t8 t7 fun t9 =>
    condW t9 (
      iaS 1 t0 t8 fun t14 =>
      ld1 w t14 fun t15 =>
      callW Tryd.prog t1 [t15] w fun t16 w =>
      condW t16 (
        R (.returned t8) w
      ) (
        binQ Tryd.prog w .add 3 true t8 (.int .i64 1) fun t18 =>
        next t18 w
      )
    ) (
      R (.returned (.int .i64 (-1))) w
    )



def S84 (t0 t1 : Value) (w : World) (R : Ending → World → Prop) : Prop :=
  ln1 t0 fun t7 =>
  S84L0 t0 t1 t7 R w

def A84 : Ann where
  live := fun
    | 0 => [8]
    | _ => []
  wr := fun
    | 0 => fun i => (Nat.ble 4 i && Nat.ble i 5) || (Nat.ble 8 i && Nat.ble i 18)
    | _ => fun _ => false
  sched := fun _ => .done

set_option maxRecDepth 100000 in
theorem ok84 : (codeOk Tryd.f84.ntmps A84 (Tryd.f84.body.getD .skip) 0 && Nat.ble 2 Tryd.f84.ntmps) = true := by kernel_rfl
set_option maxRecDepth 100000 in
theorem lift84 {t0 t1 : Value} {w : World} {R : Ending → World → Prop} (h : S84 t0 t1 w R) : Calls Tryd.prog 84 #[t0, t1] w R :=
  calls_of_cw (fn := Tryd.f84) (c := Tryd.f84.body.getD .skip) A84 mixes Tryd.func84 (by kernel_rfl) ok84
    ((by kernel_rfl : (S84 t0 t1 w R) = cw Tryd.prog A84 (Tryd.f84.body.getD .skip) 0 (bodyQ Tryd.prog Tryd.f84 R) (frOf #[t0, t1]) w).mp h)

def S85 (t0 t1 : Value) (w : World) (R : Ending → World → Prop) : Prop :=
  ld1 w t1 fun t5 =>
  iaS 1 t0 t5 fun t6 =>
  ld1 w t6 fun t7 =>
  binQ Tryd.prog w .neq 3 true t7 (.int .i64 0) fun t8 =>
  R (.returned t8) w

def A85 : Ann where
  live := fun _ => []
  wr := fun _ _ => false
  sched := fun _ => .done

set_option maxRecDepth 100000 in
theorem ok85 : (codeOk Tryd.f85.ntmps A85 (Tryd.f85.body.getD .skip) 0 && Nat.ble 2 Tryd.f85.ntmps) = true := by kernel_rfl
set_option maxRecDepth 100000 in
theorem lift85 {t0 t1 : Value} {w : World} {R : Ending → World → Prop} (h : S85 t0 t1 w R) : Calls Tryd.prog 85 #[t0, t1] w R :=
  calls_of_cw (fn := Tryd.f85) (c := Tryd.f85.body.getD .skip) A85 mixes Tryd.func85 (by kernel_rfl) ok85
    ((by kernel_rfl : (S85 t0 t1 w R) = cw Tryd.prog A85 (Tryd.f85.body.getD .skip) 0 (bodyQ Tryd.prog Tryd.f85 R) (frOf #[t0, t1]) w).mp h)

def S122 (t0 t1 : Value) (w : World) (R : Ending → World → Prop) : Prop :=
  binQ Tryd.prog w .sub 3 false t0 t1 fun t7 =>
  R (.returned t7) w

def A122 : Ann where
  live := fun _ => []
  wr := fun _ _ => false
  sched := fun _ => .done

set_option maxRecDepth 100000 in
theorem ok122 : (codeOk Tryd.f122.ntmps A122 (Tryd.f122.body.getD .skip) 0 && Nat.ble 2 Tryd.f122.ntmps) = true := by kernel_rfl
set_option maxRecDepth 100000 in
theorem lift122 {t0 t1 : Value} {w : World} {R : Ending → World → Prop} (h : S122 t0 t1 w R) : Calls Tryd.prog 122 #[t0, t1] w R :=
  calls_of_cw (fn := Tryd.f122) (c := Tryd.f122.body.getD .skip) A122 mixes Tryd.func122 (by kernel_rfl) ok122
    ((by kernel_rfl : (S122 t0 t1 w R) = cw Tryd.prog A122 (Tryd.f122.body.getD .skip) 0 (bodyQ Tryd.prog Tryd.f122 R) (frOf #[t0, t1]) w).mp h)

def S123 (t0 t1 : Value) (w : World) (R : Ending → World → Prop) : Prop :=
  binQ Tryd.prog w .mul 3 false t0 t1 fun t7 =>
  R (.returned t7) w

def A123 : Ann where
  live := fun _ => []
  wr := fun _ _ => false
  sched := fun _ => .done

set_option maxRecDepth 100000 in
theorem ok123 : (codeOk Tryd.f123.ntmps A123 (Tryd.f123.body.getD .skip) 0 && Nat.ble 2 Tryd.f123.ntmps) = true := by kernel_rfl
set_option maxRecDepth 100000 in
theorem lift123 {t0 t1 : Value} {w : World} {R : Ending → World → Prop} (h : S123 t0 t1 w R) : Calls Tryd.prog 123 #[t0, t1] w R :=
  calls_of_cw (fn := Tryd.f123) (c := Tryd.f123.body.getD .skip) A123 mixes Tryd.func123 (by kernel_rfl) ok123
    ((by kernel_rfl : (S123 t0 t1 w R) = cw Tryd.prog A123 (Tryd.f123.body.getD .skip) 0 (bodyQ Tryd.prog Tryd.f123 R) (frOf #[t0, t1]) w).mp h)

def S124 (t0 t1 : Value) (w : World) (R : Ending → World → Prop) : Prop :=
  binQ Tryd.prog w .quo 3 false t0 t1 fun t7 =>
  R (.returned t7) w

def A124 : Ann where
  live := fun _ => []
  wr := fun _ _ => false
  sched := fun _ => .done

set_option maxRecDepth 100000 in
theorem ok124 : (codeOk Tryd.f124.ntmps A124 (Tryd.f124.body.getD .skip) 0 && Nat.ble 2 Tryd.f124.ntmps) = true := by kernel_rfl
set_option maxRecDepth 100000 in
theorem lift124 {t0 t1 : Value} {w : World} {R : Ending → World → Prop} (h : S124 t0 t1 w R) : Calls Tryd.prog 124 #[t0, t1] w R :=
  calls_of_cw (fn := Tryd.f124) (c := Tryd.f124.body.getD .skip) A124 mixes Tryd.func124 (by kernel_rfl) ok124
    ((by kernel_rfl : (S124 t0 t1 w R) = cw Tryd.prog A124 (Tryd.f124.body.getD .skip) 0 (bodyQ Tryd.prog Tryd.f124 R) (frOf #[t0, t1]) w).mp h)

def S55 (t0 : Value) (w : World) (R : Ending → World → Prop) : Prop :=
  boxW 80 t0 w fun t1 w =>
  Drew w fun w =>
  ldN 3 w (.pointer (some ⟨0, 0, none⟩)) fun t3 =>
  ldN 2 w t1 fun t4 =>
  bsW Tryd.prog 34 1 [(0, (.int .i64 0))] w <| keepB w fun t5 w =>
  callW Tryd.prog (.func (.func 71) #[] #[]) [t4, t5] w <| keepB w fun t6 w =>
  callW Tryd.prog (.func (.func 70) #[] #[]) [t3, t6] w fun t7 w =>
  R (.returned t7) w

def A55 : Ann where
  live := fun _ => []
  wr := fun _ _ => false
  sched := fun
    | 1 => (.take 0 (.take 1 (.eff 2 (.eff 3 (.bar 4 (.take 5 .done))))))
    | _ => .done

set_option maxRecDepth 100000 in
theorem ok55 : (codeOk Tryd.f55.ntmps A55 (Tryd.f55.body.getD .skip) 0 && Nat.ble 1 Tryd.f55.ntmps) = true := by kernel_rfl
set_option maxRecDepth 100000 in
theorem lift55 {t0 : Value} {w : World} {R : Ending → World → Prop} (h : S55 t0 w R) : Calls Tryd.prog 55 #[t0] w R :=
  calls_of_cw (fn := Tryd.f55) (c := Tryd.f55.body.getD .skip) A55 mixes Tryd.func55 (by kernel_rfl) ok55
    ((by kernel_rfl : (S55 t0 w R) = cw Tryd.prog A55 (Tryd.f55.body.getD .skip) 0 (bodyQ Tryd.prog Tryd.f55 R) (frOf #[t0]) w).mp h)

def S56 (t0 t1 t2 : Value) (w : World) (R : Ending → World → Prop) : Prop :=
  boxW 80 t0 w fun t3 w =>
  Drew w fun w =>
  ldN 3 w (.pointer (some ⟨0, 0, none⟩)) fun t7 =>
  ldN 2 w t3 fun t8 =>
  bsW Tryd.prog 34 2 [(0, t1), (1, t2)] w <| keepB w fun t11 w =>
  callW Tryd.prog (.func (.func 71) #[] #[]) [t8, t11] w <| keepB w fun t12 w =>
  callW Tryd.prog (.func (.func 70) #[] #[]) [t7, t12] w fun t13 w =>
  R (.returned t13) w

def A56 : Ann where
  live := fun _ => []
  wr := fun _ _ => false
  sched := fun
    | 1 => (.take 0 (.take 1 (.take 2 (.take 3 (.eff 4 (.eff 5 (.bar 6 (.take 7 .done))))))))
    | _ => .done

set_option maxRecDepth 100000 in
theorem ok56 : (codeOk Tryd.f56.ntmps A56 (Tryd.f56.body.getD .skip) 0 && Nat.ble 3 Tryd.f56.ntmps) = true := by kernel_rfl
set_option maxRecDepth 100000 in
theorem lift56 {t0 t1 t2 : Value} {w : World} {R : Ending → World → Prop} (h : S56 t0 t1 t2 w R) : Calls Tryd.prog 56 #[t0, t1, t2] w R :=
  calls_of_cw (fn := Tryd.f56) (c := Tryd.f56.body.getD .skip) A56 mixes Tryd.func56 (by kernel_rfl) ok56
    ((by kernel_rfl : (S56 t0 t1 t2 w R) = cw Tryd.prog A56 (Tryd.f56.body.getD .skip) 0 (bodyQ Tryd.prog Tryd.f56 R) (frOf #[t0, t1, t2]) w).mp h)

def S57L0 (t1 t3 t6 t19 t22 : Value) (R : Ending → World → Prop) (w : World) : Prop :=
  Loop1 (.int .i64 0) w fun _ t23 w next =>
    binQ Tryd.prog w .lss 3 false t23 t22 fun t24 =>
    condW t24 (
      iaS 1 t19 t23 fun t26 =>
      ld1 w t26 fun t27 =>
      callW Tryd.prog (.func (.func 72) #[] #[t6]) [t3] w fun t31 w =>
      iaS 1 t27 t31 fun t32 =>
      stW Tryd.prog 3 t32 (.int .i64 0) w fun w =>
      callW Tryd.prog (.func (.func 72) #[] #[t6]) [t1] w fun t36 w =>
      binQ Tryd.prog w .eql 3 false t23 t36 fun t37 =>
      Join (fun (k_2 : World → Prop) =>
        condW t37 (
          callW Tryd.prog (.func (.func 72) #[] #[t6]) [t3] w fun t41 w =>
          iaS 1 t27 t41 fun t42 =>
          stW Tryd.prog 3 t42 (.int .i64 1) w fun w =>
          k_2 w
        ) (
          k_2 w
        )
      ) fun w =>
      binQ Tryd.prog w .add 3 true t23 (.int .i64 1) fun t43_2 =>
      next t43_2 w
    ) (
      ldN 3 w (.pointer (some ⟨0, 0, none⟩)) fun t44 =>
      callW Tryd.prog (.func (.func 70) #[] #[]) [t44, t19] w fun t46 w =>
      R (.returned t46) w
    )

def S57 (t0 t1 t2 t3 : Value) (w : World) (R : Ending → World → Prop) : Prop :=
  boxW 80 t0 w fun t4 w =>
  boxW 3 t2 w fun t6 w =>
  ld1 w t6 fun t14 =>
  binQ Tryd.prog w .eql 3 false t3 t14 fun t15 =>
  condW t15 (
    R (.returned (.int .i64 0)) w
  ) (
    ldN 2 w t4 fun t16 =>
    ld1 w t6 fun t17 =>
    bsW Tryd.prog 34 1 [(0, t17)] w fun t18 w =>
    callW Tryd.prog (.func (.func 71) #[] #[]) [t16, t18] w fun t19 w =>
    ln1 t19 fun t22 =>
    S57L0 t1 t3 t6 t19 t22 R w
  )

def A57 : Ann where
  live := fun
    | 0 => [23]
    | _ => []
  wr := fun
    | 0 => fun i => (Nat.ble 11 i && Nat.ble i 12) || (Nat.ble 23 i && Nat.ble i 43)
    | _ => fun _ => false
  sched := fun _ => .done

set_option maxRecDepth 100000 in
theorem ok57 : (codeOk Tryd.f57.ntmps A57 (Tryd.f57.body.getD .skip) 0 && Nat.ble 4 Tryd.f57.ntmps) = true := by kernel_rfl
set_option maxRecDepth 100000 in
theorem lift57 {t0 t1 t2 t3 : Value} {w : World} {R : Ending → World → Prop} (h : S57 t0 t1 t2 t3 w R) : Calls Tryd.prog 57 #[t0, t1, t2, t3] w R :=
  calls_of_cw (fn := Tryd.f57) (c := Tryd.f57.body.getD .skip) A57 mixes Tryd.func57 (by kernel_rfl) ok57
    ((by kernel_rfl : (S57 t0 t1 t2 t3 w R) = cw Tryd.prog A57 (Tryd.f57.body.getD .skip) 0 (bodyQ Tryd.prog Tryd.f57 R) (frOf #[t0, t1, t2, t3]) w).mp h)

def S72 (t0 t1 : Value) (w : World) (R : Ending → World → Prop) : Prop :=
  ld1 w t1 fun t5 =>
  binQ Tryd.prog w .gtr 3 false t0 t5 fun t6 =>
  condW t6 (
    binQ Tryd.prog w .sub 3 true t0 (.int .i64 1) fun t8 =>
    R (.returned t8) w
  ) (
    R (.returned t0) w
  )

def A72 : Ann where
  live := fun _ => []
  wr := fun _ _ => false
  sched := fun _ => .done

set_option maxRecDepth 100000 in
theorem ok72 : (codeOk Tryd.f72.ntmps A72 (Tryd.f72.body.getD .skip) 0 && Nat.ble 2 Tryd.f72.ntmps) = true := by kernel_rfl
set_option maxRecDepth 100000 in
theorem lift72 {t0 t1 : Value} {w : World} {R : Ending → World → Prop} (h : S72 t0 t1 w R) : Calls Tryd.prog 72 #[t0, t1] w R :=
  calls_of_cw (fn := Tryd.f72) (c := Tryd.f72.body.getD .skip) A72 mixes Tryd.func72 (by kernel_rfl) ok72
    ((by kernel_rfl : (S72 t0 t1 w R) = cw Tryd.prog A72 (Tryd.f72.body.getD .skip) 0 (bodyQ Tryd.prog Tryd.f72 R) (frOf #[t0, t1]) w).mp h)

def S24 (t0 t1 : Value) (w : World) (R : Ending → World → Prop) : Prop :=
  callW Tryd.prog (.func (.func 58) #[] #[]) [t0, t1] w fun t11 w =>
  exQ t11 0 fun t12 =>
  exQ t11 1 fun t13 =>
  boxW 80 (.agg #[(.int .i64 0), (.slice none 0 0)]) w fun t6 w =>
  stW Tryd.prog 80 t6 t12 w fun w =>
  binQ Tryd.prog w .neq 24 true t13 (.int .i64 0) fun t15 =>
  condW t15 (
    R (.returned (.tuple #[(.int .i64 0), t13])) w
  ) (
    ldN 2 w t6 fun t17 =>
    callW Tryd.prog (.func (.func 55) #[] #[]) [t17] w fun t18 w =>
    R (.returned (.tuple #[t18, (.int .i64 0)])) w
  )

def A24 : Ann where
  live := fun _ => []
  wr := fun _ _ => false
  sched := fun _ => .done

set_option maxRecDepth 100000 in
theorem ok24 : (codeOk Tryd.f24.ntmps A24 (Tryd.f24.body.getD .skip) 0 && Nat.ble 2 Tryd.f24.ntmps) = true := by kernel_rfl
set_option maxRecDepth 100000 in
theorem lift24 {t0 t1 : Value} {w : World} {R : Ending → World → Prop} (h : S24 t0 t1 w R) : Calls Tryd.prog 24 #[t0, t1] w R :=
  calls_of_cw (fn := Tryd.f24) (c := Tryd.f24.body.getD .skip) A24 mixes Tryd.func24 (by kernel_rfl) ok24
    ((by kernel_rfl : (S24 t0 t1 w R) = cw Tryd.prog A24 (Tryd.f24.body.getD .skip) 0 (bodyQ Tryd.prog Tryd.f24 R) (frOf #[t0, t1]) w).mp h)

def S26 (t0 t1 t2 t3 : Value) (w : World) (R : Ending → World → Prop) : Prop :=
  callW Tryd.prog (.func (.func 54) #[] #[]) [t0, t1, t2, t3] w fun t17 w =>
  exQ t17 0 fun t18 =>
  exQ t17 1 fun t19 =>
  boxW 80 (.agg #[(.int .i64 0), (.slice none 0 0)]) w fun t10 w =>
  stW Tryd.prog 80 t10 t18 w fun w =>
  binQ Tryd.prog w .neq 24 true t19 (.int .i64 0) fun t21 =>
  condW t21 (
    R (.returned (.tuple #[(.int .i64 0), t19])) w
  ) (
    ldN 2 w t10 fun t23 =>
    callW Tryd.prog (.func (.func 56) #[] #[]) [t23, t2, t3] w fun t26 w =>
    R (.returned (.tuple #[t26, (.int .i64 0)])) w
  )

def A26 : Ann where
  live := fun _ => []
  wr := fun _ _ => false
  sched := fun _ => .done

set_option maxRecDepth 100000 in
theorem ok26 : (codeOk Tryd.f26.ntmps A26 (Tryd.f26.body.getD .skip) 0 && Nat.ble 4 Tryd.f26.ntmps) = true := by kernel_rfl
set_option maxRecDepth 100000 in
theorem lift26 {t0 t1 t2 t3 : Value} {w : World} {R : Ending → World → Prop} (h : S26 t0 t1 t2 t3 w R) : Calls Tryd.prog 26 #[t0, t1, t2, t3] w R :=
  calls_of_cw (fn := Tryd.f26) (c := Tryd.f26.body.getD .skip) A26 mixes Tryd.func26 (by kernel_rfl) ok26
    ((by kernel_rfl : (S26 t0 t1 t2 t3 w R) = cw Tryd.prog A26 (Tryd.f26.body.getD .skip) 0 (bodyQ Tryd.prog Tryd.f26 R) (frOf #[t0, t1, t2, t3]) w).mp h)

def S22L1 (t1 t8 t12 t41 t56 : Value) (R : Ending → World → Prop) (w : World) : Prop :=
  Loop1 (.int .i64 0) w fun _ t57 w next_2 =>
    binQ Tryd.prog w .lss 3 false t57 t56 fun t58 =>
    condW t58 (
      iaS 2 t1 t57 fun t59 =>
      ldN 2 w t59 fun t60 =>
      boxW 40 (.agg #[(.int .i64 0), (.int .i64 0)]) w fun t16 w =>
      stW Tryd.prog 40 t16 t60 w fun w =>
      Drew w fun w =>
      fa1 t12 0 fun t61 =>
      ld1 w t61 fun t62 =>
      fa1 t16 0 fun t64 =>
      ld1 w t64 fun t65 =>
      iaS 1 t41 t65 fun t66 =>
      ld1 w t66 fun t67 =>
      fa1 t16 1 fun t69 =>
      ld1 w t69 fun t70 =>
      iaS 1 t41 t70 fun t71 =>
      ld1 w t71 fun t72 =>
      binQ Tryd.prog w .sub 3 false t67 t72 fun t73 =>
      bsW Tryd.prog 34 1 [(0, t73)] w <| keepB w fun t74 w =>
      semW Tryd.prog (apS [34, 34] 34 [t62, t74]) w fun t75 w =>
      fa1 t12 0 fun t76 =>
      stW Tryd.prog 34 t76 t75 w fun w =>
      binQ Tryd.prog w .add 3 true t57 (.int .i64 1) fun t77 =>
      next_2 t77 w
    ) (
      ldN 3 w t12 fun t78 =>
      stW Tryd.prog 36 t8 t78 w fun w =>
      ldN 3 w t8 fun r_3 =>
      R (.returned (.tuple #[r_3, (.int .i64 0)])) w
    )

def S22L0 (t0 t1 t2 t3 t8 t10 t12 t41 : Value) (R : Ending → World → Prop) (w : World) : Prop :=
  Loop1 (.int .i64 0) w fun _ t43 w next =>
    binQ Tryd.prog w .lss 3 false t43 t0 fun t44 =>
    condW t44 (
      ldN 2 w t10 fun t48 =>
      callW Tryd.prog (.func (.func 57) #[] #[]) [t48, t2, t3, t43] w fun t52 w =>
      iaS 1 t41 t43 fun t53 =>
      stW Tryd.prog 3 t53 t52 w fun w =>
      binQ Tryd.prog w .add 3 true t43 (.int .i64 1) fun t54 =>
      next t54 w
    ) (
      ln1 t1 fun t56 =>
      S22L1 t1 t8 t12 t41 t56 R w
    )

def S22 (t0 t1 t2 t3 : Value) (w : World) (R : Ending → World → Prop) : Prop :=
  boxW 36 (.agg #[(.slice none 0 0), (.int .i64 0), (.int .i64 0)]) w fun t8 w =>
  callW Tryd.prog (.func (.func 54) #[] #[]) [t0, t1, t2, t3] w fun t22 w =>
  exQ t22 0 fun t23 =>
  exQ t22 1 fun t24 =>
  boxW 80 (.agg #[(.int .i64 0), (.slice none 0 0)]) w fun t10 w =>
  stW Tryd.prog 80 t10 t23 w fun w =>
  binQ Tryd.prog w .neq 24 true t24 (.int .i64 0) fun t26 =>
  condW t26 (
    bdQ Tryd.prog 36 [] fun t27 =>
    stW Tryd.prog 36 t8 t27 w fun w =>
    ldN 3 w t8 fun r =>
    R (.returned (.tuple #[r, t24])) w
  ) (
    Drew w fun w =>
    Join (fun (k_2 : Value → World → Prop) =>
      ldN 2 w t10 fun t29 =>
      ldN 2 w t10 fun t31 =>
      And (
        callW Tryd.prog (.func (.func 55) #[] #[]) [t29] w <| keepB w fun t30 w =>
        And (
          callW Tryd.prog (.func (.func 56) #[] #[]) [t31, t2, t3] w <| keepB w fun t34 w =>
          bdQ Tryd.prog 36 [(1, t30), (2, t34)] fun t35 =>
          boxW 36 (.agg #[(.slice none 0 0), (.int .i64 0), (.int .i64 0)]) w <| keepB w fun t12_2 w =>
          stW Tryd.prog 36 t12_2 t35 w fun w =>
          k_2 t12_2 w
        ) <|
        And (
          boxW 36 (.agg #[(.slice none 0 0), (.int .i64 0), (.int .i64 0)]) w <| keepB w fun t12_3 w =>
          callW Tryd.prog (.func (.func 56) #[] #[]) [t31, t2, t3] w <| keepB w fun t34_2 w =>
          bdQ Tryd.prog 36 [(1, t30), (2, t34_2)] fun t35_2 =>
          stW Tryd.prog 36 t12_3 t35_2 w fun w =>
          k_2 t12_3 w
        ) <|
        True
      ) <|
      And (
        boxW 36 (.agg #[(.slice none 0 0), (.int .i64 0), (.int .i64 0)]) w <| keepB w fun t12_4 w =>
        callW Tryd.prog (.func (.func 55) #[] #[]) [t29] w <| keepB w fun t30_2 w =>
        callW Tryd.prog (.func (.func 56) #[] #[]) [t31, t2, t3] w <| keepB w fun t34_3 w =>
        bdQ Tryd.prog 36 [(1, t30_2), (2, t34_3)] fun t35_3 =>
        stW Tryd.prog 36 t12_4 t35_3 w fun w =>
        k_2 t12_4 w
      ) <|
      True
    ) fun t12 w =>
    fa1 t12 1 fun t36 =>
    ld1 w t36 fun t37 =>
    binQ Tryd.prog w .eql 3 true t37 (.int .i64 0) fun t38 =>
    condW t38 (
      bdQ Tryd.prog 36 [] fun t39 =>
      stW Tryd.prog 36 t8 t39 w fun w =>
      ldN 3 w t8 fun r_2 =>
      R (.returned (.tuple #[r_2, (.int .i64 10)])) w
    ) (
      mkW Tryd.prog 34 t0 t0 w fun t41 w =>
      S22L0 t0 t1 t2 t3 t8 t10 t12 t41 R w
    )
  )

def A22 : Ann where
  live := fun
    | 0 => [43]
    | 2 => [57]
    | _ => []
  wr := fun
    | 0 => fun i => Nat.beq i 14 || (Nat.ble 43 i && Nat.ble i 54)
    | 2 => fun i => Nat.beq i 16 || (Nat.ble 57 i && Nat.ble i 77)
    | _ => fun _ => false
  sched := fun
    | 4 => (.take 0 (.take 2 (.take 3 (.take 4 (.alt 1 (.alt 5 (.take 6 (.eff 7 (.bar 8 .done))) (.alt 7 (.eff 5 (.take 6 (.bar 8 .done))) .nomore)) (.alt 7 (.eff 1 (.eff 5 (.take 6 (.bar 8 .done)))) .nomore))))))
    | 16 => (.take 0 (.take 1 (.take 2 (.take 3 (.take 4 (.take 5 (.take 6 (.take 7 (.take 8 (.take 9 (.take 10 (.take 11 (.take 12 (.eff 13 (.bar 14 (.take 15 (.bar 16 .done)))))))))))))))))
    | _ => .done

set_option maxRecDepth 100000 in
theorem ok22 : (codeOk Tryd.f22.ntmps A22 (Tryd.f22.body.getD .skip) 0 && Nat.ble 4 Tryd.f22.ntmps) = true := by kernel_rfl
set_option maxRecDepth 100000 in
theorem lift22 {t0 t1 t2 t3 : Value} {w : World} {R : Ending → World → Prop} (h : S22 t0 t1 t2 t3 w R) : Calls Tryd.prog 22 #[t0, t1, t2, t3] w R :=
  calls_of_cw (fn := Tryd.f22) (c := Tryd.f22.body.getD .skip) A22 mixes Tryd.func22 (by kernel_rfl) ok22
    ((by kernel_rfl : (S22 t0 t1 t2 t3 w R) = cw Tryd.prog A22 (Tryd.f22.body.getD .skip) 0 (bodyQ Tryd.prog Tryd.f22 R) (frOf #[t0, t1, t2, t3]) w).mp h)

def S78L0 (t0 t1 t4 : Value) (R : Ending → World → Prop) (w : World) : Prop :=
  Loop2 t0 t1 w fun _ t5 t6 w next =>
    binQ Tryd.prog w .neq 3 true t6 (.int .i64 0) fun t10 =>
    condW t10 (
      Drew w fun w =>
      binQ Tryd.prog w .rem 3 false t5 t6 fun t14 =>
      next t6 t14 w
    ) (
      Drew w fun w =>
      binQ Tryd.prog w .quo 3 false t0 t5 fun t17 =>
      binQ Tryd.prog w .quo 3 false t1 t5 fun t20 =>
      bdQ Tryd.prog 58 [(0, t17), (1, t20)] fun t21 =>
      stW Tryd.prog 58 t4 t21 w fun w =>
      ldN 2 w t4 fun r =>
      R (.returned r) w
    )



def S78 (t0 t1 : Value) (w : World) (R : Ending → World → Prop) : Prop :=
  boxW 58 (.agg #[(.int .i64 0), (.int .i64 0)]) w fun t4 w =>
  S78L0 t0 t1 t4 R w

def A78 : Ann where
  live := fun
    | 0 => [5, 6]
    | _ => []
  wr := fun
    | 0 => fun i => (Nat.ble 5 i && Nat.ble i 6) || (Nat.ble 9 i && Nat.ble i 14)
    | _ => fun _ => false
  sched := fun
    | 3 => (.take 0 (.take 1 (.take 2 (.take 3 (.take 4 (.take 5 .done))))))
    | 4 => (.take 0 (.take 1 (.take 2 (.take 3 (.take 4 (.take 5 (.take 6 (.bar 7 .done))))))))
    | _ => .done

set_option maxRecDepth 100000 in
theorem ok78 : (codeOk Tryd.f78.ntmps A78 (Tryd.f78.body.getD .skip) 0 && Nat.ble 2 Tryd.f78.ntmps) = true := by kernel_rfl
set_option maxRecDepth 100000 in
theorem lift78 {t0 t1 : Value} {w : World} {R : Ending → World → Prop} (h : S78 t0 t1 w R) : Calls Tryd.prog 78 #[t0, t1] w R :=
  calls_of_cw (fn := Tryd.f78) (c := Tryd.f78.body.getD .skip) A78 mixes Tryd.func78 (by kernel_rfl) ok78
    ((by kernel_rfl : (S78 t0 t1 w R) = cw Tryd.prog A78 (Tryd.f78.body.getD .skip) 0 (bodyQ Tryd.prog Tryd.f78 R) (frOf #[t0, t1]) w).mp h)

def S62 (t0 t1 t2 : Value) (w : World) (R : Ending → World → Prop) : Prop :=
  boxW 80 t0 w fun t3 w =>
  boxW 58 (.agg #[(.int .i64 0), (.int .i64 0)]) w fun t6 w =>
  ldN 2 w t3 fun t9 =>
  callW Tryd.prog (.func (.func 55) #[] #[]) [t9] w fun t10 w =>
  binQ Tryd.prog w .eql 3 true t10 (.int .i64 0) fun t12 =>
  condW t12 (
    bdQ Tryd.prog 58 [] fun t13 =>
    stW Tryd.prog 58 t6 t13 w fun w =>
    ldN 2 w t6 fun r =>
    R (.returned (.tuple #[r, (.int .i64 10)])) w
  ) (
    ldN 2 w t3 fun t14 =>
    callW Tryd.prog (.func (.func 56) #[] #[]) [t14, t1, t2] w fun t17 w =>
    callW Tryd.prog (.func (.func 78) #[] #[]) [t17, t10] w fun t19 w =>
    stW Tryd.prog 58 t6 t19 w fun w =>
    ldN 2 w t6 fun r_2 =>
    R (.returned (.tuple #[r_2, (.int .i64 0)])) w
  )

def A62 : Ann where
  live := fun _ => []
  wr := fun _ _ => false
  sched := fun _ => .done

set_option maxRecDepth 100000 in
theorem ok62 : (codeOk Tryd.f62.ntmps A62 (Tryd.f62.body.getD .skip) 0 && Nat.ble 3 Tryd.f62.ntmps) = true := by kernel_rfl
set_option maxRecDepth 100000 in
theorem lift62 {t0 t1 t2 : Value} {w : World} {R : Ending → World → Prop} (h : S62 t0 t1 t2 w R) : Calls Tryd.prog 62 #[t0, t1, t2] w R :=
  calls_of_cw (fn := Tryd.f62) (c := Tryd.f62.body.getD .skip) A62 mixes Tryd.func62 (by kernel_rfl) ok62
    ((by kernel_rfl : (S62 t0 t1 t2 w R) = cw Tryd.prog A62 (Tryd.f62.body.getD .skip) 0 (bodyQ Tryd.prog Tryd.f62 R) (frOf #[t0, t1, t2]) w).mp h)

def S36 (t0 t1 t2 t3 : Value) (w : World) (R : Ending → World → Prop) : Prop :=
  boxW 58 (.agg #[(.int .i64 0), (.int .i64 0)]) w fun t8 w =>
  callW Tryd.prog (.func (.func 54) #[] #[]) [t0, t1, t2, t3] w fun t17 w =>
  exQ t17 0 fun t18 =>
  exQ t17 1 fun t19 =>
  boxW 80 (.agg #[(.int .i64 0), (.slice none 0 0)]) w fun t10 w =>
  stW Tryd.prog 80 t10 t18 w fun w =>
  binQ Tryd.prog w .neq 24 true t19 (.int .i64 0) fun t21 =>
  condW t21 (
    bdQ Tryd.prog 58 [] fun t22 =>
    stW Tryd.prog 58 t8 t22 w fun w =>
    ldN 2 w t8 fun r =>
    R (.returned (.tuple #[r, t19])) w
  ) (
    ldN 2 w t10 fun t24 =>
    callW Tryd.prog (.func (.func 62) #[] #[]) [t24, t2, t3] w fun t27 w =>
    exQ t27 0 fun t28 =>
    exQ t27 1 fun t29 =>
    stW Tryd.prog 58 t8 t28 w fun w =>
    ldN 2 w t8 fun r_2 =>
    R (.returned (.tuple #[r_2, t29])) w
  )

def A36 : Ann where
  live := fun _ => []
  wr := fun _ _ => false
  sched := fun _ => .done

set_option maxRecDepth 100000 in
theorem ok36 : (codeOk Tryd.f36.ntmps A36 (Tryd.f36.body.getD .skip) 0 && Nat.ble 4 Tryd.f36.ntmps) = true := by kernel_rfl
set_option maxRecDepth 100000 in
theorem lift36 {t0 t1 t2 t3 : Value} {w : World} {R : Ending → World → Prop} (h : S36 t0 t1 t2 t3 w R) : Calls Tryd.prog 36 #[t0, t1, t2, t3] w R :=
  calls_of_cw (fn := Tryd.f36) (c := Tryd.f36.body.getD .skip) A36 mixes Tryd.func36 (by kernel_rfl) ok36
    ((by kernel_rfl : (S36 t0 t1 t2 t3 w R) = cw Tryd.prog A36 (Tryd.f36.body.getD .skip) 0 (bodyQ Tryd.prog Tryd.f36 R) (frOf #[t0, t1, t2, t3]) w).mp h)

def S39 (t0 t1 t2 : Value) (w : World) (R : Ending → World → Prop) : Prop :=
  boxW 58 (.agg #[(.int .i64 0), (.int .i64 0)]) w fun t6 w =>
  callW Tryd.prog (.func (.func 58) #[] #[]) [t0, t1] w fun t13 w =>
  exQ t13 0 fun t14 =>
  exQ t13 1 fun t15 =>
  boxW 80 (.agg #[(.int .i64 0), (.slice none 0 0)]) w fun t8 w =>
  stW Tryd.prog 80 t8 t14 w fun w =>
  binQ Tryd.prog w .neq 24 true t15 (.int .i64 0) fun t18 =>
  condW t18 (
    bdQ Tryd.prog 58 [] fun t19 =>
    stW Tryd.prog 58 t6 t19 w fun w =>
    ldN 2 w t6 fun r =>
    R (.returned (.tuple #[r, t15])) w
  ) (
    binQ Tryd.prog w .lss 3 true t2 (.int .i64 0) fun t23 =>
    gd t23 false (fun k => k t2 w) w fun t25 w =>
    gd t23 false (fun k => k t1 w) w fun t26 w =>
    gd t23 false (fun k => ln1 t26 fun v => k v w) w fun t27 w =>
    gd t23 false (fun k => binQ Tryd.prog w .geq 3 false t25 t27 fun v => k v w) w fun t28 w =>
    pickQ t23 (.bool true) t28 fun t29 =>
    condW t29 (
      bdQ Tryd.prog 58 [] fun t30 =>
      stW Tryd.prog 58 t6 t30 w fun w =>
      ldN 2 w t6 fun r_2 =>
      R (.returned (.tuple #[r_2, (.int .i64 6)])) w
    ) (
      Drew w fun w =>
      ldN 2 w t8 fun t31 =>
      iaS 2 t1 t2 fun t34 =>
      fa1 t34 0 fun t35 =>
      ld1 w t35 fun t36 =>
      iaS 2 t1 t2 fun t39 =>
      fa1 t39 1 fun t40 =>
      ld1 w t40 fun t41 =>
      callW Tryd.prog (.func (.func 62) #[] #[]) [t31, t36, t41] w fun t42 w =>
      exQ t42 0 fun t43 =>
      exQ t42 1 fun t44 =>
      stW Tryd.prog 58 t6 t43 w fun w =>
      ldN 2 w t6 fun r_3 =>
      R (.returned (.tuple #[r_3, t44])) w
    )
  )

def A39 : Ann where
  live := fun _ => []
  wr := fun _ _ => false
  sched := fun
    | 6 => (.take 0 (.take 1 (.take 2 (.take 3 (.take 4 (.take 5 (.take 6 (.take 7 (.take 8 (.take 9 (.take 10 (.bar 11 (.take 12 (.take 13 (.bar 14 (.take 15 .done))))))))))))))))
    | _ => .done

set_option maxRecDepth 100000 in
theorem ok39 : (codeOk Tryd.f39.ntmps A39 (Tryd.f39.body.getD .skip) 0 && Nat.ble 3 Tryd.f39.ntmps) = true := by kernel_rfl
set_option maxRecDepth 100000 in
theorem lift39 {t0 t1 t2 : Value} {w : World} {R : Ending → World → Prop} (h : S39 t0 t1 t2 w R) : Calls Tryd.prog 39 #[t0, t1, t2] w R :=
  calls_of_cw (fn := Tryd.f39) (c := Tryd.f39.body.getD .skip) A39 mixes Tryd.func39 (by kernel_rfl) ok39
    ((by kernel_rfl : (S39 t0 t1 t2 w R) = cw Tryd.prog A39 (Tryd.f39.body.getD .skip) 0 (bodyQ Tryd.prog Tryd.f39 R) (frOf #[t0, t1, t2]) w).mp h)

theorem fok58 : fnOk Tryd.prog 58 = true := by kernel_rfl
theorem fok74 : fnOk Tryd.prog 74 = true := by kernel_rfl
theorem fok73 : fnOk Tryd.prog 73 = true := by kernel_rfl
theorem fok87 : fnOk Tryd.prog 87 = true := by kernel_rfl
theorem fok54 : fnOk Tryd.prog 54 = true := by kernel_rfl
theorem fok71 : fnOk Tryd.prog 71 = true := by kernel_rfl
theorem fok86 : fnOk Tryd.prog 86 = true := by kernel_rfl
theorem fok99 : fnOk Tryd.prog 99 = true := by kernel_rfl
theorem fok70 : fnOk Tryd.prog 70 = true := by kernel_rfl
theorem fok84 : fnOk Tryd.prog 84 = true := by kernel_rfl
theorem fok85 : fnOk Tryd.prog 85 = true := by kernel_rfl
theorem fok122 : fnOk Tryd.prog 122 = true := by kernel_rfl
theorem fok123 : fnOk Tryd.prog 123 = true := by kernel_rfl
theorem fok124 : fnOk Tryd.prog 124 = true := by kernel_rfl
theorem fok55 : fnOk Tryd.prog 55 = true := by kernel_rfl
theorem fok56 : fnOk Tryd.prog 56 = true := by kernel_rfl
theorem fok57 : fnOk Tryd.prog 57 = true := by kernel_rfl
theorem fok72 : fnOk Tryd.prog 72 = true := by kernel_rfl
theorem fok24 : fnOk Tryd.prog 24 = true := by kernel_rfl
theorem fok26 : fnOk Tryd.prog 26 = true := by kernel_rfl
theorem fok22 : fnOk Tryd.prog 22 = true := by kernel_rfl
theorem fok78 : fnOk Tryd.prog 78 = true := by kernel_rfl
theorem fok62 : fnOk Tryd.prog 62 = true := by kernel_rfl
theorem fok36 : fnOk Tryd.prog 36 = true := by kernel_rfl
theorem fok39 : fnOk Tryd.prog 39 = true := by kernel_rfl
end Go.Proofs.YtkdcldbedbagjaaDoor
