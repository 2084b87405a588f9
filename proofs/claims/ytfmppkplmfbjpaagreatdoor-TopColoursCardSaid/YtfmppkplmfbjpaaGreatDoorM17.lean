/- Texts of my own, merged by program: Pd Pe. -/
import Derived.Test.YtfmppkplmfbjpaaGreatDoorM16
import Derived.Test.YtfmppkplmfbjpaaGreatDoorM06
set_option linter.all false
/- The laid variable kinds; groups in memory. -/
namespace Go.Proofs.YtfmppkplmfbjpaaGreatDoor
open Go.Lf Go.RowKit Go.Ht Go.Pt

def kindsL : List (Int × Int × Int × Int) := [(1, 0, 0, 1), (0, -1, 1, 0), (-1, 0, 0, -1), (0, 1, -1, 0), (1, 0, 0, -1), (-1, 0, 0, 1), (0, 1, 1, 0), (0, -1, -1, 0)]
/-- The move of a kind. -/
def mvK (i : Nat) (e f : Int) : Mv := ((kindsL.getD i (0, 0, 0, 0)).1, (kindsL.getD i (0, 0, 0, 0)).2.1, (kindsL.getD i (0, 0, 0, 0)).2.2.1, (kindsL.getD i (0, 0, 0, 0)).2.2.2, e, f)
def kindsV : List Value := (List.range 8).flatMap fun i => mvC (mvK i 0 0)
def Wk (w : World) : Prop := ∀ j u, kindsV[j]? = some u → w.cell? ⟨0, 0 + j, none⟩ = some u
theorem Wk.kp {w w' : World} (h : Wk w) (k : Kp w w') : Wk w' := fun j u hu => cell_later k (h j u hu)
theorem Wk.ld {w : World} (h : Wk w) (K : Value → Prop) : ldN 48 w (.pointer (some ⟨0, 0, none⟩)) K = K (.agg kindsV.toArray) := r_ldCells (n := 48) (l := kindsV) rfl h
theorem i8 {i : Nat} (h : i < 8) : i = 0 ∨ i = 1 ∨ i = 2 ∨ i = 3 ∨ i = 4 ∨ i = 5 ∨ i = 6 ∨ i = 7 := by omega
set_option maxRecDepth 100000 in
theorem kinds_at {i : Nat} (hi : i < 8) (w : World) (K : Value → World → Prop) : semW Tryz.prog (ixS 98 (.agg kindsV.toArray) (.int .i64 i)) w K = K (mvV (mvK i 0 0)) w := by
  rcases i8 hi with rfl | rfl | rfl | rfl | rfl | rfl | rfl | rfl <;> kernel_rfl
theorem kinds_sub {i : Nat} (hi : i < 8) : (kindsV.drop (i * 6)).take 6 = mvC (mvK i 0 0) := by
  rcases i8 hi with rfl | rfl | rfl | rfl | rfl | rfl | rfl | rfl <;> rfl
theorem Wk.one {w : World} (h : Wk w) {i : Nat} (hi : i < 8) (K : Value → Prop) : (iaA 8 6 (.pointer (some ⟨0, 0, none⟩)) (.int .i64 i) fun p => ldN 6 w p K) = K (mvV (mvK i 0 0)) := by
  have hii : (i : Int).toNat = i := by omega
  rw [r_iaA _ _ _ _ _ _ (by omega) (by omega), hii, Nat.zero_add]
  refine r_ldCells (n := 6) (l := mvC (mvK i 0 0)) rfl fun j u hu => ?_
  rw [← kinds_sub hi, List.getElem?_take] at hu
  split at hu
  · rw [List.getElem?_drop] at hu
    have := h _ _ hu
    rwa [Nat.zero_add] at this
  · cases hu
theorem kinds_rng : ∀ i, i < 8 → (-1 ≤ (kindsL.getD i (0, 0, 0, 0)).1 ∧ (kindsL.getD i (0, 0, 0, 0)).1 ≤ 1) ∧ (-1 ≤ (kindsL.getD i (0, 0, 0, 0)).2.1 ∧ (kindsL.getD i (0, 0, 0, 0)).2.1 ≤ 1) ∧ (-1 ≤ (kindsL.getD i (0, 0, 0, 0)).2.2.1 ∧ (kindsL.getD i (0, 0, 0, 0)).2.2.1 ≤ 1) ∧ (-1 ≤ (kindsL.getD i (0, 0, 0, 0)).2.2.2 ∧ (kindsL.getD i (0, 0, 0, 0)).2.2.2 ≤ 1) := by decide
theorem mvK_ok {i : Nat} (hi : i < 8) {e f : Int} (he : -200 ≤ e ∧ e ≤ 200) (hf : -200 ≤ f ∧ f ≤ 200) : MvOk (mvK i e f) := by
  obtain ⟨h1, h2, h3, h4⟩ := kinds_rng i hi
  exact ⟨h1, h2, h3, h4, he, hf⟩

theorem slt64 : SlT 64 71 6 48 := SlT.mk' (z := mvV (0, 0, 0, 0, 0, 0)) (by kernel_rfl) (by kernel_rfl) rfl (by decide)
set_option maxRecDepth 100000 in
theorem bs64 (m : Mv) (w : World) (K : Value → World → Prop) : bsW Tryz.prog 64 1 [(0, mvV m)] w K = K (.slice (some ⟨w.heap.size, 0, none⟩) 1 1) (w.alloc (.cells (mvV m).cells 71)) := by kernel_rfl
theorem st64 {w : World} {a : Addr} {x : Option Addr} {n c : Nat} {v : Value} {K : World → Prop} (hc : w.cell? a = some v) (hf : w.frozen? a = false) : stW Tryz.prog 64 (.pointer (some a)) (.slice x n c) w K = K (w.setCell a (.slice x n c)) := by
  have e : stW Tryz.prog 64 (.pointer (some a)) (.slice x n c) w K = ((w.cell? (a.add 0)).isSome = true ∧ w.frozen? (a.add 0) = false ∧ true = true ∧ K (w.setCell (a.add 0) (.slice x n c))) := by kernel_rfl
  rw [e]
  have ha : a.add 0 = a := rfl
  simp [ha, hc, hf]

theorem mvV_one (m : Mv) : ∀ u ∈ (mvV m).cells.toList, u.oneCell' = true := by
  intro u hu
  exact mvC_one m u (by simpa [Value.cells, mvC] using hu)
abbrev mv0 : Mv := (0, 0, 0, 0, 0, 0)
def mvEF (m : Mv) (e f : Int) : Mv := (m.1, m.2.1, m.2.2.1, m.2.2.2.1, e, f)
set_option maxRecDepth 100000 in
theorem st_mv {w : World} {b : Nat} {cs : Array Value} {m : Mv} {K : World → Prop} (hb : w.heap[b]? = some (.cells cs 71 (0, 0))) (hn : cs.size = 6) (hk : ∀ w', Chg (fun k => k = b) w w' → w'.heap.size = w.heap.size → w'.heap[b]? = some (.cells (mvV m).cells 71 (0, 0)) → K w') : stW Tryz.prog 71 (ptrV b) (mvV m) w K :=
  r_stAll (n := 6) (ty := 71) (by kernel_rfl) rfl (mvV_one m) hb hn hk
set_option maxRecDepth 100000 in
/-- A copy of a move, with another E and F. -/
theorem r_mk {w : World} {m : Mv} {e f : Int} {K : Value → World → Prop} (hK : ∀ (b8 : Nat) (w' : World), w'.heap[b8]? = some (.cells (mvV (mvEF m e f)).cells 71 (0, 0)) → Kp w w' → w.heap.size ≤ b8 → K (ptrV b8) w') :
    boxW 71 (mvV mv0) w fun t8 w => stW Tryz.prog 71 t8 (mvV m) w fun w => fa1 t8 4 fun t37 => stW Tryz.prog 3 t37 (.int .i64 e) w fun w => fa1 t8 5 fun t38 => stW Tryz.prog 3 t38 (.int .i64 f) w fun w => K t8 w := by
  refine r_box fun b8 w1 e1 s1 h1 k1 => ?_
  refine st_mv h1 rfl fun w2 c2 s2 h2 => ?_
  obtain ⟨_, _, _, _, q4, _⟩ := mv_cells h2
  rw [r_fa, Nat.zero_add, st3 q4 (frozen_row h2)]
  have h3 : (w2.setCell ⟨b8, 4, none⟩ (.int .i64 e)).heap[b8]? = some (.cells (mvV (mvEF m e m.2.2.2.2.2)).cells 71 (0, 0)) := setCell_block h2 rfl
  have c3 : Chg (fun k => k = b8) w2 (w2.setCell ⟨b8, 4, none⟩ (.int .i64 e)) := Chg.setCell _ _ rfl
  generalize w2.setCell ⟨b8, 4, none⟩ (.int .i64 e) = w3 at *
  obtain ⟨_, _, _, _, _, q5⟩ := mv_cells h3
  rw [r_fa, Nat.zero_add, st3 q5 (frozen_row h3)]
  have h4 : (w3.setCell ⟨b8, 5, none⟩ (.int .i64 f)).heap[b8]? = some (.cells (mvV (mvEF m e f)).cells 71 (0, 0)) := setCell_block h3 rfl
  have c4 : Chg (fun k => k = b8) w3 (w3.setCell ⟨b8, 5, none⟩ (.int .i64 f)) := Chg.setCell _ _ rfl
  refine hK b8 _ h4 (Kp.of_chg k1 ((c2.trans c3).trans c4) fun i hi => by omega) (by omega)
theorem mvEF_K (i : Nat) (a b e f : Int) : mvEF (mvK i a b) e f = mvK i e f := rfl

/-! ### groups -/
structure GrC (w : World) (bg : Nat) (A B D : Nat) (vs : Value) (own : Nat → Bool) : Prop where
  blk : ∃ cur : Array Value, w.heap[bg]? = some (.cells cur 69 (0, 0)) ∧ cur.size = 292 ∧ cur[0]? = some (.int .i64 A) ∧ cur[1]? = some (.int .i64 B) ∧ cur[2]? = some (.int .i64 D) ∧ cur[3]? = some vs ∧ ∀ j, j < 288 → cur[4 + j]? = some (.bool (own j))
section
variable {w w' : World} {bg A B D : Nat} {vs : Value} {own : Nat → Bool}
theorem GrC.lt (h : GrC w bg A B D vs own) : bg < w.heap.size := let ⟨_, h1, _⟩ := h.blk; block_lt h1
theorem GrC.kp (h : GrC w bg A B D vs own) (k : Kp w w') : GrC w' bg A B D vs own := ⟨let ⟨c, h1, h2⟩ := h.blk; ⟨c, block_below h1 k, h2⟩⟩
theorem GrC.chg {S : Nat → Prop} (h : GrC w bg A B D vs own) (c : Chg S w w') (hs : ¬ S bg) : GrC w' bg A B D vs own := ⟨let ⟨u, h1, h2⟩ := h.blk; ⟨u, c.at h1 hs, h2⟩⟩
theorem GrC.cells (h : GrC w bg A B D vs own) : w.cell? ⟨bg, 0, none⟩ = some (.int .i64 A) ∧ w.cell? ⟨bg, 1, none⟩ = some (.int .i64 B) ∧ w.cell? ⟨bg, 2, none⟩ = some (.int .i64 D) ∧ w.cell? ⟨bg, 3, none⟩ = some vs ∧ ∀ j, j < 288 → w.cell? ⟨bg, 4 + j, none⟩ = some (.bool (own j)) := by
  obtain ⟨c, h1, _, h2, h3, h4, h5, h6⟩ := h.blk
  exact ⟨by rw [cell_row h1]; exact h2, by rw [cell_row h1]; exact h3, by rw [cell_row h1]; exact h4, by rw [cell_row h1]; exact h5, fun j hj => by rw [cell_row h1]; exact h6 j hj⟩
set_option maxRecDepth 100000 in
theorem GrC.setAll (h : GrC w bg A B D vs own) {a : Option Addr} {n c : Nat} {K : World → Prop} (hK : ∀ w', GrC w' bg A B D (.slice a n c) own → Chg (fun k => k = bg) w w' → w'.heap.size = w.heap.size → K w') : stW Tryz.prog 64 (.pointer (some ⟨bg, 3, none⟩)) (.slice a n c) w K := by
  obtain ⟨cu, h1, hs, h2, h3, h4, h5, h6⟩ := h.blk
  rw [st64 (by rw [cell_row h1]; exact h5) (frozen_row h1)]
  refine hK _ ⟨⟨_, setCell_block h1 rfl, by simpa using hs, ?_, ?_, ?_, ?_, fun j hj => ?_⟩⟩ (Chg.setCell _ _ rfl) (setCell_size _ _ _)
  · rw [Array.getElem?_setIfInBounds_ne (by omega)]; exact h2
  · rw [Array.getElem?_setIfInBounds_ne (by omega)]; exact h3
  · rw [Array.getElem?_setIfInBounds_ne (by omega)]; exact h4
  · rw [Array.getElem?_setIfInBounds_self_of_lt (by omega)]
  · rw [Array.getElem?_setIfInBounds_ne (by omega)]; exact h6 j hj
theorem st4b {w : World} {a : Addr} {x : Bool} {v : Value} {K : World → Prop} (hc : w.cell? a = some v) (hf : w.frozen? a = false) : stW Tryz.prog 4 (.pointer (some a)) (.bool x) w K = K (w.setCell a (.bool x)) := by
  have e : stW Tryz.prog 4 (.pointer (some a)) (.bool x) w K = ((w.cell? (a.add 0)).isSome = true ∧ w.frozen? (a.add 0) = false ∧ true = true ∧ K (w.setCell (a.add 0) (.bool x))) := by kernel_rfl
  rw [e]
  have ha : a.add 0 = a := rfl
  simp [ha, hc, hf]
set_option maxRecDepth 100000 in
theorem GrC.setOwn (h : GrC w bg A B D vs own) {j : Nat} (hj : j < 288) {K : World → Prop} (hK : ∀ w', GrC w' bg A B D vs (fun i => if i = j then true else own i) → Chg (fun k => k = bg) w w' → w'.heap.size = w.heap.size → K w') : stW Tryz.prog 4 (.pointer (some ⟨bg, 4 + j, none⟩)) (.bool true) w K := by
  obtain ⟨cu, h1, hs, h2, h3, h4, h5, h6⟩ := h.blk
  rw [st4b (by rw [cell_row h1]; exact h6 j hj) (frozen_row h1)]
  refine hK _ ⟨⟨_, setCell_block h1 rfl, by simpa using hs, ?_, ?_, ?_, ?_, fun i hi => ?_⟩⟩ (Chg.setCell _ _ rfl) (setCell_size _ _ _)
  · rw [Array.getElem?_setIfInBounds_ne (by omega)]; exact h2
  · rw [Array.getElem?_setIfInBounds_ne (by omega)]; exact h3
  · rw [Array.getElem?_setIfInBounds_ne (by omega)]; exact h4
  · rw [Array.getElem?_setIfInBounds_ne (by omega)]; exact h5
  · by_cases e : i = j
    · subst e
      rw [Array.getElem?_setIfInBounds_self_of_lt (by omega), if_pos rfl]
    · rw [Array.getElem?_setIfInBounds_ne (by omega), if_neg e]; exact h6 i hi
end

structure GrAt (base : Nat) (w : World) (bg A B D : Nat) (vs : Value) (P : List Mv) (own : Nat → Bool) : Prop where
  c : GrC w bg A B D vs own
  r : RecAt 71 6 mvC base w vs P
  hb : base ≤ bg
section
variable {base : Nat} {w w' : World} {bg A B D : Nat} {vs : Value} {own : Nat → Bool} {P : List Mv}
theorem GrAt.kp (h : GrAt base w bg A B D vs P own) (k : Kp w w') : GrAt base w' bg A B D vs P own := ⟨h.c.kp k, h.r.kp k, h.hb⟩
theorem GrAt.ne (h : GrAt base w bg A B D vs P own) : vs.ownBlock ≠ some bg := fun e => by
  obtain ⟨cur, h1⟩ := h.r.row e
  obtain ⟨c, h2, _⟩ := h.c.blk
  rw [h1] at h2
  cases h2
end

set_option maxRecDepth 100000 in
theorem bd69 {A B D : Int} {K : Value → Prop} : bdQ Tryz.prog 69 [(0, gdV A B D)] K = K (.agg (#[.int .i64 A, .int .i64 B, .int .i64 D, nilS] ++ Array.replicate 288 (.bool false))) := by kernel_rfl

/-! ### what a group holds -/
structure GInv (l : List ByteArray) (A D : Nat) (Done : Nat → Nat → Nat → Prop) (P : List Mv) (own : Nat → Bool) : Prop where
  mem : ∀ m, m ∈ P ↔ ∃ i e h : Nat, Done i e h ∧ i < 8 ∧ e < A ∧ h < D ∧ keepsB l (mvK i e h) = true ∧ m = mvK i e h
  own : ∀ i e h : Nat, i < 8 → e < 6 → h < 6 → (own (i * 36 + e * 6 + h) = true ↔ Done i e h ∧ e < A ∧ h < D ∧ keepsB l (mvK i e h) = true)
section
variable {l : List ByteArray} {A D : Nat} {Done Done' : Nat → Nat → Nat → Prop} {P : List Mv} {own : Nat → Bool}
theorem GInv.congr (g : GInv l A D Done P own) (h : ∀ i e h : Nat, i < 8 → e < A → h < D → (Done i e h ↔ Done' i e h)) : GInv l A D Done' P own :=
  ⟨fun m => (g.mem m).trans ⟨fun ⟨i, e, f, h1, h2, h3, h4, h5⟩ => ⟨i, e, f, (h i e f h2 h3 h4).1 h1, h2, h3, h4, h5⟩, fun ⟨i, e, f, h1, h2, h3, h4, h5⟩ => ⟨i, e, f, (h i e f h2 h3 h4).2 h1, h2, h3, h4, h5⟩⟩,
   fun i e f hi he hf => (g.own i e f hi he hf).trans ⟨fun ⟨h1, h2, h3, h4⟩ => ⟨(h i e f hi h2 h3).1 h1, h2, h3, h4⟩, fun ⟨h1, h2, h3, h4⟩ => ⟨(h i e f hi h2 h3).2 h1, h2, h3, h4⟩⟩⟩
theorem GInv.no (g : GInv l A D Done P own) {i e f : Nat} (hk : keepsB l (mvK i e f) = false) (h : ∀ i' e' f' : Nat, Done' i' e' f' ↔ Done i' e' f' ∨ (i' = i ∧ e' = e ∧ f' = f)) : GInv l A D Done' P own := by
  refine ⟨fun m => (g.mem m).trans ⟨fun ⟨a, b, c, h1, r⟩ => ⟨a, b, c, (h a b c).2 (.inl h1), r⟩, fun ⟨a, b, c, h1, h2, h3, h4, h5, h6⟩ => ?_⟩, fun a b c ha hb hc => (g.own a b c ha hb hc).trans ⟨fun ⟨h1, r⟩ => ⟨(h a b c).2 (.inl h1), r⟩, fun ⟨h1, h2, h3, h4⟩ => ?_⟩⟩
  · rcases (h a b c).1 h1 with h1 | ⟨rfl, rfl, rfl⟩
    · exact ⟨a, b, c, h1, h2, h3, h4, h5, h6⟩
    · rw [hk] at h5; cases h5
  · rcases (h a b c).1 h1 with h1 | ⟨rfl, rfl, rfl⟩
    · exact ⟨h1, h2, h3, h4⟩
    · rw [hk] at h4; cases h4
theorem GInv.yes (g : GInv l A D Done P own) {i e f : Nat} (hi : i < 8) (hA : A ≤ 6) (hD : D ≤ 6) (he : e < A) (hf : f < D) (hk : keepsB l (mvK i e f) = true) (h : ∀ i' e' f' : Nat, Done' i' e' f' ↔ Done i' e' f' ∨ (i' = i ∧ e' = e ∧ f' = f)) :
    GInv l A D Done' (P ++ [mvK i e f]) (fun j => if j = i * 36 + e * 6 + f then true else own j) := by
  refine ⟨fun m => ?_, fun a b c ha hb hc => ?_⟩
  · rw [List.mem_append, List.mem_singleton, g.mem m]
    constructor
    · rintro (⟨a, b, c, h1, r⟩ | rfl)
      · exact ⟨a, b, c, (h a b c).2 (.inl h1), r⟩
      · exact ⟨i, e, f, (h i e f).2 (.inr ⟨rfl, rfl, rfl⟩), hi, he, hf, hk, rfl⟩
    · rintro ⟨a, b, c, h1, h2, h3, h4, h5, h6⟩
      rcases (h a b c).1 h1 with h1 | ⟨rfl, rfl, rfl⟩
      · exact .inl ⟨a, b, c, h1, h2, h3, h4, h5, h6⟩
      · exact .inr h6
  · by_cases ej : a * 36 + b * 6 + c = i * 36 + e * 6 + f
    · have : a = i ∧ b = e ∧ c = f := by omega
      obtain ⟨rfl, rfl, rfl⟩ := this
      rw [if_pos ej]
      exact ⟨fun _ => ⟨(h a b c).2 (.inr ⟨rfl, rfl, rfl⟩), he, hf, hk⟩, fun _ => rfl⟩
    · rw [if_neg ej, g.own a b c ha hb hc]
      constructor
      · rintro ⟨h1, r⟩
        exact ⟨(h a b c).2 (.inl h1), r⟩
      · rintro ⟨h1, r⟩
        rcases (h a b c).1 h1 with h1 | ⟨rfl, rfl, rfl⟩
        · exact ⟨h1, r⟩
        · exact absurd rfl ej
end

end Go.Proofs.YtfmppkplmfbjpaaGreatDoor

/- Contract of pattern: group. -/
namespace Go.Proofs.YtfmppkplmfbjpaaGreatDoor
open Go.Lf Go.RowKit Go.Ht Go.Pt

set_option maxRecDepth 100000 in
set_option maxHeartbeats 1000000 in
theorem r18_put {base A B D bg b8 i e f : Nat} {vs : Value} {P : List Mv} {own : Nat → Bool} {m : Mv} {wr : World} {K : World → Prop} (hG : GrAt base wr bg A B D vs P own) (h8 : wr.heap[b8]? = some (.cells (mvV m).cells 71 (0, 0))) (hi : i < 8) (he : e < 6) (hf : f < 6) (hP : P.length ≤ 300) (hb : base ≤ wr.heap.size)
    (hK : ∀ vs' w', GrAt base w' bg A B D vs' (P ++ [m]) (fun j => if j = i * 36 + e * 6 + f then true else own j) → Chg (fun k => k = bg ∨ vs.ownBlock = some k) wr w' → (∀ k, vs'.ownBlock = some k → vs.ownBlock = some k ∨ wr.heap.size ≤ k) → K w') :
    Drew wr fun w =>
    ∃ X : Nat → Prop,
    takeX X w (fun w k => k (ptrV bg)) fun t42 =>
    takeX X w (fun w k => k (ptrV bg)) fun t43 =>
    takeX X w (fun w k => ncQ t43 k) fun t44 =>
    takeX X w (fun w k => fa1 t44 3 k) fun t45 =>
    takeX X w (fun w k => ld1 w t45 k) fun t46 =>
    ldN 6 w (ptrV b8) fun t47 =>
    bsW Tryz.prog 64 1 [(0, t47)] w <| keepX X w fun t48 w =>
    semW Tryz.prog (apS [64, 64] 64 [t46, t48]) w <| keepX X w fun t49 w =>
    takeX X w (fun w k => ncQ t42 k) fun t50 =>
    takeX X w (fun w k => fa1 t50 3 k) fun t51 =>
    stW Tryz.prog 64 t51 t49 w fun w =>
    ncQ (ptrV bg) fun t56 =>
    fa1 t56 4 fun t57 =>
    iaA 8 36 t57 (.int .i64 i) fun t58 =>
    iaA 6 6 t58 (.int .i64 e) fun t59 =>
    iaA 6 1 t59 (.int .i64 f) fun t60 =>
    stW Tryz.prog 4 t60 (.bool true) w fun w =>
    K w := by
  refine r_drew fun w k _ => ?_
  refine ⟨fun q => vs.ownBlock = some q, ?_⟩
  have hG1 := hG.kp k
  obtain ⟨_, _, _, c3, _⟩ := hG1.c.cells
  have hbX : ¬ (fun q => vs.ownBlock = some q) bg := hG.ne
  rw [r_tx, r_tx]
  simp only [r_nc, r_tx, r_fa, Nat.zero_add]
  rw [r_txl (X := fun q => vs.ownBlock = some q) c3 hbX, mv_ld (block_below h8 k), bs64, r_keepXE]
  refine ⟨BX.of_below (below_alloc _), ?_⟩
  have kA : Kp w (w.alloc (.cells (mvV m).cells 71)) := below_alloc _
  have hone : RecAt 71 6 mvC w.heap.size (w.alloc (.cells (mvV m).cells 71)) (.slice (some ⟨w.heap.size, 0, none⟩) 1 1) [m] := rec_alloc mvC_len [m] (by simp) w
  generalize w.alloc (.cells (mvV m).cells 71) = wa at *
  refine r_apRec slt64 mvC_len (fun x => mvC_one x) (by omega) (hG1.r.kp kA) (hone.rd mvC_len) (by simp only [List.length_append, List.length_cons, List.length_nil]; omega) (by have := k.size; have := kA.size; omega) fun vs' w1 o1 c1 at1 => ?_
  rw [r_keepXE]
  refine ⟨BX.of_chg c1 fun q e => e, ?_⟩
  obtain ⟨va, vc, ev, _⟩ := o1.len
  have hc1 : GrC w1 bg A B D vs own := (hG1.c.kp kA).chg c1 hbX
  rw [ev]
  refine hc1.setAll fun w2 hc2 c2 s2 => ?_
  rw [← ev] at hc2
  have hii : (i : Int).toNat = i := by omega
  have hee : (e : Int).toNat = e := by omega
  have hff : (f : Int).toNat = f := by omega
  rw [r_iaA _ _ _ _ _ _ (by omega) (by omega), r_iaA _ _ _ _ _ _ (by omega) (by omega), r_iaA _ _ _ _ _ _ (by omega) (by omega), hii, hee, hff, Nat.mul_one, Nat.add_assoc, Nat.add_assoc]
  refine hc2.setOwn (j := i * 36 + (e * 6 + f)) (by omega) fun w3 hc3 c3' s3 => ?_
  have hne' : vs'.ownBlock ≠ some bg := fun eb => by
    rcases at1 bg eb with h | h
    · exact hbX h
    · have := (hG1.c.kp kA).lt; omega
  have c23 : Chg (fun q => q = bg) w1 w3 := c2.trans c3'
  refine hK vs' w3 ⟨by rw [show i * 36 + e * 6 + f = i * 36 + (e * 6 + f) by omega]; exact hc3, o1.chg c23 fun q hq e' => hne' (by rw [hq, e']), hG.hb⟩ ?_ fun q hq => ?_
  · exact ((Chg.of_kp (Kp.trans k kA)).trans (c1.mono fun q _ h => .inr h)).trans (c23.mono fun q _ h => .inl h)
  · rcases at1 q hq with h | h
    · exact .inl h
    · right; have := k.size; have := kA.size; omega

/-- All kinds, E and F before these. -/
abbrev DoneI (i : Nat) : Nat → Nat → Nat → Prop := fun i' _ _ => i' < i
abbrev DoneE (i e : Nat) : Nat → Nat → Nat → Prop := fun i' e' _ => i' < i ∨ i' = i ∧ e' < e
abbrev DoneF (i e f : Nat) : Nat → Nat → Nat → Prop := fun i' e' f' => i' < i ∨ i' = i ∧ (e' < e ∨ e' = e ∧ f' < f)

/-- Where the loops of group stand. -/
structure GSt (l : List ByteArray) (w0 w : World) (bg A B D : Nat) (Done : Nat → Nat → Nat → Prop) (n : Nat) (bs : Nat) : Prop where
  k : Kp w0 w
  st : ∃ vs P own, GrAt w0.heap.size w bg A B D vs P own ∧ GInv l A D Done P own ∧ P.length ≤ n ∧ vs.ownBlock ≠ some bs
theorem GSt.kp {l : List ByteArray} {w0 w w' : World} {bg A B D n bs : Nat} {Done : Nat → Nat → Nat → Prop} (h : GSt l w0 w bg A B D Done n bs) (k : Kp w w') : GSt l w0 w' bg A B D Done n bs :=
  ⟨Kp.trans h.k k, let ⟨vs, P, own, h1, h2⟩ := h.st; ⟨vs, P, own, h1.kp k, h2⟩⟩
theorem GSt.cells {l : List ByteArray} {w0 w : World} {bg A B D n bs : Nat} {Done : Nat → Nat → Nat → Prop} (h : GSt l w0 w bg A B D Done n bs) : w.cell? ⟨bg, 0, none⟩ = some (.int .i64 A) ∧ w.cell? ⟨bg, 2, none⟩ = some (.int .i64 D) := by
  obtain ⟨vs, P, own, h1, _⟩ := h.st
  obtain ⟨c0, _, c2, _⟩ := h1.c.cells
  exact ⟨c0, c2⟩
theorem GSt.to {l : List ByteArray} {w0 w : World} {bg A B D n n' bs : Nat} {Done Done' : Nat → Nat → Nat → Prop} (h : GSt l w0 w bg A B D Done n bs) (hn : n ≤ n') (hd : ∀ i e h : Nat, i < 8 → e < A → h < D → (Done i e h ↔ Done' i e h)) : GSt l w0 w bg A B D Done' n' bs :=
  ⟨h.k, let ⟨vs, P, own, h1, h2, h3, h4⟩ := h.st; ⟨vs, P, own, h1, h2.congr hd, by omega, h4⟩⟩

section
variable {l : List ByteArray} {w0 : World} {b bg A B D : Nat}

set_option maxRecDepth 100000 in
set_option maxHeartbeats 1000000 in
theorem r18_2 {b5 i e : Nat} {wr : World} {next_2 : Value → World → Prop} (hf : FlAt w0 b l) (hA : A ≤ 6) (hD : D ≤ 6) (hi : i < 8) (he : e < A) (hS : GSt l w0 wr bg A B D (DoneE i e) (i * 36 + e * 6) b5) (h5 : wr.heap[b5]? = some (.cells (mvV (mvK i 0 0)).cells 71 (0, 0))) (hn5 : b5 ≠ bg)
    (hN : ∀ w', GSt l w0 w' bg A B D (DoneE i (e + 1)) (i * 36 + (e + 1) * 6) b5 → w'.heap[b5]? = some (.cells (mvV (mvK i 0 0)).cells 71 (0, 0)) → next_2 (.int .i64 ((e : Int) + 1)) w') :
    S18L2 (ptrV b) (ptrV b5) (ptrV bg) (.int .i64 i) (.int .i64 e) (.int .i64 D) next_2 wr := by
  unfold S18L2
  refine ⟨fun t31 wq => ∃ f : Nat, f ≤ D ∧ t31 = .int .i64 f ∧ GSt l w0 wq bg A B D (DoneF i e f) (i * 36 + e * 6 + f) b5 ∧ wq.heap[b5]? = some (.cells (mvV (mvK i 0 0)).cells 71 (0, 0)), fun t31 _ => D - (intOf t31).toNat, ⟨0, by omega, rfl, hS.to (by omega) (by intro i' e' f' _ _ _; unfold DoneE DoneF; omega), h5⟩, ?_⟩
  rintro _ _ wq ⟨f, hfD, rfl, hq, hq5⟩
  by_cases hlt : f < D
  case neg =>
    have hlt' : ¬ (f : Int) < (D : Int) := by omega
    rw [r_lss, decide_eq_false hlt', r_condF, r_add _ _ (by omega) (by omega)]
    exact hN _ (hq.to (by omega) (by intro i' e' f' _ _ _; unfold DoneE DoneF; omega)) hq5
  have hlt' : (f : Int) < (D : Int) := by omega
  rw [r_lss, decide_eq_true hlt', r_condT, mv_ld hq5]
  refine r_mk (m := mvK i 0 0) (e := e) (f := f) fun b8 w1 h8 k1 hb8 => ?_
  rw [mvEF_K] at h8
  dsimp only
  rw [mv_ld h8]
  have hok : MvOk (mvK i e f) := mvK_ok hi (by omega) (by omega)
  have hq1 := hq.kp k1
  refine r_use fok41 (keeps_calls (hf.kp hq1.k) hok) rfl ?_
  rintro _ w2 ⟨rfl, k2⟩
  refine ⟨_, rfl, ?_⟩
  have hq2 := hq1.kp k2
  have h52 := block_below hq5 (Kp.trans k1 k2)
  refine r_join0 (fun w' => GSt l w0 w' bg A B D (DoneF i e (f + 1)) (i * 36 + e * 6 + (f + 1)) b5 ∧ w'.heap[b5]? = some (.cells (mvV (mvK i 0 0)).cells 71 (0, 0))) ?_ fun k' hk' => ?_
  · rintro w' ⟨g1, g2⟩
    rw [r_add _ _ (by omega) (by omega)]
    exact ⟨⟨f + 1, by omega, by go_num, g1, g2⟩, by simp only [intOf]; omega⟩
  obtain ⟨vs, P, own, g1, g2, g3, g4⟩ := hq2.st
  cases hkk : keepsB l (mvK i e f) with
  | false =>
    rw [r_condF]
    exact hk' _ ⟨⟨hq2.k, vs, P, own, g1, g2.no hkk (by intro i' e' f'; unfold DoneF; omega), by omega, g4⟩, h52⟩
  | true =>
    rw [r_condT]
    refine r18_put g1 (block_below h8 k2) hi (by omega) (by omega) (by omega) (by have := hq2.k.size; omega) fun vs' w3 g1' c3 at3 => ?_
    have hb5 : b5 < w2.heap.size := block_lt h52
    refine hk' _ ⟨⟨Kp.of_chg hq2.k c3 fun q hq => ?_, vs', _, _, g1', g2.yes hi hA hD he hlt hkk (by intro i' e' f'; unfold DoneF; omega), by simp; omega, fun eb => ?_⟩, c3.at h52 fun eb => ?_⟩
    · rcases hq with rfl | hq
      · exact g1.hb
      · exact (g1.r.lt hq).1
    · rcases at3 _ eb with h | h
      · exact g4 h
      · omega
    · rcases eb with h | h
      · exact hn5 h
      · exact g4 h

set_option maxRecDepth 100000 in
theorem r18_1 {b5 i : Nat} {wr : World} {next : Value → World → Prop} (hf : FlAt w0 b l) (hA : A ≤ 6) (hD : D ≤ 6) (hi : i < 8) (hS : GSt l w0 wr bg A B D (DoneI i) (i * 36) b5) (h5 : wr.heap[b5]? = some (.cells (mvV (mvK i 0 0)).cells 71 (0, 0))) (hn5 : b5 ≠ bg)
    (hN : ∀ w', GSt l w0 w' bg A B D (DoneI (i + 1)) ((i + 1) * 36) b5 → next (.int .i64 ((i : Int) + 1)) w') :
    S18L1 (ptrV b) (ptrV b5) (ptrV bg) (.int .i64 i) (.int .i64 A) next wr := by
  unfold S18L1
  refine ⟨fun t23 wq => ∃ e : Nat, e ≤ A ∧ t23 = .int .i64 e ∧ GSt l w0 wq bg A B D (DoneE i e) (i * 36 + e * 6) b5 ∧ wq.heap[b5]? = some (.cells (mvV (mvK i 0 0)).cells 71 (0, 0)), fun t23 _ => A - (intOf t23).toNat, ⟨0, by omega, rfl, hS.to (by omega) (by intro i' e' f' _ _ _; unfold DoneI DoneE; omega), h5⟩, ?_⟩
  rintro _ _ wq ⟨e, heA, rfl, hq, hq5⟩
  by_cases hlt : e < A
  case neg =>
    have hlt' : ¬ (e : Int) < (A : Int) := by omega
    rw [r_lss, decide_eq_false hlt', r_condF, r_add _ _ (by omega) (by omega)]
    exact hN _ (hq.to (by omega) (by intro i' e' f' _ _ _; unfold DoneI DoneE; omega))
  have hlt' : (e : Int) < (A : Int) := by omega
  rw [r_lss, decide_eq_true hlt', r_condT]
  simp only [r_nc, r_fa, Nat.zero_add, r_ld hq.cells.2]
  refine r18_2 hf hA hD hi hlt hq hq5 hn5 fun w' g1 g2 => ?_
  exact ⟨⟨e + 1, by omega, by go_num, g1, g2⟩, by simp only [intOf]; omega⟩

set_option maxRecDepth 100000 in
theorem r18_0 {wr : World} {R : Ending → World → Prop} (hf : FlAt w0 b l) (hA : A ≤ 6) (hD : D ≤ 6) (hS : GSt l w0 wr bg A B D (DoneI 0) 0 0)
    (hR : ∀ vs P own w', GrAt w0.heap.size w' bg A B D vs P own → GInv l A D (DoneI 8) P own → P.length ≤ 288 → Kp w0 w' → R (.returned (ptrV bg)) w') :
    S18L0 (ptrV b) (ptrV bg) (.agg kindsV.toArray) R wr := by
  unfold S18L0
  refine ⟨fun t14 wq => ∃ i bs : Nat, i ≤ 8 ∧ t14 = .int .i64 i ∧ GSt l w0 wq bg A B D (DoneI i) (i * 36) bs, fun t14 _ => 8 - (intOf t14).toNat, ⟨0, 0, by omega, rfl, hS⟩, ?_⟩
  rintro _ _ wq ⟨i, bs, hi, rfl, hq⟩
  by_cases hlt : i < 8
  case neg =>
    have hlt' : ¬ (i : Int) < 8 := by omega
    rw [r_lss, decide_eq_false hlt', r_condF]
    obtain ⟨vs, P, own, g1, g2, g3, _⟩ := hq.st
    obtain rfl : i = 8 := by omega
    exact hR vs P own wq g1 g2 (by omega) hq.k
  have hlt' : (i : Int) < 8 := by omega
  rw [r_lss, decide_eq_true hlt', r_condT, kinds_at hlt]
  refine r_box fun b5 w1 e1 s1 h1 k1 => ?_
  refine st_mv h1 rfl fun w2 c2 s2 h2 => ?_
  have k02 : Kp wq w2 := Kp.of_chg k1 c2 fun q e => by omega
  have hq2 := hq.kp k02
  simp only [r_nc, r_fa, Nat.zero_add, r_ld hq2.cells.1]
  obtain ⟨vs, P, own, g1, g2, g3, _⟩ := hq.st
  have hlt5 := g1.c.lt
  refine r18_1 hf hA hD hlt ⟨hq2.k, vs, P, own, g1.kp k02, g2, g3, fun eb => by have := (g1.r.lt eb).2; omega⟩ h2 (by omega) fun w' g => ?_
  exact ⟨⟨i + 1, b5, by omega, by go_num, g⟩, by simp only [intOf]; omega⟩
end

def gr0 (A B D : Int) : Array Value := #[.int .i64 A, .int .i64 B, .int .i64 D, nilS] ++ Array.replicate 288 (.bool false)
theorem gr0_size (A B D : Int) : (gr0 A B D).size = 292 := by simp [gr0]
theorem gr0_at (A B D : Int) : (gr0 A B D)[0]? = some (.int .i64 A) ∧ (gr0 A B D)[1]? = some (.int .i64 B) ∧ (gr0 A B D)[2]? = some (.int .i64 D) ∧ (gr0 A B D)[3]? = some nilS ∧ ∀ j, j < 288 → (gr0 A B D)[4 + j]? = some (.bool false) := by
  unfold gr0
  refine ⟨?_, ?_, ?_, ?_, fun j hj => ?_⟩
  · rw [Array.getElem?_append_left (by simp)]; rfl
  · rw [Array.getElem?_append_left (by simp)]; rfl
  · rw [Array.getElem?_append_left (by simp)]; rfl
  · rw [Array.getElem?_append_left (by simp)]; rfl
  · rw [Array.getElem?_append_right (by simp)]
    simp [hj]
theorem r_box' {w : World} {KW : Value → World → Prop} {t : TypeId} {v : Value} {cs : Array Value} (hv : v.cells = cs) (h : ∀ (b : Nat) (w' : World), b = w.heap.size → w'.heap.size = b + 1 → w'.heap[b]? = some (.cells cs t (0, 0)) → Below w.heap.size w w' → KW (.pointer (some ⟨b, 0, none⟩)) w') : boxW t v w KW := by
  subst hv; exact r_box h

set_option maxRecDepth 100000 in
theorem group_calls {w : World} {b : Nat} {l : List ByteArray} (hk : Wk w) (hf : FlAt w b l) : Calls Tryz.prog 18 #[ptrV b] w fun e w' => ∃ A B D bg vs P own, LatOk (colP l) (patW l) l.length A B D ∧ e = .returned (ptrV bg) ∧ GrAt w.heap.size w' bg A B D vs P own ∧ GInv l A D (DoneI 8) P own ∧ P.length ≤ 288 ∧ Kp w w' := by
  have hl := hf.ok.len
  have hw := hf.ok.wid
  refine lift18 ?_
  unfold S18
  refine r_use fok17 (lattice_calls hf) rfl ?_
  rintro _ w1 ⟨A, B, D, hlat, rfl, k1⟩
  refine ⟨_, rfl, ?_⟩
  rw [bd69]
  refine r_box' (cs := gr0 A B D) rfl fun bg w2 e2 s2 h2 k2 => ?_
  have k02 := Kp.trans k1 k2
  rw [(hk.kp k02).ld]
  have hAw := hlat.aw
  have hDh := hlat.dh
  refine r18_0 (A := A) (B := B) (D := D) (hf := hf) (by omega) (by omega) ⟨k02, nilS, [], fun _ => false, ⟨⟨gr0 A B D, h2, gr0_size A B D, gr0_at A B D⟩, RecAt.nil, by have := k1.size; omega⟩, ⟨fun m => ?_, fun i e f _ _ _ => ?_⟩, by simp, fun h => by cases h⟩ fun vs P own w' g1 g2 g3 k' => ⟨A, B, D, bg, vs, P, own, hlat, rfl, g1, g2, g3, k'⟩
  · constructor
    · intro h; cases h
    · rintro ⟨i, e, h, h1, _⟩; exact absurd h1 (Nat.not_lt_zero _)
  · constructor
    · intro h; cases h
    · rintro ⟨h1, _⟩; exact absurd h1 (Nat.not_lt_zero _)

end Go.Proofs.YtfmppkplmfbjpaaGreatDoor
