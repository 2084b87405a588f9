/- Texts of my own, merged by program: Own Mem Sb. -/
import Derived.Test.YtaephdjmpmbfpaaM02
set_option linter.all false
/- Memory of one's own: slices that grow, rows of integers that are written. -/
namespace Go.Proofs.Ytaephdjmpmbfpaa
open Go.Lf Go.RowKit Go.Hp

/-- w' is w but for new blocks and for blocks of S. -/
structure Chg (S : Nat → Prop) (w w' : World) : Prop where
  os : w'.os = w.os
  tape : w'.tape = w.tape
  output : w'.output = w.output
  size : w.heap.size ≤ w'.heap.size
  block : ∀ k, k < w.heap.size → ¬ S k → w'.heap[k]? = w.heap[k]?

theorem Chg.refl (S : Nat → Prop) (w : World) : Chg S w w := ⟨rfl, rfl, rfl, Nat.le_refl _, fun _ _ _ => rfl⟩
theorem Chg.trans {S : Nat → Prop} {a b c : World} (h : Chg S a b) (k : Chg S b c) : Chg S a c :=
  ⟨k.os.trans h.os, k.tape.trans h.tape, k.output.trans h.output, Nat.le_trans h.size k.size, fun i hi hs => (k.block i (Nat.lt_of_lt_of_le hi h.size) hs).trans (h.block i hi hs)⟩
theorem Chg.mono {S S' : Nat → Prop} {a b : World} (h : Chg S a b) (hs : ∀ k, k < a.heap.size → S k → S' k) : Chg S' a b :=
  ⟨h.os, h.tape, h.output, h.size, fun i hi hn => h.block i hi fun hS => hn (hs i hi hS)⟩
theorem Chg.of_kp {S : Nat → Prop} {a b : World} (h : Kp a b) : Chg S a b := ⟨h.os, h.tape, h.output, h.size, fun i hi _ => h.block i hi⟩
theorem Chg.below {S : Nat → Prop} {B : Nat} {a b : World} (h : Chg S a b) (hB : B ≤ a.heap.size) (hs : ∀ k, S k → B ≤ k) : Below B a b :=
  ⟨h.os, h.tape, h.output, h.size, fun i hi => h.block i (by omega) fun hS => by have := hs i hS; omega⟩
theorem Chg.of_below {S : Nat → Prop} {B : Nat} {a b : World} (h : Below B a b) (hs : ∀ k, k < a.heap.size → B ≤ k → S k) : Chg S a b :=
  ⟨h.os, h.tape, h.output, h.size, fun i hi hn => h.block i (Nat.lt_of_not_le fun hle => hn (hs i hi hle))⟩
theorem Chg.of_grown {S : Nat → Prop} {a b : World} {row : Option Nat} (h : a.grownBy b row) (hs : ∀ k, row = some k → S k) : Chg S a b :=
  ⟨h.os, h.tape, h.output, h.size, fun i hi hn => h.block i hi fun e => hn (hs i e.symm)⟩
theorem Chg.cell {S : Nat → Prop} {a b : World} (h : Chg S a b) {p : Addr} {x : Value} (hc : a.cell? p = some x) (hn : ¬ S p.block) : b.cell? p = some x :=
  (World.cell?_of_block (h.block p.block (World.block_lt_of_cell? a p hc) hn)).trans hc
theorem Chg.at {S : Nat → Prop} {a b : World} (h : Chg S a b) {k : Nat} {o : Obj} (hk : a.heap[k]? = some o) (hn : ¬ S k) : b.heap[k]? = some o := (h.block k (block_lt hk) hn).trans hk
theorem Chg.setCell {S : Nat → Prop} (w : World) {p : Addr} (v : Value) (h : S p.block) : Chg S w (w.setCell p v) :=
  ⟨rfl, rfl, rfl, by simp [World.setCell], fun i _ hn => Below.heap_setCell _ _ _ _ (fun e => hn (by rw [e]; exact h))⟩
theorem Kp.of_chg {S : Nat → Prop} {a b c : World} (h : Kp a b) (k : Chg S b c) (hs : ∀ i, S i → a.heap.size ≤ i) : Kp a c :=
  Below.trans h (k.below h.size hs)

/-- A type of slices: what the program's table says of it. -/
structure SlT (t e : TypeId) (size bytes : Nat) : Prop where
  und : Try.prog.underlying t = some (.slice e)
  info : ∃ i z, Try.prog.info? e = some i ∧ i.zero = some z ∧ i.size = size ∧ i.bytes = bytes ∧ z.cells.size = size
  pos : 0 < size

theorem SlT.mk' {t e : TypeId} {size bytes : Nat} {z : Value} (h1 : Try.prog.underlying t = some (.slice e)) (h2 : (Try.prog.info? e).map (fun i => (i.zero, i.size, i.bytes)) = some (some z, size, bytes)) (h3 : z.cells.size = size) (h4 : 0 < size) : SlT t e size bytes := by
  obtain ⟨i, a, b, c, d⟩ := info_parts h2
  exact ⟨h1, ⟨i, z, a, b, c, d, h3⟩, h4⟩

set_option maxRecDepth 100000 in
/-- append(v, xs...) where v is one's own. -/
theorem r_ap {t e ty : TypeId} {size bytes base n m c : Nat} {v : Value} {xs news : List Value} {a : Addr} {w : World} {K : Value → World → Prop} (T : SlT t e size bytes)
    (hown : w.ownsRow base e size v n xs) (hl : news.length = m * size) (hnews : ∀ j u, news[j]? = some u → w.cell? (a.add j) = some u) (h1 : ∀ u ∈ news, u.oneCell' = true)
    (hn : n + m ≤ 1099511627776) (hby : bytes ≤ 128) (hb : base ≤ w.heap.size)
    (hk : ∀ v' w', w'.ownsRow base e size v' (n + m) (xs ++ news) → w.grownBy w' v.ownBlock → (v' = .slice none 0 0 ↔ v = .slice none 0 0 ∧ m = 0) → K v' w') : semW Try.prog (apS [t, t] ty [v, .slice (some a) m c]) w K := by
  obtain ⟨i, z, i1, i2, i3, i4, i5⟩ := T.info
  have hb2 : (n + m) * bytes ≤ 140737488355328 := by
    have h := Nat.mul_le_mul hn hby
    exact Nat.le_trans h (by decide)
  obtain ⟨v', w', hr, h2, h3, h4⟩ := run_append_own (P := Try.prog) w base t ty e i z size bytes T.und i1 i2 i3 i4 i5 T.pos v n xs hown a m c news hl hnews h1 (by unfold maxLen; omega) hb2 hb
  exact semW_of_run (by simp [apS, hr]) (hk v' w' h2 h3 h4)

set_option maxRecDepth 100000 in
/-- append(v, xs...), xs of no element, at whatever address or nil. -/
theorem r_ap0 {t e ty : TypeId} {size bytes base n c : Nat} {v : Value} {xs : List Value} {a : Option Addr} {w : World} {K : Value → World → Prop} (T : SlT t e size bytes)
    (hown : w.ownsRow base e size v n xs) (hk : K v w) : semW Try.prog (apS [t, t] ty [v, .slice a 0 c]) w K := by
  obtain ⟨i, z, i1, i2, i3, i4, i5⟩ := T.info
  refine semW_of_run (v := v) (w' := w) ?_ hk
  have hs : (sizeOf e).run Try.prog w = .ok size w := by simp [sizeOf, typeInfo, i1, i3]
  rcases hown.2 with ⟨rfl, rfl⟩ | ⟨g, cap, cur, rfl, _, _, hle, _⟩
  · cases a <;> simp [apS, Builtin.append_, run_underlying' T.und, hs, Builtin.lenOf, Builtin.firstCells, loadCells, loadCellsFrom]
  · cases a <;> simp [apS, Builtin.append_, run_underlying' T.und, hs, Builtin.lenOf, Builtin.firstCells, loadCells, loadCellsFrom, hle, storeCells]

theorem cells_at_row {w : World} {b : Nat} {cs : Array Value} {t : TypeId} {fr : Nat × Nat} (h : w.heap[b]? = some (.cells cs t fr)) : ∀ j u, cs.toList[j]? = some u → w.cell? ((⟨b, 0, none⟩ : Addr).add j) = some u := by
  intro j u hj
  rw [r_addr, cell_row h]
  simpa using hj

set_option maxRecDepth 100000 in
/-- append(v, x): the element in a block of its own first. -/
theorem r_push {t e ty : TypeId} {size bytes base n : Nat} {v x : Value} {xs : List Value} {w : World} {K : Value → World → Prop} (T : SlT t e size bytes)
    (hbs : ∀ K : Value → World → Prop, bsW Try.prog t 1 [(0, x)] w K = K (.slice (some ⟨w.heap.size, 0, none⟩) 1 1) (w.alloc (.cells x.cells e)))
    (hx : x.cells.size = size) (h1 : ∀ u ∈ x.cells.toList, u.oneCell' = true) (hown : w.ownsRow base e size v n xs) (hn : n + 1 ≤ 1099511627776) (hby : bytes ≤ 128) (hb : base ≤ w.heap.size)
    (hk : ∀ v' w', w'.ownsRow base e size v' (n + 1) (xs ++ x.cells.toList) → w.grownBy w' v.ownBlock → K v' w') :
    bsW Try.prog t 1 [(0, x)] w fun s w => semW Try.prog (apS [t, t] ty [v, s]) w K := by
  rw [hbs]
  refine r_ap T (hown.alloc _) (by simp [hx]) (cells_at_row (heap_alloc_new w _)) h1 hn hby (by show base ≤ (w.heap.push _).size; simp; omega) fun v' w' ho hg _ => hk v' w' ho ?_
  exact ⟨hg.os, hg.tape, hg.output, Nat.le_trans (by show _ ≤ (w.heap.push _).size; simp) hg.size, fun k hlt hne => (hg.block k (by show k < (w.heap.push _).size; simp; omega) hne).trans (Below.heap_alloc w _ k hlt)⟩

/-- What is owned stays so while other blocks turn. -/
theorem owns_chg {S : Nat → Prop} {w w' : World} {base n size : Nat} {e : TypeId} {v : Value} {xs : List Value} (h : w.ownsRow base e size v n xs) (hc : Chg S w w') (hs : ∀ k, v.ownBlock = some k → ¬ S k) : w'.ownsRow base e size v n xs := by
  refine ⟨h.1, ?_⟩
  rcases h.2 with h2 | ⟨g, cap, cur, rfl, hb, hg, r⟩
  · exact .inl h2
  · exact .inr ⟨g, cap, cur, rfl, hb, hc.at hg (hs g rfl), r⟩
theorem owns_kp {w w' : World} {base n size : Nat} {e : TypeId} {v : Value} {xs : List Value} (h : w.ownsRow base e size v n xs) (hk : Kp w w') : w'.ownsRow base e size v n xs :=
  owns_chg (S := fun _ => False) h (Chg.of_kp hk) fun _ _ h => h

theorem slt36 : SlT 36 3 1 8 := SlT.mk' (z := .int .i64 0) (by kernel_rfl) (by kernel_rfl) rfl (by decide)
theorem slt26 : SlT 26 36 1 24 := SlT.mk' (z := .slice none 0 0) (by kernel_rfl) (by kernel_rfl) rfl (by decide)
theorem bs26 (a : Option Addr) (n c : Nat) (w : World) (K : Value → World → Prop) : bsW Try.prog 26 1 [(0, .slice a n c)] w K = K (.slice (some ⟨w.heap.size, 0, none⟩) 1 1) (w.alloc (.cells #[.slice a n c] 36)) := by kernel_rfl
theorem bs36 (k : IntKind) (x : Int) (w : World) (K : Value → World → Prop) : bsW Try.prog 36 1 [(0, .int k x)] w K = K (.slice (some ⟨w.heap.size, 0, none⟩) 1 1) (w.alloc (.cells #[.int k x] 3)) := by kernel_rfl

theorem mkCells_one (z : Value) (n : Nat) : mkCells #[z] n = Array.replicate n z := by
  apply Array.ext
  · simp [mkCells]
  · intro i h1 h2
    simp [mkCells, Nat.mod_one]

/-- make([]int, n) -/
theorem mk36 {n : Nat} {w : World} {K : Value → World → Prop} (hn : n ≤ 1099511627776) (h : K (.slice (some ⟨w.heap.size, 0, none⟩) n n) (w.alloc (.cells (Array.replicate n (.int .i64 0)) 3))) :
    mkW Try.prog 36 (.int .i64 n) (.int .i64 n) w K := by
  have e : ∀ (l : Int) (K : Value → World → Prop), mkW Try.prog 36 (.int .i64 l) (.int .i64 l) w K = (0 ≤ l ∧ l ≤ l ∧ l ≤ 4611686018427387904 ∧ ((8 : Nat) : Int) * l ≤ 281474976710656 ∧ 0 < 1 ∧
      K (.slice (some ⟨w.heap.size, 0, none⟩) l.toNat l.toNat) (w.alloc (.cells (mkCells #[.int .i64 0] (l.toNat * 1)) 3))) := fun l K => by kernel_rfl
  rw [e]
  refine ⟨by omega, by omega, by omega, by omega, by omega, ?_⟩
  rw [Nat.mul_one, mkCells_one, Int.toNat_natCast]
  exact h

/-- The outer slice v and its rows, each in a block of its own. -/
structure OwnRows (w : World) (v : Value) (g : Nat) (bs : Nat → Nat) (h : List (List Int)) : Prop where
  outer : ∃ cap cur, v = .slice (some ⟨g, 0, none⟩) h.length cap ∧ w.heap[g]? = some (.cells cur 36 (0, 0)) ∧ ∀ i, i < h.length → ∃ c, cur[i]? = some (.slice (some ⟨bs i, 0, none⟩) (h.getD i []).length c)
  rows : ∀ i, i < h.length → ∃ cur, w.heap[bs i]? = some (.cells cur 3 (0, 0)) ∧ ∀ j, j < (h.getD i []).length → cur[j]? = some (.int .i64 ((h.getD i []).getD j 0))
  apart : ∀ i k, i < h.length → k < h.length → i ≠ k → bs i ≠ bs k
  out : ∀ i, i < h.length → bs i ≠ g
  small : h.length ≤ 17592186044416 ∧ ∀ i, i < h.length → (h.getD i []).length ≤ 17592186044416

theorem OwnRows.rd {w : World} {v : Value} {g : Nat} {bs : Nat → Nat} {h : List (List Int)} (o : OwnRows w v g bs h) : RdRows w v h := by
  obtain ⟨cap, cur, rfl, hg, hc⟩ := o.outer
  refine ⟨_, cap, fun i => cur.getD i undef, rfl, o.small.1, fun _ => ⟨g, 0, rfl, fun i hi => ?_⟩, fun i hi => ?_⟩
  · obtain ⟨c, hci⟩ := hc i hi
    rw [Nat.zero_add, cell_row hg, hci]
    simp [hci]
  · obtain ⟨c, hci⟩ := hc i hi
    have : cur.getD i undef = .slice (some ⟨bs i, 0, none⟩) (h.getD i []).length c := by simp [hci]
    show RdInts w (cur.getD i undef) _
    rw [this]
    obtain ⟨rc, h1, h2⟩ := o.rows i hi
    refine ⟨_, c, rfl, o.small.2 i hi, fun _ => ⟨bs i, 0, rfl, fun j hj => ?_⟩⟩
    rw [Nat.zero_add, cell_row h1, h2 j hj]

theorem OwnRows.chg {S : Nat → Prop} {w w' : World} {v : Value} {g : Nat} {bs : Nat → Nat} {h : List (List Int)} (o : OwnRows w v g bs h) (hc : Chg S w w') (hg : ¬ S g) (hb : ∀ i, i < h.length → ¬ S (bs i)) : OwnRows w' v g bs h := by
  refine ⟨?_, fun i hi => ?_, o.apart, o.out, o.small⟩
  · obtain ⟨cap, cur, h1, h2, h3⟩ := o.outer
    exact ⟨cap, cur, h1, hc.at h2 hg, h3⟩
  · obtain ⟨cur, h1, h2⟩ := o.rows i hi
    exact ⟨cur, hc.at h1 (hb i hi), h2⟩
theorem OwnRows.kp {w w' : World} {v : Value} {g : Nat} {bs : Nat → Nat} {h : List (List Int)} (o : OwnRows w v g bs h) (hc : Kp w w') : OwnRows w' v g bs h :=
  o.chg (S := fun _ => False) (Chg.of_kp hc) (fun h => h) fun _ _ h => h

theorem OwnRows.set {w : World} {v : Value} {g : Nat} {bs : Nat → Nat} {h : List (List Int)} (o : OwnRows w v g bs h) {i j : Nat} (hi : i < h.length) (hj : j < (h.getD i []).length) (x : Int) :
    OwnRows (w.setCell ⟨bs i, j, none⟩ (.int .i64 x)) v g bs (put2 h i j x) := by
  have hl := put2_length h i j x
  have hc : Chg (fun k => k = bs i) w (w.setCell ⟨bs i, j, none⟩ (.int .i64 x)) := Chg.setCell w _ rfl
  refine ⟨?_, fun k hk => ?_, fun a b ha hb => o.apart a b (by omega) (by omega), fun a ha => o.out a (by omega), by rw [hl]; exact o.small.1, fun a ha => by rw [put2_len _ _ _ _ _ hi]; exact o.small.2 a (by omega)⟩
  · obtain ⟨cap, cur, h1, h2, h3⟩ := o.outer
    refine ⟨cap, cur, by rw [hl]; exact h1, hc.at h2 (fun e => o.out i hi e.symm), fun k hk => ?_⟩
    rw [put2_len _ _ _ _ _ hi]
    exact h3 k (by omega)
  · obtain ⟨cur, h1, h2⟩ := o.rows k (by omega)
    by_cases hki : k = i
    · subst hki
      refine ⟨cur.setIfInBounds j (.int .i64 x), setCell_block h1 rfl, fun m hm => ?_⟩
      rw [put2_len _ _ _ _ _ hi] at hm
      rw [put2_row h k j k x hi, if_pos rfl]
      have hjs : j < cur.size := (Array.getElem?_eq_some_iff.1 (h2 j hj)).1
      by_cases hmj : m = j
      · subst hmj
        rw [Array.getElem?_setIfInBounds_self_of_lt hjs, List.getD_eq_getElem?_getD, List.getElem?_set_self hj]
        rfl
      · rw [Array.getElem?_setIfInBounds_ne (Ne.symm hmj), h2 m hm]
        simp [List.getElem?_set_ne (Ne.symm hmj)]
    · refine ⟨cur, hc.at h1 (o.apart k i (by omega) hi hki), fun m hm => ?_⟩
      rw [put2_len _ _ _ _ _ hi] at hm
      rw [put2_row h i j k x hi, if_neg hki]
      exact h2 m hm

/-- What a store into a row meets. -/
theorem OwnRows.slot {w : World} {v : Value} {g : Nat} {bs : Nat → Nat} {h : List (List Int)} (o : OwnRows w v g bs h) {i : Nat} (hi : i < h.length) :
    ∃ cap c, v = .slice (some ⟨g, 0, none⟩) h.length cap ∧ w.cell? ⟨g, i, none⟩ = some (.slice (some ⟨bs i, 0, none⟩) (h.getD i []).length c) ∧
      ∀ j, j < (h.getD i []).length → w.cell? ⟨bs i, j, none⟩ = some (.int .i64 ((h.getD i []).getD j 0)) ∧ w.frozen? ⟨bs i, j, none⟩ = false := by
  obtain ⟨cap, cur, rfl, h2, h3⟩ := o.outer
  obtain ⟨c, hc⟩ := h3 i hi
  obtain ⟨rc, hr, hrc⟩ := o.rows i hi
  refine ⟨cap, c, rfl, by rw [cell_row h2, hc], fun j hj => ⟨by rw [cell_row hr, hrc j hj], frozen_row hr⟩⟩

/-- A store of one integer. -/
theorem st3 {w : World} {a : Addr} {n : Int} {v : Value} {K : World → Prop} (hc : w.cell? a = some v) (hf : w.frozen? a = false) : stW Try.prog 3 (.pointer (some a)) (.int .i64 n) w K = K (w.setCell a (.int .i64 n)) := by
  have e : stW Try.prog 3 (.pointer (some a)) (.int .i64 n) w K = ((w.cell? (a.add 0)).isSome = true ∧ w.frozen? (a.add 0) = false ∧ true = true ∧ K (w.setCell (a.add 0) (.int .i64 n))) := by kernel_rfl
  rw [e]
  have ha : a.add 0 = a := rfl
  simp [ha, hc, hf]

end Go.Proofs.Ytaephdjmpmbfpaa

/- More rules on memory: whole blocks and parts of blocks that are stored and read. -/
namespace Go.Proofs.Ytaephdjmpmbfpaa
open Go.Lf Go.RowKit Go.Hp

theorem agg_cells (cs : Array Value) : Value.agg (Value.agg cs).cells = .agg cs := rfl

theorem setCell_size (w : World) (p : Addr) (v : Value) : (w.setCell p v).heap.size = w.heap.size := by simp [World.setCell]

/-- Cells stored one after another into a block. -/
theorem stCells_at {b o : Nat} {ty : TypeId} : ∀ (vs : List Value) (i : Nat) (w : World) (cs : Array Value) (K : World → Prop), w.heap[b]? = some (.cells cs ty (0, 0)) → o + i + vs.length ≤ cs.size → (∀ u ∈ vs, u.oneCell' = true) →
    (∀ w', Chg (fun k => k = b) w w' → w'.heap.size = w.heap.size → w'.heap[b]? = some (.cells (cs.toList.take (o + i) ++ vs ++ cs.toList.drop (o + i + vs.length)).toArray ty (0, 0)) → K w') → stCells ⟨b, o, none⟩ vs i w K
  | [], i, w, cs, K, hb, _, _, hk => hk w (Chg.refl _ _) rfl (by simpa using hb)
  | v :: vs, i, w, cs, K, hb, hn, h1, hk => by
    simp only [List.length_cons] at hn
    have hlt : o + i < cs.size := by omega
    have ha : (⟨b, o, none⟩ : Addr).add i = ⟨b, o + i, none⟩ := r_addr b o i
    simp only [stCells, ha]
    refine ⟨by rw [cell_row hb]; simp [hlt], frozen_row hb, h1 v (by simp), ?_⟩
    have hb' := setCell_block (o := o + i) (v := v) hb rfl
    refine stCells_at vs (i + 1) _ _ K hb' (by simp; omega) (fun u hu => h1 u (by simp [hu])) fun w' hch hsz hbw => hk w' ((Chg.setCell (S := fun k => k = b) w v rfl).trans hch) (hsz.trans (setCell_size _ _ _)) ?_
    rw [hbw]
    congr 3
    have e1 : (cs.setIfInBounds (o + i) v).toList = cs.toList.set (o + i) v := by simp
    rw [e1, show o + (i + 1) = o + i + 1 by omega]
    have hl : o + i < cs.toList.length := by simpa using hlt
    rw [List.take_succ_eq_append_getElem (by simpa using hl), List.getElem_set_self, List.take_set_of_le (Nat.le_refl _), List.drop_set_of_lt (by omega)]
    simp [Nat.add_assoc, Nat.add_comm 1]

theorem stW_eq {t : TypeId} {n : Nat} {v : Value} {a : Addr} {w : World} {K : World → Prop} (ht : (Try.prog.info? t).map (·.size) = some n) (hv : v.cells.size = n) : stW Try.prog t (.pointer (some a)) v w K = stCells a v.cells.toList 0 w K := by
  cases hi : Try.prog.info? t with
  | none => simp [hi] at ht
  | some i =>
    simp [hi] at ht
    simp [stW, hi, hv, ht]

/-- A store of a whole block. -/
theorem r_stAll {t ty : TypeId} {n b : Nat} {v : Value} {cs : Array Value} {w : World} {K : World → Prop} (ht : (Try.prog.info? t).map (·.size) = some n) (hv : v.cells.size = n) (h1 : ∀ u ∈ v.cells.toList, u.oneCell' = true)
    (hb : w.heap[b]? = some (.cells cs ty (0, 0))) (hn : cs.size = n)
    (hk : ∀ w', Chg (fun k => k = b) w w' → w'.heap.size = w.heap.size → w'.heap[b]? = some (.cells v.cells ty (0, 0)) → K w') : stW Try.prog t (.pointer (some ⟨b, 0, none⟩)) v w K := by
  rw [stW_eq ht hv]
  refine stCells_at _ 0 w cs K hb (by simp; omega) h1 fun w' h2 h3 h4 => hk w' h2 h3 ?_
  have e : v.cells.size ≤ cs.size := by omega
  simpa [List.drop_eq_nil_of_le, hn, hv] using h4

/-- A store of some of a block's cells. -/
theorem r_stAt {t ty : TypeId} {n b o : Nat} {v : Value} {cs : Array Value} {w : World} {K : World → Prop} (ht : (Try.prog.info? t).map (·.size) = some n) (hv : v.cells.size = n) (h1 : ∀ u ∈ v.cells.toList, u.oneCell' = true)
    (hb : w.heap[b]? = some (.cells cs ty (0, 0))) (hn : o + n ≤ cs.size)
    (hk : ∀ w', Chg (fun k => k = b) w w' → w'.heap.size = w.heap.size → w'.heap[b]? = some (.cells (cs.toList.take o ++ v.cells.toList ++ cs.toList.drop (o + n)).toArray ty (0, 0)) → K w') : stW Try.prog t (.pointer (some ⟨b, o, none⟩)) v w K := by
  rw [stW_eq ht hv]
  refine stCells_at _ 0 w cs K hb (by simp; omega) h1 fun w' h2 h3 h4 => hk w' h2 h3 ?_
  simpa [hv] using h4

theorem r_ldAt {w : World} {K : Value → Prop} {b o n : Nat} {cs : Array Value} {t : TypeId} {fr : Nat × Nat} {l : List Value} (h : w.heap[b]? = some (.cells cs t fr)) (hn : o + n ≤ cs.size) (hl : (cs.toList.drop o).take n = l) : ldN n w (.pointer (some ⟨b, o, none⟩)) K = K (.agg l.toArray) := by
  have := cellsAt_row h n o 0 (by omega)
  simp only [ldN, this, Nat.add_zero, hl]

/-- A row of integers as cells. -/
def intCells (r : List Int) : List Value := r.map (.int .i64)
theorem intCells_length (r : List Int) : (intCells r).length = r.length := by simp [intCells]
theorem intCells_one {r : List Int} : ∀ u ∈ intCells r, u.oneCell' = true := by
  intro u hu
  simp only [intCells, List.mem_map] at hu
  obtain ⟨_, _, rfl⟩ := hu
  rfl
/-- A row as a value. -/
abbrev rowV (r : List Int) : Value := .agg (intCells r).toArray
theorem rowV_size (r : List Int) : (rowV r).cells.size = r.length := by simp [Value.cells, intCells]
theorem rowV_one (r : List Int) : ∀ u ∈ (rowV r).cells.toList, u.oneCell' = true := by
  intro u hu
  exact intCells_one u (by simpa [Value.cells] using hu)
theorem row_cell {w : World} {b j : Nat} {t : TypeId} {r : List Int} (h : w.heap[b]? = some (.cells (intCells r).toArray t (0, 0))) (hj : j < r.length) : w.cell? ⟨b, j, none⟩ = some (.int .i64 (r.getD j 0)) := by
  rw [cell_row h]
  simp [intCells, hj]
theorem row_set {w w' : World} {b j : Nat} {t : TypeId} {r : List Int} {x : Int} (h : w.heap[b]? = some (.cells (intCells r).toArray t (0, 0))) (e : w' = w.setCell ⟨b, j, none⟩ (.int .i64 x)) : w'.heap[b]? = some (.cells (intCells (r.set j x)).toArray t (0, 0)) := by
  rw [setCell_block h e]
  simp [intCells, List.map_set]

end Go.Proofs.Ytaephdjmpmbfpaa

/- Lifted texts, printed by program (gen.py): what each function's code asks. The ties are by the kernel. -/
namespace Go.Proofs.Ytaephdjmpmbfpaa
open Go.Lf Go.RowKit

def S93 (t0 : Value) (w : World) (R : Ending → World → Prop) : Prop :=
  binQ Try.prog w .neq 3 false t0 t0 fun t5 =>
  R (.returned t5) w

def A93 : Ann where
  live := fun _ => []
  wr := fun _ _ => false
  sched := fun _ => .done

set_option maxRecDepth 100000 in
theorem ok93 : (codeOk Try.f93.ntmps A93 (Try.f93.body.getD .skip) 0 && Nat.ble 1 Try.f93.ntmps) = true := by kernel_rfl
set_option maxRecDepth 100000 in
theorem lift93 {t0 : Value} {w : World} {R : Ending → World → Prop} (h : S93 t0 w R) : Calls Try.prog 93 #[t0] w R :=
  calls_of_cw (fn := Try.f93) (c := Try.f93.body.getD .skip) A93 mixes Try.func93 (by kernel_rfl) ok93
    ((by kernel_rfl : (S93 t0 w R) = cw Try.prog A93 (Try.f93.body.getD .skip) 0 (bodyQ Try.prog Try.f93 R) (frOf #[t0]) w).mp h)

def S81 (t0 t1 : Value) (w : World) (R : Ending → World → Prop) : Prop :=
  callW Try.prog (.func (.func 93) #[] #[]) [t0] w fun t8 w =>
  callW Try.prog (.func (.func 93) #[] #[]) [t1] w fun t10 w =>
  condW t8 (
    condW t10 (
      R (.returned (.int .i64 0)) w
    ) (
      R (.returned (.int .i64 (-1))) w
    )
  ) (
    condW t10 (
      R (.returned (.int .i64 1)) w
    ) (
      binQ Try.prog w .lss 3 false t0 t1 fun t16 =>
      condW t16 (
        R (.returned (.int .i64 (-1))) w
      ) (
        binQ Try.prog w .gtr 3 false t0 t1 fun t19 =>
        condW t19 (
          R (.returned (.int .i64 1)) w
        ) (
          R (.returned (.int .i64 0)) w
        )
      )
    )
  )

def A81 : Ann where
  live := fun _ => []
  wr := fun _ _ => false
  sched := fun _ => .done

set_option maxRecDepth 100000 in
theorem ok81 : (codeOk Try.f81.ntmps A81 (Try.f81.body.getD .skip) 0 && Nat.ble 2 Try.f81.ntmps) = true := by kernel_rfl
set_option maxRecDepth 100000 in
theorem lift81 {t0 t1 : Value} {w : World} {R : Ending → World → Prop} (h : S81 t0 t1 w R) : Calls Try.prog 81 #[t0, t1] w R :=
  calls_of_cw (fn := Try.f81) (c := Try.f81.body.getD .skip) A81 mixes Try.func81 (by kernel_rfl) ok81
    ((by kernel_rfl : (S81 t0 t1 w R) = cw Try.prog A81 (Try.f81.body.getD .skip) 0 (bodyQ Try.prog Try.f81 R) (frOf #[t0, t1]) w).mp h)

def S56 (t0 t1 : Value) (w : World) (R : Ending → World → Prop) : Prop :=
  ln1 t0 fun t10 =>
  Loop1 (.int .i64 0) w fun _ t11 w next =>
    binQ Try.prog w .lss 3 false t11 t10 fun t12 =>
    condW t12 (
      iaS 1 t0 t11 fun t14 =>
      ld1 w t14 fun t15 =>
      ln1 t1 fun t18 =>
      binQ Try.prog w .geq 3 false t11 t18 fun t19 =>
      condW t19 (
        R (.returned (.int .i64 1)) w
      ) (
        iaS 1 t1 t11 fun t22 =>
        ld1 w t22 fun t23 =>
        callW Try.prog (.func (.func 81) #[] #[]) [t15, t23] w fun t26 w =>
        binQ Try.prog w .neq 3 true t26 (.int .i64 0) fun t28 =>
        condW t28 (
          R (.returned t26) w
        ) (
          binQ Try.prog w .add 3 true t11 (.int .i64 1) fun t30 =>
          next t30 w
        )
      )
    ) (
      ln1 t0 fun t32 =>
      ln1 t1 fun t34 =>
      binQ Try.prog w .lss 3 false t32 t34 fun t35 =>
      condW t35 (
        R (.returned (.int .i64 (-1))) w
      ) (
        R (.returned (.int .i64 0)) w
      )
    )

def A56 : Ann where
  live := fun
    | 0 => [11]
    | _ => []
  wr := fun
    | 0 => fun i => (Nat.ble 4 i && Nat.ble i 8) || (Nat.ble 11 i && Nat.ble i 30)
    | _ => fun _ => false
  sched := fun _ => .done

set_option maxRecDepth 100000 in
theorem ok56 : (codeOk Try.f56.ntmps A56 (Try.f56.body.getD .skip) 0 && Nat.ble 2 Try.f56.ntmps) = true := by kernel_rfl
set_option maxRecDepth 100000 in
theorem lift56 {t0 t1 : Value} {w : World} {R : Ending → World → Prop} (h : S56 t0 t1 w R) : Calls Try.prog 56 #[t0, t1] w R :=
  calls_of_cw (fn := Try.f56) (c := Try.f56.body.getD .skip) A56 mixes Try.func56 (by kernel_rfl) ok56
    ((by kernel_rfl : (S56 t0 t1 w R) = cw Try.prog A56 (Try.f56.body.getD .skip) 0 (bodyQ Try.prog Try.f56 R) (frOf #[t0, t1]) w).mp h)

def S52 (t0 : Value) (w : World) (R : Ending → World → Prop) : Prop :=
  boxW 25 t0 w fun t1 w =>
  boxW 77 (.agg #[(.int .i64 0), (.int .i64 0), (.int .i64 0), (.map none)]) w fun t2 w =>
  ldN 3 w t1 fun t3 =>
  mmW w fun t4 w =>
  bdQ Try.prog 77 [(0, t3), (1, t4)] fun t5 =>
  stW Try.prog 77 t2 t5 w fun w =>
  ldN 4 w t2 fun r =>
  R (.returned r) w

def A52 : Ann where
  live := fun _ => []
  wr := fun _ _ => false
  sched := fun _ => .done

set_option maxRecDepth 100000 in
theorem ok52 : (codeOk Try.f52.ntmps A52 (Try.f52.body.getD .skip) 0 && Nat.ble 1 Try.f52.ntmps) = true := by kernel_rfl
set_option maxRecDepth 100000 in
theorem lift52 {t0 : Value} {w : World} {R : Ending → World → Prop} (h : S52 t0 w R) : Calls Try.prog 52 #[t0] w R :=
  calls_of_cw (fn := Try.f52) (c := Try.f52.body.getD .skip) A52 mixes Try.func52 (by kernel_rfl) ok52
    ((by kernel_rfl : (S52 t0 w R) = cw Try.prog A52 (Try.f52.body.getD .skip) 0 (bodyQ Try.prog Try.f52 R) (frOf #[t0]) w).mp h)

def S53 (t0 : Value) (w : World) (R : Ending → World → Prop) : Prop :=
  boxW 25 t0 w fun t1 w =>
  boxW 80 (.agg #[(.int .i64 0), (.int .i64 0), (.int .i64 0), (.int .i64 0)]) w fun t2 w =>
  boxW 80 (.agg #[(.int .i64 0), (.int .i64 0), (.int .i64 0), (.int .i64 0)]) w fun t3 w =>
  fa1 t1 1 fun t5 =>
  ld1 w t5 fun t6 =>
  Loop1 (.int .i64 0) w fun _ t7 w next =>
    binQ Try.prog w .lss 3 false t7 t6 fun t8 =>
    condW t8 (
      fa1 t1 2 fun t11 =>
      ld1 w t11 fun t12 =>
      iaA 4 1 t3 t7 fun t13 =>
      stW Try.prog 3 t13 t12 w fun w =>
      binQ Try.prog w .add 3 true t7 (.int .i64 1) fun t14 =>
      next t14 w
    ) (
      ldN 4 w t3 fun t15 =>
      stW Try.prog 80 t2 t15 w fun w =>
      ldN 4 w t2 fun r =>
      R (.returned r) w
    )

def A53 : Ann where
  live := fun
    | 0 => [7]
    | _ => []
  wr := fun
    | 0 => fun i => Nat.beq i 4 || (Nat.ble 7 i && Nat.ble i 14)
    | _ => fun _ => false
  sched := fun _ => .done

set_option maxRecDepth 100000 in
theorem ok53 : (codeOk Try.f53.ntmps A53 (Try.f53.body.getD .skip) 0 && Nat.ble 1 Try.f53.ntmps) = true := by kernel_rfl
set_option maxRecDepth 100000 in
theorem lift53 {t0 : Value} {w : World} {R : Ending → World → Prop} (h : S53 t0 w R) : Calls Try.prog 53 #[t0] w R :=
  calls_of_cw (fn := Try.f53) (c := Try.f53.body.getD .skip) A53 mixes Try.func53 (by kernel_rfl) ok53
    ((by kernel_rfl : (S53 t0 w R) = cw Try.prog A53 (Try.f53.body.getD .skip) 0 (bodyQ Try.prog Try.f53 R) (frOf #[t0]) w).mp h)

def S54 (t0 : Value) (w : World) (R : Ending → World → Prop) : Prop :=
  boxW 80 (.agg #[(.int .i64 0), (.int .i64 0), (.int .i64 0), (.int .i64 0)]) w fun t2 w =>
  boxW 80 (.agg #[(.int .i64 0), (.int .i64 0), (.int .i64 0), (.int .i64 0)]) w fun t3 w =>
  slA 4 1 t3 none none fun t4 =>
  semW Try.prog (cpS [36, 36] 3 [t4, t0]) w fun t6 w =>
  ldN 4 w t3 fun t7 =>
  stW Try.prog 80 t2 t7 w fun w =>
  ldN 4 w t2 fun r =>
  R (.returned r) w

def A54 : Ann where
  live := fun _ => []
  wr := fun _ _ => false
  sched := fun _ => .done

set_option maxRecDepth 100000 in
theorem ok54 : (codeOk Try.f54.ntmps A54 (Try.f54.body.getD .skip) 0 && Nat.ble 1 Try.f54.ntmps) = true := by kernel_rfl
set_option maxRecDepth 100000 in
theorem lift54 {t0 : Value} {w : World} {R : Ending → World → Prop} (h : S54 t0 w R) : Calls Try.prog 54 #[t0] w R :=
  calls_of_cw (fn := Try.f54) (c := Try.f54.body.getD .skip) A54 mixes Try.func54 (by kernel_rfl) ok54
    ((by kernel_rfl : (S54 t0 w R) = cw Try.prog A54 (Try.f54.body.getD .skip) 0 (bodyQ Try.prog Try.f54 R) (frOf #[t0]) w).mp h)

def S55 (t0 t1 : Value) (w : World) (R : Ending → World → Prop) : Prop :=
  boxW 25 t0 w fun t2 w =>
  boxW 80 t1 w fun t3 w =>
  boxW 83 (.slice none 0 0) w fun t5 w =>
  boxW 80 (.agg #[(.int .i64 0), (.int .i64 0), (.int .i64 0), (.int .i64 0)]) w fun t6 w =>
  boxW 102 .nilFunc w fun t7 w =>
  stW Try.prog 102 t7 (.func (.func 84) #[] #[t2, t5, t6, t3, t7]) w fun w =>
  ld1 w t7 fun t9 =>
  callW Try.prog t9 [(.int .i64 0)] w fun t10 w =>
  ld1 w t5 fun t11 =>
  R (.returned t11) w

def A55 : Ann where
  live := fun _ => []
  wr := fun _ _ => false
  sched := fun _ => .done

set_option maxRecDepth 100000 in
theorem ok55 : (codeOk Try.f55.ntmps A55 (Try.f55.body.getD .skip) 0 && Nat.ble 2 Try.f55.ntmps) = true := by kernel_rfl
set_option maxRecDepth 100000 in
theorem lift55 {t0 t1 : Value} {w : World} {R : Ending → World → Prop} (h : S55 t0 t1 w R) : Calls Try.prog 55 #[t0, t1] w R :=
  calls_of_cw (fn := Try.f55) (c := Try.f55.body.getD .skip) A55 mixes Try.func55 (by kernel_rfl) ok55
    ((by kernel_rfl : (S55 t0 t1 w R) = cw Try.prog A55 (Try.f55.body.getD .skip) 0 (bodyQ Try.prog Try.f55 R) (frOf #[t0, t1]) w).mp h)

def S84 (t0 t1 t2 t3 t4 t5 : Value) (w : World) (R : Ending → World → Prop) : Prop :=
  fa1 t1 1 fun t9 =>
  ld1 w t9 fun t10 =>
  binQ Try.prog w .eql 3 false t0 t10 fun t11 =>
  condW t11 (
    ld1 w t2 fun t12 =>
    ldN 4 w t3 fun t13 =>
    bsW Try.prog 83 1 [(0, t13)] w fun t14 w =>
    semW Try.prog (apS [83, 83] 83 [t12, t14]) w fun t15 w =>
    stW Try.prog 83 t2 t15 w fun w =>
    R (.returned (.tuple #[])) w
  ) (
    iaA 4 1 t4 t0 fun t17 =>
    ld1 w t17 fun t18 =>
    binQ Try.prog w .gtr 3 true t0 (.int .i64 0) fun t20 =>
    Join (fun (k_2 : Value → World → Prop) =>
      condW t20 (
        binQ Try.prog w .sub 3 true t0 (.int .i64 1) fun t23 =>
        iaA 4 1 t3 t23 fun t24 =>
        ld1 w t24 fun t25 =>
        mnQ false [t18, t25] fun t26 =>
        k_2 t26 w
      ) (
        k_2 t18 w
      )
    ) fun t7 w =>
    iaA 4 1 t3 t0 fun t28_2 =>
    stW Try.prog 3 t28_2 (.int .i64 0) w fun w =>
    Loop0 w fun _ w next_2 =>
      iaA 4 1 t3 t0 fun t30_2 =>
      ld1 w t30_2 fun t31_2 =>
      binQ Try.prog w .leq 3 false t31_2 t7 fun t33_2 =>
      condW t33_2 (
        ld1 w t5 fun t39_2 =>
        binQ Try.prog w .add 3 true t0 (.int .i64 1) fun t41_2 =>
        callW Try.prog t39_2 [t41_2] w fun t42_2 w =>
        iaA 4 1 t3 t0 fun t35_2 =>
        ld1 w t35_2 fun t36_2 =>
        binQ Try.prog w .add 3 true t36_2 (.int .i64 1) fun t37_2 =>
        iaA 4 1 t3 t0 fun t38_2 =>
        stW Try.prog 3 t38_2 t37_2 w fun w =>
        next_2 w
      ) (
        iaA 4 1 t3 t0 fun t44_2 =>
        stW Try.prog 3 t44_2 (.int .i64 0) w fun w =>
        R (.returned (.tuple #[])) w
      )
  )

def A84 : Ann where
  live := fun
    | 0 => []
    | _ => []
  wr := fun
    | 0 => fun i => (Nat.ble 29 i && Nat.ble i 42)
    | _ => fun _ => false
  sched := fun _ => .done

set_option maxRecDepth 100000 in
theorem ok84 : (codeOk Try.f84.ntmps A84 (Try.f84.body.getD .skip) 0 && Nat.ble 6 Try.f84.ntmps) = true := by kernel_rfl
set_option maxRecDepth 100000 in
theorem lift84 {t0 t1 t2 t3 t4 t5 : Value} {w : World} {R : Ending → World → Prop} (h : S84 t0 t1 t2 t3 t4 t5 w R) : Calls Try.prog 84 #[t0, t1, t2, t3, t4, t5] w R :=
  calls_of_cw (fn := Try.f84) (c := Try.f84.body.getD .skip) A84 mixes Try.func84 (by kernel_rfl) ok84
    ((by kernel_rfl : (S84 t0 t1 t2 t3 t4 t5 w R) = cw Try.prog A84 (Try.f84.body.getD .skip) 0 (bodyQ Try.prog Try.f84 R) (frOf #[t0, t1, t2, t3, t4, t5]) w).mp h)

def S57 (t0 t1 : Value) (w : World) (R : Ending → World → Prop) : Prop :=
  boxW 77 t0 w fun t2 w =>
  boxW 88 t1 w fun t3 w =>
  fa1 t3 0 fun t10 =>
  ld1 w t10 fun t11 =>
  binQ Try.prog w .eql 3 true t11 (.int .i64 0) fun t12 =>
  condW t12 (
    R (.returned (.int .i64 1)) w
  ) (
    fa1 t2 3 fun t14 =>
    ld1 w t14 fun t15 =>
    ldN 5 w t3 fun t16 =>
    semW Try.prog (lkS 75 t15 t16 true) w fun t17 w =>
    exQ t17 0 fun t18 =>
    exQ t17 1 fun t19 =>
    condW t19 (
      R (.returned t18) w
    ) (
      fa1 t2 0 fun t22 =>
      ldN 3 w t22 fun t23 =>
      fa1 t3 1 fun t24 =>
      ldN 4 w t24 fun t25 =>
      callW Try.prog (.func (.func 55) #[] #[]) [t23, t25] w fun t26 w =>
      ln1 t26 fun t27 =>
      Loop2 (.int .i64 0) (.int .i64 0) w fun _ t7 t28 w next =>
        binQ Try.prog w .lss 3 false t28 t27 fun t29 =>
        condW t29 (
          iaS 4 t26 t28 fun t30 =>
          ldN 4 w t30 fun t31 =>
          boxW 80 (.agg #[(.int .i64 0), (.int .i64 0), (.int .i64 0), (.int .i64 0)]) w fun t9 w =>
          stW Try.prog 80 t9 t31 w fun w =>
          ldN 4 w t2 fun t33 =>
          fa1 t3 0 fun t34 =>
          ld1 w t34 fun t35 =>
          binQ Try.prog w .sub 3 true t35 (.int .i64 1) fun t36 =>
          ldN 4 w t9 fun t37 =>
          bdQ Try.prog 88 [(0, t36), (1, t37)] fun t38 =>
          callW Try.prog (.func (.func 57) #[] #[]) [t33, t38] w fun t39 w =>
          binQ Try.prog w .add 3 false t7 t39 fun t40 =>
          binQ Try.prog w .add 3 true t28 (.int .i64 1) fun t41 =>
          next t40 t41 w
        ) (
          fa1 t2 3 fun t42 =>
          ld1 w t42 fun t43 =>
          ldN 5 w t3 fun t44 =>
          semW Try.prog (muS 75 t43 t44 t7) w fun _ w =>
          R (.returned t7) w
        )
    )
  )

def A57 : Ann where
  live := fun
    | 0 => [7, 28]
    | _ => []
  wr := fun
    | 0 => fun i => Nat.beq i 7 || Nat.beq i 9 || (Nat.ble 28 i && Nat.ble i 41)
    | _ => fun _ => false
  sched := fun _ => .done

set_option maxRecDepth 100000 in
theorem ok57 : (codeOk Try.f57.ntmps A57 (Try.f57.body.getD .skip) 0 && Nat.ble 2 Try.f57.ntmps) = true := by kernel_rfl
set_option maxRecDepth 100000 in
theorem lift57 {t0 t1 : Value} {w : World} {R : Ending → World → Prop} (h : S57 t0 t1 w R) : Calls Try.prog 57 #[t0, t1] w R :=
  calls_of_cw (fn := Try.f57) (c := Try.f57.body.getD .skip) A57 mixes Try.func57 (by kernel_rfl) ok57
    ((by kernel_rfl : (S57 t0 t1 w R) = cw Try.prog A57 (Try.f57.body.getD .skip) 0 (bodyQ Try.prog Try.f57 R) (frOf #[t0, t1]) w).mp h)

def S60 (t0 t1 : Value) (w : World) (R : Ending → World → Prop) : Prop :=
  binQ Try.prog w .lss 3 true t1 (.int .i64 0) fun t8 =>
  gd t8 false (fun k => k t1 w) w fun t10 w =>
  gd t8 false (fun k => k t0 w) w fun t11 w =>
  gd t8 false (fun k => binQ Try.prog w .gtr 3 false t10 t11 fun v => k v w) w fun t12 w =>
  pickQ t8 (.bool true) t12 fun t13 =>
  condW t13 (
    R (.returned (.int .i64 0)) w
  ) (
    Loop2 (.int .i64 1) (.int .i64 0) w fun _ t5 t15 w next =>
      binQ Try.prog w .lss 3 false t15 t1 fun t16 =>
      condW t16 (
        binQ Try.prog w .sub 3 false t0 t15 fun t21 =>
        binQ Try.prog w .mul 3 false t5 t21 fun t22 =>
        binQ Try.prog w .add 3 true t15 (.int .i64 1) fun t24 =>
        binQ Try.prog w .quo 3 false t22 t24 fun t25 =>
        binQ Try.prog w .add 3 true t15 (.int .i64 1) fun t26 =>
        next t25 t26 w
      ) (
        R (.returned t5) w
      )
  )

def A60 : Ann where
  live := fun
    | 0 => [5, 15]
    | _ => []
  wr := fun
    | 0 => fun i => (Nat.ble 5 i && Nat.ble i 6) || (Nat.ble 15 i && Nat.ble i 26)
    | _ => fun _ => false
  sched := fun _ => .done

set_option maxRecDepth 100000 in
theorem ok60 : (codeOk Try.f60.ntmps A60 (Try.f60.body.getD .skip) 0 && Nat.ble 2 Try.f60.ntmps) = true := by kernel_rfl
set_option maxRecDepth 100000 in
theorem lift60 {t0 t1 : Value} {w : World} {R : Ending → World → Prop} (h : S60 t0 t1 w R) : Calls Try.prog 60 #[t0, t1] w R :=
  calls_of_cw (fn := Try.f60) (c := Try.f60.body.getD .skip) A60 mixes Try.func60 (by kernel_rfl) ok60
    ((by kernel_rfl : (S60 t0 t1 w R) = cw Try.prog A60 (Try.f60.body.getD .skip) 0 (bodyQ Try.prog Try.f60 R) (frOf #[t0, t1]) w).mp h)

def S61 (t0 : Value) (w : World) (R : Ending → World → Prop) : Prop :=
  ln1 t0 fun t11 =>
  binQ Try.prog w .eql 3 true t11 (.int .i64 0) fun t12 =>
  condW t12 (
    R (.returned (.int .i64 1)) w
  ) (
    iaS 1 t0 (.int .i64 0) fun t14 =>
    ld1 w t14 fun t15 =>
    ln1 t15 fun t16 =>
    Loop3 (.int .i64 0) (.int .i64 1) (.int .i64 0) w fun _ t3 t4 t17 w next =>
      binQ Try.prog w .lss 3 false t17 t16 fun t18 =>
      condW t18 (
        iaS 1 t15 t17 fun t20 =>
        ld1 w t20 fun t21 =>
        slS 1 t0 (some (.int .i64 1)) none fun t23 =>
        ln1 t23 fun t24 =>
        Loop2 (.slice none 0 0) (.int .i64 0) w fun _ t7 t25 w next_2 =>
          binQ Try.prog w .lss 3 false t25 t24 fun t26 =>
          condW t26 (
            iaS 1 t23 t25 fun t27 =>
            ld1 w t27 fun t28 =>
            Drew w fun w =>
            slS 1 t28 none (some t17) fun t32 =>
            binQ Try.prog w .add 3 true t17 (.int .i64 1) fun t35 =>
            slS 1 t28 (some t35) none fun t36 =>
            bsW Try.prog 26 2 [(0, t32), (1, t36)] w <| keepB w fun t37 w =>
            callW Try.prog (.func (.func 85) #[] #[]) [t37] w <| keepB w fun t38 w =>
            bsW Try.prog 26 1 [(0, t38)] w <| keepB w fun t39 w =>
            semW Try.prog (apS [26, 26] 26 [t7, t39]) w fun t40 w =>
            binQ Try.prog w .add 3 true t25 (.int .i64 1) fun t41 =>
            next_2 t40 t41 w
          ) (
            binQ Try.prog w .mul 3 false t4 t21 fun t45 =>
            callW Try.prog (.func (.func 61) #[] #[]) [t7] w fun t47 w =>
            binQ Try.prog w .mul 3 false t45 t47 fun t48 =>
            binQ Try.prog w .add 3 false t3 t48 fun t49 =>
            unQ .neg t4 fun t51 =>
            binQ Try.prog w .add 3 true t17 (.int .i64 1) fun t52 =>
            next t49 t51 t52 w
          )
      ) (
        R (.returned t3) w
      )
  )

def A61 : Ann where
  live := fun
    | 0 => [3, 4, 17]
    | 2 => [7, 25]
    | _ => []
  wr := fun
    | 0 => fun i => (Nat.ble 3 i && Nat.ble i 7) || Nat.beq i 9 || (Nat.ble 17 i && Nat.ble i 52)
    | 2 => fun i => Nat.beq i 7 || Nat.beq i 9 || (Nat.ble 25 i && Nat.ble i 41)
    | _ => fun _ => false
  sched := fun
    | 11 => (.take 0 (.take 1 (.take 2 (.take 3 (.take 4 (.take 5 (.take 6 (.take 7 (.eff 8 (.eff 9 (.eff 10 (.bar 11 (.take 12 .done)))))))))))))
    | _ => .done

set_option maxRecDepth 100000 in
theorem ok61 : (codeOk Try.f61.ntmps A61 (Try.f61.body.getD .skip) 0 && Nat.ble 1 Try.f61.ntmps) = true := by kernel_rfl
set_option maxRecDepth 100000 in
theorem lift61 {t0 : Value} {w : World} {R : Ending → World → Prop} (h : S61 t0 w R) : Calls Try.prog 61 #[t0] w R :=
  calls_of_cw (fn := Try.f61) (c := Try.f61.body.getD .skip) A61 mixes Try.func61 (by kernel_rfl) ok61
    ((by kernel_rfl : (S61 t0 w R) = cw Try.prog A61 (Try.f61.body.getD .skip) 0 (bodyQ Try.prog Try.f61 R) (frOf #[t0]) w).mp h)

def S85 (t0 : Value) (w : World) (R : Ending → World → Prop) : Prop :=
  ln1 t0 fun t10 =>
  Loop2 (.int .i64 0) (.int .i64 0) w fun _ t3 t11 w next =>
    binQ Try.prog w .lss 3 false t11 t10 fun t12 =>
    condW t12 (
      iaS 1 t0 t11 fun t13 =>
      ld1 w t13 fun t14 =>
      ln1 t14 fun t17 =>
      binQ Try.prog w .add 3 false t3 t17 fun t18 =>
      binQ Try.prog w .lss 3 true t18 (.int .i64 0) fun t20 =>
      Join (fun (k_2 : World → Prop) =>
        condW t20 (
          False
        ) (
          k_2 w
        )
      ) fun w =>
      binQ Try.prog w .add 3 true t11 (.int .i64 1) fun t22_2 =>
      next t18 t22_2 w
    ) (
      callW Try.prog (.func (.func 95) #[] #[]) [(.slice none 0 0), t3] w fun t24 w =>
      ln1 t0 fun t26 =>
      Loop2 t24 (.int .i64 0) w fun _ t6 t27 w next_2 =>
        binQ Try.prog w .lss 3 false t27 t26 fun t28 =>
        condW t28 (
          iaS 1 t0 t27 fun t29 =>
          ld1 w t29 fun t30 =>
          semW Try.prog (apS [36, 36] 36 [t6, t30]) w fun t33 w =>
          binQ Try.prog w .add 3 true t27 (.int .i64 1) fun t34 =>
          next_2 t33 t34 w
        ) (
          R (.returned t6) w
        )
    )

def A85 : Ann where
  live := fun
    | 0 => [3, 11]
    | 2 => [6, 27]
    | _ => []
  wr := fun
    | 0 => fun i => Nat.beq i 3 || Nat.beq i 5 || (Nat.ble 11 i && Nat.ble i 22)
    | 2 => fun i => Nat.beq i 6 || Nat.beq i 8 || (Nat.ble 27 i && Nat.ble i 34)
    | _ => fun _ => false
  sched := fun _ => .done

set_option maxRecDepth 100000 in
theorem ok85 : (codeOk Try.f85.ntmps A85 (Try.f85.body.getD .skip) 0 && Nat.ble 1 Try.f85.ntmps) = true := by kernel_rfl
set_option maxRecDepth 100000 in
theorem lift85 {t0 : Value} {w : World} {R : Ending → World → Prop} (h : S85 t0 w R) : Calls Try.prog 85 #[t0] w R :=
  calls_of_cw (fn := Try.f85) (c := Try.f85.body.getD .skip) A85 mixes Try.func85 (by kernel_rfl) ok85
    ((by kernel_rfl : (S85 t0 w R) = cw Try.prog A85 (Try.f85.body.getD .skip) 0 (bodyQ Try.prog Try.f85 R) (frOf #[t0]) w).mp h)

def S95 (t0 t1 : Value) (w : World) (R : Ending → World → Prop) : Prop :=
  binQ Try.prog w .lss 3 true t1 (.int .i64 0) fun t6 =>
  Join (fun (k_2 : World → Prop) =>
    condW t6 (
      False
    ) (
      k_2 w
    )
  ) fun w =>
  semW Try.prog (caS [36] 3 [t0]) w fun t10_2 w =>
  ln1 t0 fun t12_2 =>
  binQ Try.prog w .sub 3 false t10_2 t12_2 fun t13_2 =>
  binQ Try.prog w .sub 3 false t1 t13_2 fun t14_2 =>
  binQ Try.prog w .gtr 3 true t14_2 (.int .i64 0) fun t16_2 =>
  condW t16_2 (
    semW Try.prog (caS [36] 3 [t0]) w fun t19_2 w =>
    slS 1 t0 none (some t19_2) fun t20_2 =>
    semW Try.prog (apS [36, 3] 36 [t20_2, t14_2]) w fun t22_2 w =>
    ln1 t0 fun t24_2 =>
    slS 1 t22_2 none (some t24_2) fun t25_2 =>
    R (.returned t25_2) w
  ) (
    R (.returned t0) w
  )

def A95 : Ann where
  live := fun _ => []
  wr := fun _ _ => false
  sched := fun _ => .done

set_option maxRecDepth 100000 in
theorem ok95 : (codeOk Try.f95.ntmps A95 (Try.f95.body.getD .skip) 0 && Nat.ble 2 Try.f95.ntmps) = true := by kernel_rfl
set_option maxRecDepth 100000 in
theorem lift95 {t0 t1 : Value} {w : World} {R : Ending → World → Prop} (h : S95 t0 t1 w R) : Calls Try.prog 95 #[t0, t1] w R :=
  calls_of_cw (fn := Try.f95) (c := Try.f95.body.getD .skip) A95 mixes Try.func95 (by kernel_rfl) ok95
    ((by kernel_rfl : (S95 t0 t1 w R) = cw Try.prog A95 (Try.f95.body.getD .skip) 0 (bodyQ Try.prog Try.f95 R) (frOf #[t0, t1]) w).mp h)

def S21 (t0 : Value) (w : World) (R : Ending → World → Prop) : Prop :=
  boxW 25 t0 w fun t1 w =>
  ldN 3 w t1 fun t4 =>
  callW Try.prog (.func (.func 58) #[] #[]) [t4] w fun t5 w =>
  unQ .not t5 fun t6 =>
  condW t6 (
    R (.returned (.tuple #[(.int .i64 0), (.int .i64 2)])) w
  ) (
    Drew w fun w =>
    ldN 3 w t1 fun t7 =>
    fa1 t1 0 fun t9 =>
    ld1 w t9 fun t10 =>
    ldN 3 w t1 fun t11 =>
    callW Try.prog (.func (.func 52) #[] #[]) [t7] w <| keepB w fun t8 w =>
    callW Try.prog (.func (.func 53) #[] #[]) [t11] w <| keepB w fun t12 w =>
    bdQ Try.prog 88 [(0, t10), (1, t12)] fun t13 =>
    callW Try.prog (.func (.func 57) #[] #[]) [t8, t13] w fun t14 w =>
    R (.returned (.tuple #[t14, (.int .i64 0)])) w
  )

def A21 : Ann where
  live := fun _ => []
  wr := fun _ _ => false
  sched := fun
    | 3 => (.take 0 (.take 2 (.take 3 (.take 4 (.eff 1 (.eff 5 (.take 6 (.bar 7 (.take 8 (.take 9 .done))))))))))
    | _ => .done

set_option maxRecDepth 100000 in
theorem ok21 : (codeOk Try.f21.ntmps A21 (Try.f21.body.getD .skip) 0 && Nat.ble 1 Try.f21.ntmps) = true := by kernel_rfl
set_option maxRecDepth 100000 in
theorem lift21 {t0 : Value} {w : World} {R : Ending → World → Prop} (h : S21 t0 w R) : Calls Try.prog 21 #[t0] w R :=
  calls_of_cw (fn := Try.f21) (c := Try.f21.body.getD .skip) A21 mixes Try.func21 (by kernel_rfl) ok21
    ((by kernel_rfl : (S21 t0 w R) = cw Try.prog A21 (Try.f21.body.getD .skip) 0 (bodyQ Try.prog Try.f21 R) (frOf #[t0]) w).mp h)

def S25 (t0 : Value) (w : World) (R : Ending → World → Prop) : Prop :=
  boxW 25 t0 w fun t1 w =>
  ldN 3 w t1 fun t8 =>
  callW Try.prog (.func (.func 58) #[] #[]) [t8] w fun t9 w =>
  unQ .not t9 fun t10 =>
  condW t10 (
    R (.returned (.tuple #[(.int .i64 0), (.int .i64 2)])) w
  ) (
    fa1 t1 0 fun t11 =>
    ld1 w t11 fun t12 =>
    Loop2 (.slice none 0 0) (.int .i64 0) w fun _ t4 t13 w next =>
      binQ Try.prog w .lss 3 false t13 t12 fun t14 =>
      condW t14 (
        fa1 t1 0 fun t16 =>
        ld1 w t16 fun t17 =>
        Loop2 (.slice none 0 0) (.int .i64 0) w fun _ t6 t18 w next_2 =>
          binQ Try.prog w .lss 3 false t18 t17 fun t19 =>
          condW t19 (
            fa1 t1 1 fun t22 =>
            ld1 w t22 fun t23 =>
            fa1 t1 2 fun t24 =>
            ld1 w t24 fun t25 =>
            binQ Try.prog w .add 3 false t23 t25 fun t26 =>
            fa1 t1 1 fun t27 =>
            ld1 w t27 fun t28 =>
            binQ Try.prog w .sub 3 false t28 t13 fun t30 =>
            binQ Try.prog w .add 3 false t30 t18 fun t32 =>
            callW Try.prog (.func (.func 60) #[] #[]) [t26, t32] w fun t33 w =>
            bsW Try.prog 36 1 [(0, t33)] w fun t34 w =>
            semW Try.prog (apS [36, 36] 36 [t6, t34]) w fun t35 w =>
            binQ Try.prog w .add 3 true t18 (.int .i64 1) fun t36 =>
            next_2 t35 t36 w
          ) (
            bsW Try.prog 26 1 [(0, t6)] w fun t39 w =>
            semW Try.prog (apS [26, 26] 26 [t4, t39]) w fun t40 w =>
            binQ Try.prog w .add 3 true t13 (.int .i64 1) fun t41 =>
            next t40 t41 w
          )
      ) (
        callW Try.prog (.func (.func 61) #[] #[]) [t4] w fun t43 w =>
        R (.returned (.tuple #[t43, (.int .i64 0)])) w
      )
  )

def A25 : Ann where
  live := fun
    | 0 => [4, 13]
    | 2 => [6, 18]
    | _ => []
  wr := fun
    | 0 => fun i => (Nat.ble 4 i && Nat.ble i 7) || (Nat.ble 13 i && Nat.ble i 41)
    | 2 => fun i => (Nat.ble 6 i && Nat.ble i 7) || (Nat.ble 18 i && Nat.ble i 36)
    | _ => fun _ => false
  sched := fun _ => .done

set_option maxRecDepth 100000 in
theorem ok25 : (codeOk Try.f25.ntmps A25 (Try.f25.body.getD .skip) 0 && Nat.ble 1 Try.f25.ntmps) = true := by kernel_rfl
set_option maxRecDepth 100000 in
theorem lift25 {t0 : Value} {w : World} {R : Ending → World → Prop} (h : S25 t0 w R) : Calls Try.prog 25 #[t0] w R :=
  calls_of_cw (fn := Try.f25) (c := Try.f25.body.getD .skip) A25 mixes Try.func25 (by kernel_rfl) ok25
    ((by kernel_rfl : (S25 t0 w R) = cw Try.prog A25 (Try.f25.body.getD .skip) 0 (bodyQ Try.prog Try.f25 R) (frOf #[t0]) w).mp h)

def S18 (t0 t1 : Value) (w : World) (R : Ending → World → Prop) : Prop :=
  boxW 25 t0 w fun t2 w =>
  ldN 3 w t2 fun t15 =>
  callW Try.prog (.func (.func 47) #[] #[]) [t15, t1] w fun t17 w =>
  binQ Try.prog w .neq 31 true t17 (.int .i64 0) fun t19 =>
  condW t19 (
    R (.returned (.tuple #[(.int .i64 0), t17])) w
  ) (
    Drew w fun w =>
    Join (fun (k_2 : Value → Value → Value → World → Prop) =>
      ldN 3 w t2 fun t21 =>
      ldN 3 w t2 fun t23 =>
      And (
        callW Try.prog (.func (.func 52) #[] #[]) [t21] w <| keepB w fun t22 w =>
        And (
          callW Try.prog (.func (.func 53) #[] #[]) [t23] w <| keepB w fun t24 w =>
          And (
            boxW 77 (.agg #[(.int .i64 0), (.int .i64 0), (.int .i64 0), (.map none)]) w <| keepB w fun t7_2 w =>
            boxW 80 (.agg #[(.int .i64 0), (.int .i64 0), (.int .i64 0), (.int .i64 0)]) w <| keepB w fun t9_2 w =>
            stW Try.prog 77 t7_2 t22 w fun w =>
            stW Try.prog 80 t9_2 t24 w fun w =>
            k_2 t7_2 (.int .i64 0) t9_2 w
          ) <|
          And (
            boxW 80 (.agg #[(.int .i64 0), (.int .i64 0), (.int .i64 0), (.int .i64 0)]) w <| keepB w fun t9_3 w =>
            boxW 77 (.agg #[(.int .i64 0), (.int .i64 0), (.int .i64 0), (.map none)]) w <| keepB w fun t7_3 w =>
            stW Try.prog 77 t7_3 t22 w fun w =>
            stW Try.prog 80 t9_3 t24 w fun w =>
            k_2 t7_3 (.int .i64 0) t9_3 w
          ) <|
          True
        ) <|
        And (
          boxW 77 (.agg #[(.int .i64 0), (.int .i64 0), (.int .i64 0), (.map none)]) w <| keepB w fun t7_4 w =>
          And (
            callW Try.prog (.func (.func 53) #[] #[]) [t23] w <| keepB w fun t24_2 w =>
            boxW 80 (.agg #[(.int .i64 0), (.int .i64 0), (.int .i64 0), (.int .i64 0)]) w <| keepB w fun t9_4 w =>
            stW Try.prog 77 t7_4 t22 w fun w =>
            stW Try.prog 80 t9_4 t24_2 w fun w =>
            k_2 t7_4 (.int .i64 0) t9_4 w
          ) <|
          And (
            boxW 80 (.agg #[(.int .i64 0), (.int .i64 0), (.int .i64 0), (.int .i64 0)]) w <| keepB w fun t9_5 w =>
            callW Try.prog (.func (.func 53) #[] #[]) [t23] w <| keepB w fun t24_3 w =>
            stW Try.prog 77 t7_4 t22 w fun w =>
            stW Try.prog 80 t9_5 t24_3 w fun w =>
            k_2 t7_4 (.int .i64 0) t9_5 w
          ) <|
          True
        ) <|
        And (
          boxW 80 (.agg #[(.int .i64 0), (.int .i64 0), (.int .i64 0), (.int .i64 0)]) w <| keepB w fun t9_6 w =>
          And (
            callW Try.prog (.func (.func 53) #[] #[]) [t23] w <| keepB w fun t24_4 w =>
            boxW 77 (.agg #[(.int .i64 0), (.int .i64 0), (.int .i64 0), (.map none)]) w <| keepB w fun t7_5 w =>
            stW Try.prog 77 t7_5 t22 w fun w =>
            stW Try.prog 80 t9_6 t24_4 w fun w =>
            k_2 t7_5 (.int .i64 0) t9_6 w
          ) <|
          And (
            boxW 77 (.agg #[(.int .i64 0), (.int .i64 0), (.int .i64 0), (.map none)]) w <| keepB w fun t7_6 w =>
            callW Try.prog (.func (.func 53) #[] #[]) [t23] w <| keepB w fun t24_5 w =>
            stW Try.prog 77 t7_6 t22 w fun w =>
            stW Try.prog 80 t9_6 t24_5 w fun w =>
            k_2 t7_6 (.int .i64 0) t9_6 w
          ) <|
          True
        ) <|
        True
      ) <|
      And (
        boxW 77 (.agg #[(.int .i64 0), (.int .i64 0), (.int .i64 0), (.map none)]) w <| keepB w fun t7_7 w =>
        And (
          callW Try.prog (.func (.func 52) #[] #[]) [t21] w <| keepB w fun t22_2 w =>
          And (
            callW Try.prog (.func (.func 53) #[] #[]) [t23] w <| keepB w fun t24_6 w =>
            boxW 80 (.agg #[(.int .i64 0), (.int .i64 0), (.int .i64 0), (.int .i64 0)]) w <| keepB w fun t9_7 w =>
            stW Try.prog 77 t7_7 t22_2 w fun w =>
            stW Try.prog 80 t9_7 t24_6 w fun w =>
            k_2 t7_7 (.int .i64 0) t9_7 w
          ) <|
          And (
            boxW 80 (.agg #[(.int .i64 0), (.int .i64 0), (.int .i64 0), (.int .i64 0)]) w <| keepB w fun t9_8 w =>
            callW Try.prog (.func (.func 53) #[] #[]) [t23] w <| keepB w fun t24_7 w =>
            stW Try.prog 77 t7_7 t22_2 w fun w =>
            stW Try.prog 80 t9_8 t24_7 w fun w =>
            k_2 t7_7 (.int .i64 0) t9_8 w
          ) <|
          True
        ) <|
        And (
          boxW 80 (.agg #[(.int .i64 0), (.int .i64 0), (.int .i64 0), (.int .i64 0)]) w <| keepB w fun t9_9 w =>
          callW Try.prog (.func (.func 52) #[] #[]) [t21] w <| keepB w fun t22_3 w =>
          callW Try.prog (.func (.func 53) #[] #[]) [t23] w <| keepB w fun t24_8 w =>
          stW Try.prog 77 t7_7 t22_3 w fun w =>
          stW Try.prog 80 t9_9 t24_8 w fun w =>
          k_2 t7_7 (.int .i64 0) t9_9 w
        ) <|
        True
      ) <|
      And (
        boxW 80 (.agg #[(.int .i64 0), (.int .i64 0), (.int .i64 0), (.int .i64 0)]) w <| keepB w fun t9_10 w =>
        And (
          callW Try.prog (.func (.func 52) #[] #[]) [t21] w <| keepB w fun t22_4 w =>
          And (
            callW Try.prog (.func (.func 53) #[] #[]) [t23] w <| keepB w fun t24_9 w =>
            boxW 77 (.agg #[(.int .i64 0), (.int .i64 0), (.int .i64 0), (.map none)]) w <| keepB w fun t7_8 w =>
            stW Try.prog 77 t7_8 t22_4 w fun w =>
            stW Try.prog 80 t9_10 t24_9 w fun w =>
            k_2 t7_8 (.int .i64 0) t9_10 w
          ) <|
          And (
            boxW 77 (.agg #[(.int .i64 0), (.int .i64 0), (.int .i64 0), (.map none)]) w <| keepB w fun t7_9 w =>
            callW Try.prog (.func (.func 53) #[] #[]) [t23] w <| keepB w fun t24_10 w =>
            stW Try.prog 77 t7_9 t22_4 w fun w =>
            stW Try.prog 80 t9_10 t24_10 w fun w =>
            k_2 t7_9 (.int .i64 0) t9_10 w
          ) <|
          True
        ) <|
        And (
          boxW 77 (.agg #[(.int .i64 0), (.int .i64 0), (.int .i64 0), (.map none)]) w <| keepB w fun t7_10 w =>
          callW Try.prog (.func (.func 52) #[] #[]) [t21] w <| keepB w fun t22_5 w =>
          callW Try.prog (.func (.func 53) #[] #[]) [t23] w <| keepB w fun t24_11 w =>
          stW Try.prog 77 t7_10 t22_5 w fun w =>
          stW Try.prog 80 t9_10 t24_11 w fun w =>
          k_2 t7_10 (.int .i64 0) t9_10 w
        ) <|
        True
      ) <|
      True
    ) fun t7 t8 t9 w =>
    ln1 t1 fun t26 =>
    Loop2 t8 (.int .i64 0) w fun _ t8_2 t27 w next =>
      binQ Try.prog w .lss 3 false t27 t26 fun t28 =>
      condW t28 (
        iaS 1 t1 t27 fun t30 =>
        ld1 w t30 fun t31 =>
        callW Try.prog (.func (.func 54) #[] #[]) [t31] w fun t33 w =>
        boxW 80 (.agg #[(.int .i64 0), (.int .i64 0), (.int .i64 0), (.int .i64 0)]) w fun t12 w =>
        stW Try.prog 80 t12 t33 w fun w =>
        ldN 3 w t2 fun t34 =>
        ldN 4 w t9 fun t35 =>
        callW Try.prog (.func (.func 55) #[] #[]) [t34, t35] w fun t36 w =>
        ln1 t36 fun t37 =>
        Loop2 t8_2 (.int .i64 0) w fun _ t8_3 t38 w next_2 =>
          binQ Try.prog w .lss 3 false t38 t37 fun t39 =>
          condW t39 (
            iaS 4 t36 t38 fun t40 =>
            ldN 4 w t40 fun t41 =>
            boxW 80 (.agg #[(.int .i64 0), (.int .i64 0), (.int .i64 0), (.int .i64 0)]) w fun t14 w =>
            stW Try.prog 80 t14 t41 w fun w =>
            Drew w fun w =>
            slA 4 1 t14 none none fun t42 =>
            slA 4 1 t12 none none fun t43 =>
            callW Try.prog (.func (.func 56) #[] #[]) [t42, t43] w fun t44 w =>
            binQ Try.prog w .lss 3 true t44 (.int .i64 0) fun t45 =>
            Join (fun (k_3 : Value → World → Prop) =>
              condW t45 (
                ldN 4 w t7 fun t47 =>
                fa1 t2 0 fun t48 =>
                ld1 w t48 fun t49 =>
                binQ Try.prog w .sub 3 true t49 (.int .i64 1) fun t50 =>
                binQ Try.prog w .sub 3 false t50 t27 fun t52 =>
                ldN 4 w t14 fun t53 =>
                bdQ Try.prog 88 [(0, t52), (1, t53)] fun t54 =>
                callW Try.prog (.func (.func 57) #[] #[]) [t47, t54] w fun t55 w =>
                binQ Try.prog w .add 3 false t8_3 t55 fun t56 =>
                k_3 t56 w
              ) (
                k_3 t8_3 w
              )
            ) fun t8_4 w =>
            binQ Try.prog w .add 3 true t38 (.int .i64 1) fun t57_2 =>
            next_2 t8_4 t57_2 w
          ) (
            ldN 4 w t12 fun t58 =>
            stW Try.prog 80 t9 t58 w fun w =>
            binQ Try.prog w .add 3 true t27 (.int .i64 1) fun t59 =>
            next t8_3 t59 w
          )
      ) (
        R (.returned (.tuple #[t8_2, (.int .i64 0)])) w
      )
  )

def A18 : Ann where
  live := fun
    | 0 => [8, 27]
    | 2 => [8, 38]
    | _ => []
  wr := fun
    | 0 => fun i => Nat.beq i 8 || (Nat.ble 10 i && Nat.ble i 12) || Nat.beq i 14 || (Nat.ble 27 i && Nat.ble i 59)
    | 2 => fun i => Nat.beq i 8 || Nat.beq i 14 || (Nat.ble 38 i && Nat.ble i 57)
    | _ => fun _ => false
  sched := fun
    | 4 => (.take 0 (.take 2 (.alt 1 (.alt 3 (.alt 4 (.eff 5 (.bar 6 (.take 7 (.bar 8 .done)))) (.alt 5 (.eff 4 (.bar 6 (.take 7 (.bar 8 .done)))) .nomore)) (.alt 4 (.alt 3 (.eff 5 (.bar 6 (.take 7 (.bar 8 .done)))) (.alt 5 (.eff 3 (.bar 6 (.take 7 (.bar 8 .done)))) .nomore)) (.alt 5 (.alt 3 (.eff 4 (.bar 6 (.take 7 (.bar 8 .done)))) (.alt 4 (.eff 3 (.bar 6 (.take 7 (.bar 8 .done)))) .nomore)) .nomore))) (.alt 4 (.alt 1 (.alt 3 (.eff 5 (.bar 6 (.take 7 (.bar 8 .done)))) (.alt 5 (.eff 3 (.bar 6 (.take 7 (.bar 8 .done)))) .nomore)) (.alt 5 (.eff 1 (.eff 3 (.bar 6 (.take 7 (.bar 8 .done))))) .nomore)) (.alt 5 (.alt 1 (.alt 3 (.eff 4 (.bar 6 (.take 7 (.bar 8 .done)))) (.alt 4 (.eff 3 (.bar 6 (.take 7 (.bar 8 .done)))) .nomore)) (.alt 4 (.eff 1 (.eff 3 (.bar 6 (.take 7 (.bar 8 .done))))) .nomore)) .nomore)))))
    | 12 => (.take 0 (.take 1 (.bar 2 (.take 3 .done))))
    | _ => .done

set_option maxRecDepth 100000 in
theorem ok18 : (codeOk Try.f18.ntmps A18 (Try.f18.body.getD .skip) 0 && Nat.ble 2 Try.f18.ntmps) = true := by kernel_rfl
set_option maxRecDepth 100000 in
theorem lift18 {t0 t1 : Value} {w : World} {R : Ending → World → Prop} (h : S18 t0 t1 w R) : Calls Try.prog 18 #[t0, t1] w R :=
  calls_of_cw (fn := Try.f18) (c := Try.f18.body.getD .skip) A18 mixes Try.func18 (by kernel_rfl) ok18
    ((by kernel_rfl : (S18 t0 t1 w R) = cw Try.prog A18 (Try.f18.body.getD .skip) 0 (bodyQ Try.prog Try.f18 R) (frOf #[t0, t1]) w).mp h)

def S17 (w : World) (R : Ending → World → Prop) : Prop :=
  bdQ Try.prog 25 [(0, (.int .i64 2)), (1, (.int .i64 2)), (2, (.int .i64 2))] fun t8 =>
  boxW 25 (.agg #[(.int .i64 0), (.int .i64 0), (.int .i64 0)]) w fun t1 w =>
  stW Try.prog 25 t1 t8 w fun w =>
  ldN 3 w t1 fun t10 =>
  callW Try.prog (.func (.func 21) #[] #[]) [t10] w fun t11 w =>
  exQ t11 0 fun t12 =>
  exQ t11 1 fun t13 =>
  ldN 3 w t1 fun t15 =>
  callW Try.prog (.func (.func 25) #[] #[]) [t15] w fun t16 w =>
  exQ t16 0 fun t17 =>
  exQ t16 1 fun t18 =>
  ldN 3 w t1 fun t20 =>
  bsW Try.prog 36 2 [(0, (.int .i64 2)), (1, (.int .i64 1))] w fun t21 w =>
  bsW Try.prog 36 2 [(0, (.int .i64 1)), (1, (.int .i64 0))] w fun t22 w =>
  bsW Try.prog 26 2 [(0, t21), (1, t22)] w fun t23 w =>
  callW Try.prog (.func (.func 18) #[] #[]) [t20, t23] w fun t24 w =>
  exQ t24 0 fun t25 =>
  exQ t24 1 fun t26 =>
  binQ Try.prog w .eql 31 true t13 (.int .i64 0) fun t28 =>
  gd t28 true (fun k => k t12 w) w fun t30 w =>
  gd t28 true (fun k => binQ Try.prog w .eql 3 true t30 (.int .i64 20) fun v => k v w) w fun t31 w =>
  pickQ t28 t31 (.bool false) fun t32 =>
  gd t32 true (fun k => k t18 w) w fun t34 w =>
  gd t32 true (fun k => binQ Try.prog w .eql 31 true t34 (.int .i64 0) fun v => k v w) w fun t35 w =>
  pickQ t32 t35 (.bool false) fun t36 =>
  gd t36 true (fun k => k t17 w) w fun t38 w =>
  gd t36 true (fun k => binQ Try.prog w .eql 3 true t38 (.int .i64 20) fun v => k v w) w fun t39 w =>
  pickQ t36 t39 (.bool false) fun t40 =>
  gd t40 true (fun k => k t26 w) w fun t42 w =>
  gd t40 true (fun k => binQ Try.prog w .eql 31 true t42 (.int .i64 0) fun v => k v w) w fun t43 w =>
  pickQ t40 t43 (.bool false) fun t44 =>
  gd t44 true (fun k => k t25 w) w fun t46 w =>
  gd t44 true (fun k => binQ Try.prog w .eql 3 true t46 (.int .i64 10) fun v => k v w) w fun t47 w =>
  pickQ t44 t47 (.bool false) fun t48 =>
  R (.returned t48) w

def A17 : Ann where
  live := fun _ => []
  wr := fun _ _ => false
  sched := fun _ => .done

set_option maxRecDepth 100000 in
theorem ok17 : (codeOk Try.f17.ntmps A17 (Try.f17.body.getD .skip) 0 && Nat.ble 0 Try.f17.ntmps) = true := by kernel_rfl
set_option maxRecDepth 100000 in
theorem lift17 {w : World} {R : Ending → World → Prop} (h : S17 w R) : Calls Try.prog 17 #[] w R :=
  calls_of_cw (fn := Try.f17) (c := Try.f17.body.getD .skip) A17 mixes Try.func17 (by kernel_rfl) ok17
    ((by kernel_rfl : (S17 w R) = cw Try.prog A17 (Try.f17.body.getD .skip) 0 (bodyQ Try.prog Try.f17 R) (frOf #[]) w).mp h)

theorem fok93 : fnOk Try.prog 93 = true := by kernel_rfl
theorem fok81 : fnOk Try.prog 81 = true := by kernel_rfl
theorem fok56 : fnOk Try.prog 56 = true := by kernel_rfl
theorem fok52 : fnOk Try.prog 52 = true := by kernel_rfl
theorem fok53 : fnOk Try.prog 53 = true := by kernel_rfl
theorem fok54 : fnOk Try.prog 54 = true := by kernel_rfl
theorem fok55 : fnOk Try.prog 55 = true := by kernel_rfl
theorem fok84 : fnOk Try.prog 84 = true := by kernel_rfl
theorem fok57 : fnOk Try.prog 57 = true := by kernel_rfl
theorem fok60 : fnOk Try.prog 60 = true := by kernel_rfl
theorem fok61 : fnOk Try.prog 61 = true := by kernel_rfl
theorem fok85 : fnOk Try.prog 85 = true := by kernel_rfl
theorem fok95 : fnOk Try.prog 95 = true := by kernel_rfl
theorem fok21 : fnOk Try.prog 21 = true := by kernel_rfl
theorem fok25 : fnOk Try.prog 25 = true := by kernel_rfl
theorem fok18 : fnOk Try.prog 18 = true := by kernel_rfl
theorem fok17 : fnOk Try.prog 17 = true := by kernel_rfl
end Go.Proofs.Ytaephdjmpmbfpaa
