/- The map of what is known: places as keys, numbers as elements. -/
import Derived.Test.YtaephdjmpmbfpaaD2
import Derived.Maps.Keyed
import Derived.DeepKeys4
set_option linter.all false
namespace Go.Proofs.Ytaephdjmpmbfpaa
open Go.Lf Go.RowKit Go.Hp

theorem keyed88 : Maps.Keyed Try.prog 88 := Maps.Keyed.of_law (deep_law_laid (m := 3) (by kernel_rfl) (by decide) (Nat.le_of_ble_eq_true (n := 89) (by kernel_rfl)) (by kernel_rfl) (by kernel_rfl))

/-- A place: how many rows there are to come, and the last one. -/
abbrev placeV (l : Int) (r : List Int) : Value := .agg (.int .i64 l :: intCells r).toArray

def twoFields (P : Program) (t : TypeId) : Bool := match P.underlying t with
  | some (.struct fs) => (fs.toList.map fun (f : Field) => (f.type, f.offset)) == [(3, 0), (80, 1)] && fs.all fun (f : Field) => f.name != "_"
  | _ => false
theorem check88_true : twoFields Try.prog 88 = true := by kernel_rfl
theorem u80 : Try.prog.underlying 80 = some (.array 4 3) := by kernel_rfl
theorem u3 : Try.prog.underlying 3 = some (.int .i64) := by kernel_rfl
theorem cells88 : Try.prog.cellsOf 88 = 5 := by kernel_rfl
theorem cells80 : Try.prog.cellsOf 80 = 4 := by kernel_rfl
theorem cells3 : Try.prog.cellsOf 3 = 1 := by kernel_rfl

theorem lits3 {n : Int} (d : Nat) (h : -9223372036854775808 ≤ n ∧ n ≤ 9223372036854775807) : Try.prog.keyLits (d + 1) 3 [.int .i64 n] = some [.int .i64 n] := by
  have hw : (Lit.int .i64 n).wf = true := by
    have e1 : IntKind.i64.min = -9223372036854775808 := by decide
    have e2 : IntKind.i64.max = 9223372036854775807 := by decide
    simp [Lit.wf, e1, e2, h]
  unfold Program.keyLits
  simp [u3, hw]

theorem lits80 {a b c e : Int} (d : Nat) (ha : -9223372036854775808 ≤ a ∧ a ≤ 9223372036854775807) (hb : -9223372036854775808 ≤ b ∧ b ≤ 9223372036854775807) (hc : -9223372036854775808 ≤ c ∧ c ≤ 9223372036854775807) (he : -9223372036854775808 ≤ e ∧ e ≤ 9223372036854775807) :
    Try.prog.keyLits (d + 2) 80 [.int .i64 a, .int .i64 b, .int .i64 c, .int .i64 e] = some [.int .i64 a, .int .i64 b, .int .i64 c, .int .i64 e] := by
  unfold Program.keyLits
  have h4 : List.range 4 = [0, 1, 2, 3] := by decide
  simp [u80, cells80, cells3, h4, lits3, ha, hb, hc, he]

theorem key88 {l : Int} {r : List Int} (hr : r.length = 4) (hl : -9223372036854775808 ≤ l ∧ l ≤ 9223372036854775807) (hb : ∀ k, -9223372036854775808 ≤ r.getD k 0 ∧ r.getD k 0 ≤ 9223372036854775807) : ∃ k, keyOf Try.prog 88 (placeV l r) = some k := by
  have hc := check88_true
  unfold twoFields at hc
  split at hc
  case h_2 => cases hc
  rename_i fs hu
  simp only [Bool.and_eq_true, beq_iff_eq] at hc
  obtain ⟨hm, hall⟩ := hc
  obtain ⟨f1, f2, hfs⟩ : ∃ f1 f2, fs.toList = [f1, f2] := by
    have hl := congrArg List.length hm
    simp only [List.length_map, List.length_cons, List.length_nil] at hl
    rcases hq : fs.toList with _ | ⟨f1, _ | ⟨f2, _ | ⟨f3, q⟩⟩⟩ <;> simp [hq] at hl
    exact ⟨f1, f2, rfl⟩
  rw [hfs] at hm
  · simp only [List.map_cons, List.map_nil, List.cons.injEq, Prod.mk.injEq, and_true] at hm
    obtain ⟨⟨e1, e2⟩, e3, e4⟩ := hm
    match r, hr with
    | [a, b, c, d], _ =>
      have h0 := hb 0
      have h1 := hb 1
      have h2 := hb 2
      have h3 := hb 3
      simp at h0 h1 h2 h3
      have hk : Try.prog.keyType 88 = true := by kernel_rfl
      have hf : (placeV l [a, b, c, d]).formed Try.prog 88 = true := by simp [Value.formed, hu, cells88, intCells]
      obtain ⟨N, hN⟩ : ∃ N, Try.prog.types.size + 1 = N + 3 := ⟨Try.prog.types.size - 2, by kernel_rfl⟩
      have hlits : Try.prog.keyLits (N + 3) 88 (placeV l [a, b, c, d]).cells.toList = some [.int .i64 l, .int .i64 a, .int .i64 b, .int .i64 c, .int .i64 d] := by
        unfold Program.keyLits
        simp [hu, cells88, cells80, cells3, hfs, e1, e2, e3, e4, Value.cells, intCells, lits3, lits80, hl, h0, h1, h2, h3, hall]
      simp only [keyOf, hu, hk, hf, Bool.and_self, if_true, hN, hlits, Option.map_some]
      exact ⟨_, rfl⟩

/-- Numbers of a place, none too large. -/
def Fine (l : Int) (r : List Int) : Prop := r.length = 4 ∧ (-100 ≤ l ∧ l ≤ 100) ∧ ∀ k, -100 ≤ r.getD k 0 ∧ r.getD k 0 ≤ 100
theorem Fine.key {l : Int} {r : List Int} (h : Fine l r) : ∃ k, keyOf Try.prog 88 (placeV l r) = some k :=
  key88 h.1 (by have := h.2.1; omega) fun k => by have := h.2.2 k; omega

theorem placeV_inj {l l' : Int} {r r' : List Int} (h : placeV l r = placeV l' r') : l = l' ∧ r = r' := by
  have h0 := congrArg Array.toList (Value.agg.inj h)
  simp only [List.cons.injEq, Value.int.injEq, true_and] at h0
  refine ⟨h0.1, ?_⟩
  have h2 := h0.2
  clear h h0
  induction r generalizing r' with
  | nil => cases r' with
    | nil => rfl
    | cons => simp [intCells] at h2
  | cons x r ih => cases r' with
    | nil => simp [intCells] at h2
    | cons y r' =>
      simp only [intCells, List.map_cons, List.cons.injEq, Value.int.injEq, true_and] at h2
      rw [h2.1, ih h2.2]

/-- Block m is a map in which every place has its number. -/
def MemoAt (w : World) (m : Nat) (f : Int → List Int → Int) : Prop :=
  ∃ es clock, w.heap[m]? = some (.map es clock) ∧ ∀ e ∈ es.toList, ∃ l r, e.key = placeV l r ∧ Fine l r ∧ e.val = .int .i64 (f l r)

theorem MemoAt.chg {S : Nat → Prop} {w w' : World} {m : Nat} {f : Int → List Int → Int} (h : MemoAt w m f) (hc : Chg S w w') (hs : ¬ S m) : MemoAt w' m f :=
  let ⟨es, c, h1, h2⟩ := h; ⟨es, c, hc.at h1 hs, h2⟩
theorem MemoAt.kp {w w' : World} {m : Nat} {f : Int → List Int → Int} (h : MemoAt w m f) (hc : Kp w w') : MemoAt w' m f := h.chg (S := fun _ => False) (Chg.of_kp hc) fun h => h
theorem MemoAt.lt {w : World} {m : Nat} {f : Int → List Int → Int} (h : MemoAt w m f) : m < w.heap.size := let ⟨_, _, h1, _⟩ := h; block_lt h1

theorem u75 : Try.prog.underlying 75 = some (.map 88 3) := by kernel_rfl
theorem zero3 (w : World) : (zeroValue 3).run Try.prog w = .ok (.int .i64 0) w := by kernel_rfl

theorem MemoAt.keys {es : Array MapEntry} {f : Int → List Int → Int} (h : ∀ e ∈ es.toList, ∃ l r, e.key = placeV l r ∧ Fine l r ∧ e.val = .int .i64 (f l r)) : ∀ e ∈ es.toList, ∃ l, keyOf Try.prog 88 e.key = some l := fun e he => by
  obtain ⟨l, r, h1, h2, _⟩ := h e he
  rw [h1]; exact h2.key

set_option maxRecDepth 100000 in
/-- A look into the map. -/
theorem r_look {w : World} {m : Nat} {f : Int → List Int → Int} {l : Int} {r : List Int} {K : Value → World → Prop} (h : MemoAt w m f) (hf : Fine l r) (h1 : K (.tuple #[.int .i64 (f l r), .bool true]) w) (h2 : K (.tuple #[.int .i64 0, .bool false]) w) :
    semW Try.prog (lkS 75 (.map (some m)) (placeV l r) true) w K := by
  obtain ⟨es, c, hb, hes⟩ := h
  obtain ⟨kl, hkey⟩ := hf.key
  rcases keyed88.find w hkey es.toList (MemoAt.keys hes) with ⟨g1, g2⟩ | ⟨j, e0, g1, g2, g3⟩
  · exact semW_of_run (by simp [lkS, Instr.lookup, run_underlying u75, MapKept.run_getObj_map hb, keyed88.check w _ hkey, g1, zero3, Result.andThen]) h2
  · obtain ⟨l', r', e1, e2, e3⟩ := hes e0 (List.mem_of_getElem? g2)
    obtain ⟨rfl, rfl⟩ := placeV_inj (e1.symm.trans g3)
    rw [← e3] at h1
    exact semW_of_run (by simp [lkS, Instr.lookup, run_underlying u75, MapKept.run_getObj_map hb, keyed88.check w _ hkey, g1, Result.andThen]) h1

set_option maxRecDepth 100000 in
/-- A store into the map. -/
theorem r_store {w : World} {m : Nat} {f : Int → List Int → Int} {l : Int} {r : List Int} {K : Value → World → Prop} (h : MemoAt w m f) (hf : Fine l r) (hk : ∀ w', MemoAt w' m f → Chg (fun k => k = m) w w' → w'.heap.size = w.heap.size → K undef w') :
    semW Try.prog (muS 75 (.map (some m)) (placeV l r) (.int .i64 (f l r))) w K := by
  obtain ⟨es, c, hb, hes⟩ := h
  obtain ⟨kl, hkey⟩ := hf.key
  have hset : ∀ o : Obj, Chg (fun k => k = m) w { w with heap := w.heap.setIfInBounds m o } ∧ ({ w with heap := w.heap.setIfInBounds m o } : World).heap.size = w.heap.size ∧ ({ w with heap := w.heap.setIfInBounds m o } : World).heap[m]? = some o := fun o =>
    ⟨⟨rfl, rfl, rfl, by simp, fun i _ hn => by simp [Array.getElem?_setIfInBounds_ne (Ne.symm hn)]⟩, by simp, by simp [Array.getElem?_setIfInBounds_self_of_lt (block_lt hb)]⟩
  rcases keyed88.find w hkey es.toList (MemoAt.keys hes) with ⟨g1, g2⟩ | ⟨j, e0, g1, g2, g3⟩
  · obtain ⟨s1, s2, s3⟩ := hset (.map (es.push ⟨placeV l r, .int .i64 (f l r), c⟩) (c + 1))
    refine semW_of_skip (by simp [muS, Instr.mapUpdate, run_underlying u75, MapKept.run_getObj_map hb, keyed88.check w _ hkey, g1, MapKept.run_setObj_map _ hb, Result.andThen]) (hk _ ⟨_, _, s3, fun e he => ?_⟩ s1 s2)
    simp only [Array.toList_push, List.mem_append, List.mem_singleton] at he
    rcases he with he | rfl
    · exact hes e he
    · exact ⟨l, r, rfl, hf, rfl⟩
  · have hj : es[j]? = some e0 := by simpa using g2
    obtain ⟨s1, s2, s3⟩ := hset (.map (es.modify j fun e => { e with key := placeV l r, val := .int .i64 (f l r) }) c)
    refine semW_of_skip (by simp [muS, Instr.mapUpdate, run_underlying u75, MapKept.run_getObj_map hb, keyed88.check w _ hkey, g1, hj, g3, keyed88.stays w hkey, MapKept.run_setObj_map _ hb, Result.andThen]) (hk _ ⟨_, _, s3, fun e he => ?_⟩ s1 s2)
    rw [Array.toList_modify] at he
    obtain ⟨i, hi, ex⟩ := List.getElem_of_mem he
    have hi' : i < es.toList.length := by simpa using hi
    rw [List.getElem_modify] at ex
    split at ex
    · exact ⟨l, r, by rw [← ex], hf, by rw [← ex]⟩
    · rw [← ex]; exact hes _ (List.getElem_mem hi')

end Go.Proofs.Ytaephdjmpmbfpaa
