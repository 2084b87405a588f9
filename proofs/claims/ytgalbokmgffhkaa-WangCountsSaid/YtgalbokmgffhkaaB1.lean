/- Maps with whole numbers as keys: made, looked up, written, walked through. -/
import Derived.Test.YtgalbokmgffhkaaA5
import Derived.Maps.Keyed
import Derived.Maps.RangeRun
set_option linter.all false
namespace Go.Proofs.Ytgalbokmgffhkaa
open Go.Lf Go.RowKit Go.Wg Go.MapKept Go.ChangeMaps

theorem keyed3 : Maps.Keyed Try.prog 3 := Maps.int_keyed (q := .i64) (by kernel_rfl)
def IKey (k : Int) : Prop := -9223372036854775808 ≤ k ∧ k ≤ 9223372036854775807
theorem IKey.key {k : Int} (h : IKey k) : keyOf Try.prog 3 (.int .i64 k) = some (.int .i64 k) := by
  refine Maps.keyOf_int_mk (by kernel_rfl) ?_
  have e1 : IntKind.i64.min = -9223372036854775808 := by decide
  have e2 : IntKind.i64.max = 9223372036854775807 := by decide
  simpa [IKey, Lit.wf, e1, e2] using h

abbrev iK (k : Int) : Value := .int .i64 k
def upd {α : Type} (f : Int → α) (k : Int) (v : α) : Int → α := fun x => if x = k then v else f x
theorem upd_same {α : Type} (f : Int → α) (k : Int) (v : α) : upd f k v k = v := by simp [upd]
theorem upd_ne {α : Type} {f : Int → α} {k x : Int} {v : α} (h : x ≠ k) : upd f k v x = f x := by simp [upd, h]

/-- The entries of a map that is f, where it is not z. -/
structure EntsOk (es : Array MapEntry) (clock : Nat) (z : Value) (f : Int → Value) : Prop where
  st : Stamped es clock
  val : ∀ e ∈ es.toList, ∃ k, IKey k ∧ e.key = iK k ∧ e.val = f k ∧ f k ≠ z
  all : ∀ k, f k ≠ z → ∃ e ∈ es.toList, e.key = iK k
def MapF (w : World) (b : Nat) (z : Value) (f : Int → Value) : Prop := ∃ es clock, w.heap[b]? = some (.map es clock) ∧ EntsOk es clock z f

theorem MapF.lt {w : World} {b : Nat} {z : Value} {f : Int → Value} (h : MapF w b z f) : b < w.heap.size := let ⟨_, _, h1, _⟩ := h; block_lt h1
theorem MapF.chg {S : Nat → Prop} {w w' : World} {b : Nat} {z : Value} {f : Int → Value} (h : MapF w b z f) (hc : Chg S w w') (hs : ¬ S b) : MapF w' b z f :=
  let ⟨es, c, h1, h2⟩ := h; ⟨es, c, hc.at h1 hs, h2⟩
theorem MapF.kp {w w' : World} {b : Nat} {z : Value} {f : Int → Value} (h : MapF w b z f) (hk : Kp w w') : MapF w' b z f :=
  let ⟨es, c, h1, h2⟩ := h; ⟨es, c, block_below h1 hk, h2⟩
theorem map_new (w : World) (z : Value) : MapF (w.alloc (.map #[] 0)) w.heap.size z (fun _ => z) := ⟨#[], 0, heap_alloc_new w _, ⟨stamped_empty 0, by simp, fun k h => absurd rfl h⟩⟩

theorem EntsOk.keys {es : Array MapEntry} {clock : Nat} {z : Value} {f : Int → Value} (h : EntsOk es clock z f) : ∀ e ∈ es.toList, ∃ l, keyOf Try.prog 3 e.key = some l := fun e he => by
  obtain ⟨k, hk, e1, _, _⟩ := h.val e he
  rw [e1]; exact ⟨_, hk.key⟩
theorem iK_inj {a b : Int} (h : iK a = iK b) : a = b := by injection h

section
variable {t e : TypeId} {z : Value} (ht : Try.prog.underlying t = some (.map 3 e)) (hz : ∀ w, (zeroValue e).run Try.prog w = .ok z w)
include ht hz

set_option maxRecDepth 100000 in
theorem run_lkF {w : World} {b : Nat} {f : Int → Value} {k : Int} (h : MapF w b z f) (hk : IKey k) : (lkS t (.map (some b)) (iK k) false).run Try.prog w = .ok (.value (f k)) w := by
  obtain ⟨es, c, hb, hes⟩ := h
  rcases keyed3.find w hk.key es.toList hes.keys with ⟨g1, g2⟩ | ⟨j, e0, g1, g2, g3⟩
  · have hfz : f k = z := by
      refine Classical.byContradiction fun hne => ?_
      obtain ⟨e0, he, hek⟩ := hes.all k hne
      exact g2 e0 he hek
    simp [lkS, Instr.lookup, run_underlying ht, MapKept.run_getObj_map hb, keyed3.check w _ hk.key, g1, hz, hfz, Result.andThen]
  · obtain ⟨k', _, e1, e2, _⟩ := hes.val e0 (List.mem_of_getElem? g2)
    have : k' = k := iK_inj (e1.symm.trans g3)
    subst this
    simp [lkS, Instr.lookup, run_underlying ht, MapKept.run_getObj_map hb, keyed3.check w _ hk.key, g1, e2, Result.andThen]
theorem r_lkF {w : World} {b : Nat} {f : Int → Value} {k : Int} {K : Value → World → Prop} (h : MapF w b z f) (hk : IKey k) : semW Try.prog (lkS t (.map (some b)) (iK k) false) w K = K (f k) w := by
  have := run_lkF ht hz h hk
  simp only [semW, this]
theorem r_lkG {w : World} {b : Nat} {f : Int → Value} {k : Int} {K : Value → Prop} (h : MapF w b z f) (hk : IKey k) (hK : K (f k)) : genQ Try.prog w (lkS t (.map (some b)) (iK k) false) K :=
  ⟨f k, fun w' hw => run_lkF ht hz (h.kp hw) hk, hK⟩

set_option maxRecDepth 100000 in
theorem r_muF {w : World} {b : Nat} {f : Int → Value} {k : Int} {v : Value} {K : Value → World → Prop} (h : MapF w b z f) (hk : IKey k) (hv : v ≠ z)
    (hK : ∀ w', MapF w' b z (upd f k v) → Chg (fun i => i = b) w w' → w'.heap.size = w.heap.size → K undef w') : semW Try.prog (muS t (.map (some b)) (iK k) v) w K := by
  obtain ⟨es, c, hb, hes⟩ := h
  have hset : ∀ o : Obj, Chg (fun k => k = b) w { w with heap := w.heap.setIfInBounds b o } ∧ ({ w with heap := w.heap.setIfInBounds b o } : World).heap.size = w.heap.size ∧ ({ w with heap := w.heap.setIfInBounds b o } : World).heap[b]? = some o := fun o =>
    ⟨⟨rfl, rfl, rfl, by simp, fun i _ hn => by simp [Array.getElem?_setIfInBounds_ne (Ne.symm hn)]⟩, by simp, by simp [Array.getElem?_setIfInBounds_self_of_lt (block_lt hb)]⟩
  rcases keyed3.find w hk.key es.toList hes.keys with ⟨g1, g2⟩ | ⟨j, e0, g1, g2, g3⟩
  · obtain ⟨s1, s2, s3⟩ := hset (.map (es.push ⟨iK k, v, c⟩) (c + 1))
    refine semW_of_skip (by simp [muS, Instr.mapUpdate, run_underlying ht, MapKept.run_getObj_map hb, keyed3.check w _ hk.key, g1, MapKept.run_setObj_map _ hb, Result.andThen]) (hK _ ⟨_, _, s3, ⟨stamped_push hes.st g2, fun e he => ?_, fun k' hk' => ?_⟩⟩ s1 s2)
    · simp only [Array.toList_push, List.mem_append, List.mem_singleton] at he
      rcases he with he | rfl
      · obtain ⟨k', h1, h2, h3, h4⟩ := hes.val e he
        have hne : k' ≠ k := fun e' => g2 e he (by rw [h2, e'])
        exact ⟨k', h1, h2, by rw [upd_ne hne]; exact h3, by rw [upd_ne hne]; exact h4⟩
      · exact ⟨k, hk, rfl, (upd_same f k v).symm, by rw [upd_same]; exact hv⟩
    · by_cases hkk : k' = k
      · subst hkk
        exact ⟨⟨iK k', v, c⟩, by simp, rfl⟩
      · rw [upd_ne hkk] at hk'
        obtain ⟨e0, he, hek⟩ := hes.all k' hk'
        exact ⟨e0, by simp only [Array.toList_push, List.mem_append]; exact .inl he, hek⟩
  · have hj : es[j]? = some e0 := by simpa using g2
    obtain ⟨s1, s2, s3⟩ := hset (.map (es.modify j fun e => { e with key := iK k, val := v }) c)
    have hmem : ∀ i (hi : i < es.toList.length), ∃ e', (es.modify j fun e => { e with key := iK k, val := v }).toList[i]? = some e' ∧ e'.key = es.toList[i].key ∧ e'.val = if i = j then v else es.toList[i].val := fun i hi => by
      rw [Array.toList_modify, List.getElem?_modify, List.getElem?_eq_getElem hi]
      by_cases hij : j = i
      · subst hij
        refine ⟨_, by simp; rfl, ?_, by simp⟩
        have : es.toList[j] = e0 := (List.getElem?_eq_some_iff.1 g2).2
        simp only [this]
        exact g3.symm
      · refine ⟨es.toList[i], by simp [hij], rfl, by simp [Ne.symm hij]⟩
    refine semW_of_skip (by simp [muS, Instr.mapUpdate, run_underlying ht, MapKept.run_getObj_map hb, keyed3.check w _ hk.key, g1, hj, g3, keyed3.stays w hk.key, MapKept.run_setObj_map _ hb, Result.andThen]) (hK _ ⟨_, _, s3, ⟨?_, fun e he => ?_, fun k' hk' => ?_⟩⟩ s1 s2)
    · refine stamped_modify hes.st j _ (fun _ _ => rfl) fun e _ he => ?_
      have : e = e0 := Option.some.inj (he.symm.trans hj)
      rw [this]; exact g3.symm
    · obtain ⟨i, hi, ex⟩ := List.getElem_of_mem he
      have hi' : i < es.toList.length := by rw [Array.toList_modify, List.length_modify] at hi; exact hi
      obtain ⟨e', q1, q2, q3⟩ := hmem i hi'
      rw [List.getElem?_eq_getElem hi, ex] at q1
      cases q1
      obtain ⟨k', h1, h2, h3, h4⟩ := hes.val es.toList[i] (List.getElem_mem hi')
      by_cases hij : i = j
      · subst hij
        have : es.toList[i] = e0 := (List.getElem?_eq_some_iff.1 g2).2
        rw [if_pos rfl] at q3
        refine ⟨k, hk, by rw [q2, this]; exact g3, by rw [upd_same]; exact q3, by rw [upd_same]; exact hv⟩
      · rw [if_neg hij] at q3
        have hne : k' ≠ k := fun e' => by
          have hp := ((stamped_iff es c).1 hes.st).2.2
          have hjl : j < es.toList.length := (List.getElem?_eq_some_iff.1 g2).1
          have hej : es.toList[j] = e0 := (List.getElem?_eq_some_iff.1 g2).2
          rw [List.pairwise_iff_getElem] at hp
          rcases Nat.lt_or_gt_of_ne hij with hlt | hlt
          · exact hp i j hi' hjl hlt (by rw [h2, hej, g3, e'])
          · exact hp j i hjl hi' hlt (by rw [h2, hej, g3, e'])
        exact ⟨k', h1, by rw [q2, h2], by rw [upd_ne hne, q3, h3], by rw [upd_ne hne]; exact h4⟩
    · have hex : ∃ e1 ∈ es.toList, e1.key = iK k' := by
        by_cases hkk : k' = k
        · subst hkk
          exact ⟨e0, List.mem_of_getElem? g2, g3⟩
        · rw [upd_ne hkk] at hk'
          exact hes.all k' hk'
      obtain ⟨e1, he1, hk1⟩ := hex
      obtain ⟨i, hi, ex⟩ := List.getElem_of_mem he1
      obtain ⟨e', q1, q2, _⟩ := hmem i hi
      exact ⟨e', List.mem_of_getElem? q1, by rw [q2, ex]; exact hk1⟩
end

/-! ### walking through -/

/-- Block r walks through the map b: what it has seen. -/
def IterF (w : World) (b r : Nat) (z : Value) (f : Int → Value) (left : Nat) (seen : Int → Prop) : Prop :=
  ∃ es clock since sn c0, w.heap[b]? = some (.map es clock) ∧ EntsOk es clock z f ∧ w.heap[r]? = some (.mapIter (some b) since sn c0) ∧ (∀ x ∈ es.toList, x.born < since) ∧ since ≤ c0 ∧ since ≤ clock ∧ (leftOf es sn).size = left ∧
    ∀ x ∈ es.toList, sn.contains x.born = true → ∀ k, x.key = iK k → seen k

theorem IterF.chg {S : Nat → Prop} {w w' : World} {b r left : Nat} {z : Value} {f : Int → Value} {seen : Int → Prop} (h : IterF w b r z f left seen) (hc : Chg S w w') (hb : ¬ S b) (hr : ¬ S r) : IterF w' b r z f left seen :=
  let ⟨es, c, s, sn, c0, h1, h2, h3, h4⟩ := h; ⟨es, c, s, sn, c0, hc.at h1 hb, h2, hc.at h3 hr, h4⟩
theorem IterF.map {w : World} {b r left : Nat} {z : Value} {f : Int → Value} {seen : Int → Prop} (h : IterF w b r z f left seen) : MapF w b z f :=
  let ⟨es, c, _, _, _, h1, h2, _⟩ := h; ⟨es, c, h1, h2⟩

set_option maxRecDepth 100000 in
theorem r_rgF {t e : TypeId} {z : Value} (ht : Try.prog.underlying t = some (.map 3 e)) {w : World} {b : Nat} {f : Int → Value} {K : Value → World → Prop} (h : MapF w b z f)
    (hK : ∀ w' left, IterF w' b w.heap.size z f left (fun _ => False) → Kp w w' → K (.pointer (some ⟨w.heap.size, 0, none⟩)) w') : semW Try.prog (rgS t (.map (some b))) w K := by
  have hlt := h.lt
  obtain ⟨es, c, hb, hes⟩ := h
  refine semW_of_run (by simp [rgS, run_range_map w t 3 e b es c ht hb]) (hK _ _ ⟨es, c, c, #[], c, block_below hb (below_alloc _), hes, heap_alloc_new w _, hes.st.1, Nat.le_refl _, Nat.le_refl _, rfl, fun x _ hx => by simp at hx⟩ (below_alloc _))

set_option maxRecDepth 100000 in
/-- The next entry, or none is left. -/
theorem r_nxF {ty : TypeId} {w : World} {b r left : Nat} {z : Value} {f : Int → Value} {seen : Int → Prop} {K : Value → World → Prop} (h : IterF w b r z f left seen)
    (h0 : (∀ k, f k ≠ z → seen k) → K (.tuple #[.bool false]) w)
    (h1 : ∀ k w' left', IKey k → f k ≠ z → left' < left → IterF w' b r z f left' (fun x => seen x ∨ x = k) → Chg (fun i => i = r) w w' → w'.heap.size = w.heap.size →
      (∀ K' : Value → World → Prop, semW Try.prog (enS (.pointer (some ⟨r, 0, none⟩))) w' K' = K' (.tuple #[iK k, f k]) w') → K (.tuple #[.bool true, iK k, f k]) w') :
    semW Try.prog (nxS (.pointer (some ⟨r, 0, none⟩)) false ty) w K := by
  obtain ⟨es, clock, since, sn, c0, hb, hes, hr, hold, hsc, hsk, hl, hseen⟩ := h
  have hne : b ≠ r := fun e => by rw [e, hr] at hb; cases hb
  rcases run_next_at (P := Try.prog) w ty r b since c0 sn es clock hr hb hold hsc with ⟨hz0, hrun⟩ | ⟨e, he, w1, hal, hrun⟩
  · refine semW_of_run (by simp [nxS, hrun]) (h0 fun k hk => ?_)
    obtain ⟨x, hx, hxk⟩ := hes.all k hk
    exact hseen x hx (all_seen es sn hz0 x hx) k hxk
  · obtain ⟨hem, hes'⟩ := mem_left he
    obtain ⟨k, hk, ek, ev, hkz⟩ := hes.val e hem
    have hr1 : w1.heap[r]? = some (.mapIter (some b) since sn c0) := by rcases hal with rfl | rfl <;> exact hr
    have hb1 : w1.heap[b]? = some (.map es clock) := by rcases hal with rfl | rfl <;> exact hb
    have hset := heap_set (o' := .mapIter (some b) since (sn.push e.born) clock) hr1
    have hb' : (setBlock w1 r (.mapIter (some b) since (sn.push e.born) clock)).heap[b]? = some (.map es clock) := (hset.2 b (fun e1 => hne e1)).trans hb1
    rw [ek, ev] at hrun
    have hst := (stamped_iff es clock).1 hes.st
    refine semW_of_run (by simp [nxS, hrun]) (h1 k _ _ hk hkz (by rw [← hl]; exact left_shrinks es sn e he) ⟨es, clock, since, sn.push e.born, clock, hb', hes, hset.1, hold, hsk, hsk, rfl, fun x hx hxs k' hk' => ?_⟩ ?_ ?_ fun K' => ?_)
    · rw [contains_push] at hxs
      cases hc : sn.contains x.born with
      | true => exact .inl (hseen x hx hc k' hk')
      | false =>
        rw [hc, Bool.false_or] at hxs
        have hbe : x.born = e.born := by simpa using hxs
        have : x = e := born_inj hst.2.1 hx hem hbe
        subst this
        exact .inr (iK_inj (hk'.symm.trans ek))
    · rcases hal with rfl | rfl <;> exact ⟨rfl, rfl, rfl, by simp [setBlock], fun i _ hi => hset.2 i (fun e1 => hi e1)⟩
    · rcases hal with rfl | rfl <;> simp [setBlock]
    · have hen := run_entry_at (P := Try.prog) _ r b since sn es clock e hset.1 hb' hem hst.2.1
      rw [ek, ev] at hen
      simp [semW, enS, hen]

/-- How many entries are left to walk through. -/
def leftW (w : World) (b r : Nat) : Nat := match w.heap[b]?, w.heap[r]? with
  | some (.map es _), some (.mapIter _ _ sn _) => (leftOf es sn).size
  | _, _ => 0
theorem IterF.left {w : World} {b r left : Nat} {z : Value} {f : Int → Value} {seen : Int → Prop} (h : IterF w b r z f left seen) : leftW w b r = left := by
  obtain ⟨es, c, s, sn, c0, h1, _, h3, _, _, _, h4, _⟩ := h
  simp only [leftW, h1, h3]
  exact h4

/-- What a look into a map gives while blocks of X turn. -/
theorem r_txG {X : Nat → Prop} {t e : TypeId} {z : Value} (ht : Try.prog.underlying t = some (.map 3 e)) (hz : ∀ w, (zeroValue e).run Try.prog w = .ok z w) {w : World} {b : Nat} {f : Int → Value} {k : Int} {K : Value → Prop} (h : MapF w b z f) (hk : IKey k) (hx : ¬ X b) (hK : K (f k)) :
    takeX X w (fun w k' => genQ Try.prog w (lkS t (.map (some b)) (iK k) false) k') K :=
  ⟨f k, fun w' hw => r_lkG ht hz (let ⟨es, c, h1, h2⟩ := h; ⟨es, c, hw.at h1 hx, h2⟩) hk rfl, hK⟩

end Go.Proofs.Ytgalbokmgffhkaa
