/- Texts of my own, merged by program: B1 Sc B2. -/
import Derived.Test.YtgalbokmgffhkaaN06
import Derived.Maps.Keyed
import Derived.Maps.RangeRun
import Derived.Test.YtgalbokmgffhkaaN03
set_option linter.all false
/- Maps with whole numbers as keys: made, looked up, written, walked through. -/
namespace Go.Proofs.Ytgalbokmgffhkaa
open Go.Lf Go.RowKit Go.Wg Go.MapKept Go.ChangeMaps

theorem keyed3 : Maps.Keyed Try.prog 3 := Maps.int_keyed (q := .i64) (by kernel_rfl)
def IKey (k : Int) : Prop := -9223372036854775808 ≤ k ∧ k ≤ 9223372036854775807
theorem IKey.key {k : Int} (h : IKey k) : keyOf Try.prog 3 (.int .i64 k) = some (.int .i64 k) := by
  refine Maps.keyOf_int_mk (by kernel_rfl) ?_
  have e1 : IntKind.i64.min = -9223372036854775808 := by decide
  have e2 : IntKind.i64.max = 9223372036854775807 := by decide
  simpa [IKey, Lit.wf, e1, e2] using h

abbrev iK (k : Int) : Value := .int .i64 k
def upd {α : Type} (f : Int → α) (k : Int) (v : α) : Int → α := fun x => if x = k then v else f x
theorem upd_same {α : Type} (f : Int → α) (k : Int) (v : α) : upd f k v k = v := by simp [upd]
theorem upd_ne {α : Type} {f : Int → α} {k x : Int} {v : α} (h : x ≠ k) : upd f k v x = f x := by simp [upd, h]

/-- The entries of a map that is f, where it is not z. -/
structure EntsOk (es : Array MapEntry) (clock : Nat) (z : Value) (f : Int → Value) : Prop where
  st : Stamped es clock
  val : ∀ e ∈ es.toList, ∃ k, IKey k ∧ e.key = iK k ∧ e.val = f k ∧ f k ≠ z
  all : ∀ k, f k ≠ z → ∃ e ∈ es.toList, e.key = iK k
def MapF (w : World) (b : Nat) (z : Value) (f : Int → Value) : Prop := ∃ es clock, w.heap[b]? = some (.map es clock) ∧ EntsOk es clock z f

theorem MapF.lt {w : World} {b : Nat} {z : Value} {f : Int → Value} (h : MapF w b z f) : b < w.heap.size := let ⟨_, _, h1, _⟩ := h; block_lt h1
theorem MapF.chg {S : Nat → Prop} {w w' : World} {b : Nat} {z : Value} {f : Int → Value} (h : MapF w b z f) (hc : Chg S w w') (hs : ¬ S b) : MapF w' b z f :=
  let ⟨es, c, h1, h2⟩ := h; ⟨es, c, hc.at h1 hs, h2⟩
theorem MapF.kp {w w' : World} {b : Nat} {z : Value} {f : Int → Value} (h : MapF w b z f) (hk : Kp w w') : MapF w' b z f :=
  let ⟨es, c, h1, h2⟩ := h; ⟨es, c, block_below h1 hk, h2⟩
theorem map_new (w : World) (z : Value) : MapF (w.alloc (.map #[] 0)) w.heap.size z (fun _ => z) := ⟨#[], 0, heap_alloc_new w _, ⟨stamped_empty 0, by simp, fun k h => absurd rfl h⟩⟩

theorem EntsOk.keys {es : Array MapEntry} {clock : Nat} {z : Value} {f : Int → Value} (h : EntsOk es clock z f) : ∀ e ∈ es.toList, ∃ l, keyOf Try.prog 3 e.key = some l := fun e he => by
  obtain ⟨k, hk, e1, _, _⟩ := h.val e he
  rw [e1]; exact ⟨_, hk.key⟩
theorem iK_inj {a b : Int} (h : iK a = iK b) : a = b := by injection h

section
variable {t e : TypeId} {z : Value} (ht : Try.prog.underlying t = some (.map 3 e)) (hz : ∀ w, (zeroValue e).run Try.prog w = .ok z w)
include ht hz

set_option maxRecDepth 100000 in
theorem run_lkF {w : World} {b : Nat} {f : Int → Value} {k : Int} (h : MapF w b z f) (hk : IKey k) : (lkS t (.map (some b)) (iK k) false).run Try.prog w = .ok (.value (f k)) w := by
  obtain ⟨es, c, hb, hes⟩ := h
  rcases keyed3.find w hk.key es.toList hes.keys with ⟨g1, g2⟩ | ⟨j, e0, g1, g2, g3⟩
  · have hfz : f k = z := by
      refine Classical.byContradiction fun hne => ?_
      obtain ⟨e0, he, hek⟩ := hes.all k hne
      exact g2 e0 he hek
    simp [lkS, Instr.lookup, run_underlying ht, MapKept.run_getObj_map hb, keyed3.check w _ hk.key, g1, hz, hfz, Result.andThen]
  · obtain ⟨k', _, e1, e2, _⟩ := hes.val e0 (List.mem_of_getElem? g2)
    have : k' = k := iK_inj (e1.symm.trans g3)
    subst this
    simp [lkS, Instr.lookup, run_underlying ht, MapKept.run_getObj_map hb, keyed3.check w _ hk.key, g1, e2, Result.andThen]
theorem r_lkF {w : World} {b : Nat} {f : Int → Value} {k : Int} {K : Value → World → Prop} (h : MapF w b z f) (hk : IKey k) : semW Try.prog (lkS t (.map (some b)) (iK k) false) w K = K (f k) w := by
  have := run_lkF ht hz h hk
  simp only [semW, this]
theorem r_lkG {w : World} {b : Nat} {f : Int → Value} {k : Int} {K : Value → Prop} (h : MapF w b z f) (hk : IKey k) (hK : K (f k)) : genQ Try.prog w (lkS t (.map (some b)) (iK k) false) K :=
  ⟨f k, fun w' hw => run_lkF ht hz (h.kp hw) hk, hK⟩

set_option maxRecDepth 100000 in
theorem r_muF {w : World} {b : Nat} {f : Int → Value} {k : Int} {v : Value} {K : Value → World → Prop} (h : MapF w b z f) (hk : IKey k) (hv : v ≠ z)
    (hK : ∀ w', MapF w' b z (upd f k v) → Chg (fun i => i = b) w w' → w'.heap.size = w.heap.size → K undef w') : semW Try.prog (muS t (.map (some b)) (iK k) v) w K := by
  obtain ⟨es, c, hb, hes⟩ := h
  have hset : ∀ o : Obj, Chg (fun k => k = b) w { w with heap := w.heap.setIfInBounds b o } ∧ ({ w with heap := w.heap.setIfInBounds b o } : World).heap.size = w.heap.size ∧ ({ w with heap := w.heap.setIfInBounds b o } : World).heap[b]? = some o := fun o =>
    ⟨⟨rfl, rfl, rfl, by simp, fun i _ hn => by simp [Array.getElem?_setIfInBounds_ne (Ne.symm hn)]⟩, by simp, by simp [Array.getElem?_setIfInBounds_self_of_lt (block_lt hb)]⟩
  rcases keyed3.find w hk.key es.toList hes.keys with ⟨g1, g2⟩ | ⟨j, e0, g1, g2, g3⟩
  · obtain ⟨s1, s2, s3⟩ := hset (.map (es.push ⟨iK k, v, c⟩) (c + 1))
    refine semW_of_skip (by simp [muS, Instr.mapUpdate, run_underlying ht, MapKept.run_getObj_map hb, keyed3.check w _ hk.key, g1, MapKept.run_setObj_map _ hb, Result.andThen]) (hK _ ⟨_, _, s3, ⟨stamped_push hes.st g2, fun e he => ?_, fun k' hk' => ?_⟩⟩ s1 s2)
    · simp only [Array.toList_push, List.mem_append, List.mem_singleton] at he
      rcases he with he | rfl
      · obtain ⟨k', h1, h2, h3, h4⟩ := hes.val e he
        have hne : k' ≠ k := fun e' => g2 e he (by rw [h2, e'])
        exact ⟨k', h1, h2, by rw [upd_ne hne]; exact h3, by rw [upd_ne hne]; exact h4⟩
      · exact ⟨k, hk, rfl, (upd_same f k v).symm, by rw [upd_same]; exact hv⟩
    · by_cases hkk : k' = k
      · subst hkk
        exact ⟨⟨iK k', v, c⟩, by simp, rfl⟩
      · rw [upd_ne hkk] at hk'
        obtain ⟨e0, he, hek⟩ := hes.all k' hk'
        exact ⟨e0, by simp only [Array.toList_push, List.mem_append]; exact .inl he, hek⟩
  · have hj : es[j]? = some e0 := by simpa using g2
    obtain ⟨s1, s2, s3⟩ := hset (.map (es.modify j fun e => { e with key := iK k, val := v }) c)
    have hmem : ∀ i (hi : i < es.toList.length), ∃ e', (es.modify j fun e => { e with key := iK k, val := v }).toList[i]? = some e' ∧ e'.key = es.toList[i].key ∧ e'.val = if i = j then v else es.toList[i].val := fun i hi => by
      rw [Array.toList_modify, List.getElem?_modify, List.getElem?_eq_getElem hi]
      by_cases hij : j = i
      · subst hij
        refine ⟨_, by simp; rfl, ?_, by simp⟩
        have : es.toList[j] = e0 := (List.getElem?_eq_some_iff.1 g2).2
        simp only [this]
        exact g3.symm
      · refine ⟨es.toList[i], by simp [hij], rfl, by simp [Ne.symm hij]⟩
    refine semW_of_skip (by simp [muS, Instr.mapUpdate, run_underlying ht, MapKept.run_getObj_map hb, keyed3.check w _ hk.key, g1, hj, g3, keyed3.stays w hk.key, MapKept.run_setObj_map _ hb, Result.andThen]) (hK _ ⟨_, _, s3, ⟨?_, fun e he => ?_, fun k' hk' => ?_⟩⟩ s1 s2)
    · refine stamped_modify hes.st j _ (fun _ _ => rfl) fun e _ he => ?_
      have : e = e0 := Option.some.inj (he.symm.trans hj)
      rw [this]; exact g3.symm
    · obtain ⟨i, hi, ex⟩ := List.getElem_of_mem he
      have hi' : i < es.toList.length := by rw [Array.toList_modify, List.length_modify] at hi; exact hi
      obtain ⟨e', q1, q2, q3⟩ := hmem i hi'
      rw [List.getElem?_eq_getElem hi, ex] at q1
      cases q1
      obtain ⟨k', h1, h2, h3, h4⟩ := hes.val es.toList[i] (List.getElem_mem hi')
      by_cases hij : i = j
      · subst hij
        have : es.toList[i] = e0 := (List.getElem?_eq_some_iff.1 g2).2
        rw [if_pos rfl] at q3
        refine ⟨k, hk, by rw [q2, this]; exact g3, by rw [upd_same]; exact q3, by rw [upd_same]; exact hv⟩
      · rw [if_neg hij] at q3
        have hne : k' ≠ k := fun e' => by
          have hp := ((stamped_iff es c).1 hes.st).2.2
          have hjl : j < es.toList.length := (List.getElem?_eq_some_iff.1 g2).1
          have hej : es.toList[j] = e0 := (List.getElem?_eq_some_iff.1 g2).2
          rw [List.pairwise_iff_getElem] at hp
          rcases Nat.lt_or_gt_of_ne hij with hlt | hlt
          · exact hp i j hi' hjl hlt (by rw [h2, hej, g3, e'])
          · exact hp j i hjl hi' hlt (by rw [h2, hej, g3, e'])
        exact ⟨k', h1, by rw [q2, h2], by rw [upd_ne hne, q3, h3], by rw [upd_ne hne]; exact h4⟩
    · have hex : ∃ e1 ∈ es.toList, e1.key = iK k' := by
        by_cases hkk : k' = k
        · subst hkk
          exact ⟨e0, List.mem_of_getElem? g2, g3⟩
        · rw [upd_ne hkk] at hk'
          exact hes.all k' hk'
      obtain ⟨e1, he1, hk1⟩ := hex
      obtain ⟨i, hi, ex⟩ := List.getElem_of_mem he1
      obtain ⟨e', q1, q2, _⟩ := hmem i hi
      exact ⟨e', List.mem_of_getElem? q1, by rw [q2, ex]; exact hk1⟩
end

/-! ### walking through -/

/-- Block r walks through the map b: what it has seen. -/
def IterF (w : World) (b r : Nat) (z : Value) (f : Int → Value) (left : Nat) (seen : Int → Prop) : Prop :=
  ∃ es clock since sn c0, w.heap[b]? = some (.map es clock) ∧ EntsOk es clock z f ∧ w.heap[r]? = some (.mapIter (some b) since sn c0) ∧ (∀ x ∈ es.toList, x.born < since) ∧ since ≤ c0 ∧ since ≤ clock ∧ (leftOf es sn).size = left ∧
    ∀ x ∈ es.toList, sn.contains x.born = true → ∀ k, x.key = iK k → seen k

theorem IterF.chg {S : Nat → Prop} {w w' : World} {b r left : Nat} {z : Value} {f : Int → Value} {seen : Int → Prop} (h : IterF w b r z f left seen) (hc : Chg S w w') (hb : ¬ S b) (hr : ¬ S r) : IterF w' b r z f left seen :=
  let ⟨es, c, s, sn, c0, h1, h2, h3, h4⟩ := h; ⟨es, c, s, sn, c0, hc.at h1 hb, h2, hc.at h3 hr, h4⟩
theorem IterF.map {w : World} {b r left : Nat} {z : Value} {f : Int → Value} {seen : Int → Prop} (h : IterF w b r z f left seen) : MapF w b z f :=
  let ⟨es, c, _, _, _, h1, h2, _⟩ := h; ⟨es, c, h1, h2⟩

set_option maxRecDepth 100000 in
theorem r_rgF {t e : TypeId} {z : Value} (ht : Try.prog.underlying t = some (.map 3 e)) {w : World} {b : Nat} {f : Int → Value} {K : Value → World → Prop} (h : MapF w b z f)
    (hK : ∀ w' left, IterF w' b w.heap.size z f left (fun _ => False) → Kp w w' → K (.pointer (some ⟨w.heap.size, 0, none⟩)) w') : semW Try.prog (rgS t (.map (some b))) w K := by
  have hlt := h.lt
  obtain ⟨es, c, hb, hes⟩ := h
  refine semW_of_run (by simp [rgS, run_range_map w t 3 e b es c ht hb]) (hK _ _ ⟨es, c, c, #[], c, block_below hb (below_alloc _), hes, heap_alloc_new w _, hes.st.1, Nat.le_refl _, Nat.le_refl _, rfl, fun x _ hx => by simp at hx⟩ (below_alloc _))

set_option maxRecDepth 100000 in
/-- The next entry, or none is left. -/
theorem r_nxF {ty : TypeId} {w : World} {b r left : Nat} {z : Value} {f : Int → Value} {seen : Int → Prop} {K : Value → World → Prop} (h : IterF w b r z f left seen)
    (h0 : (∀ k, f k ≠ z → seen k) → K (.tuple #[.bool false]) w)
    (h1 : ∀ k w' left', IKey k → f k ≠ z → left' < left → IterF w' b r z f left' (fun x => seen x ∨ x = k) → Chg (fun i => i = r) w w' → w'.heap.size = w.heap.size →
      (∀ K' : Value → World → Prop, semW Try.prog (enS (.pointer (some ⟨r, 0, none⟩))) w' K' = K' (.tuple #[iK k, f k]) w') → K (.tuple #[.bool true, iK k, f k]) w') :
    semW Try.prog (nxS (.pointer (some ⟨r, 0, none⟩)) false ty) w K := by
  obtain ⟨es, clock, since, sn, c0, hb, hes, hr, hold, hsc, hsk, hl, hseen⟩ := h
  have hne : b ≠ r := fun e => by rw [e, hr] at hb; cases hb
  rcases run_next_at (P := Try.prog) w ty r b since c0 sn es clock hr hb hold hsc with ⟨hz0, hrun⟩ | ⟨e, he, w1, hal, hrun⟩
  · refine semW_of_run (by simp [nxS, hrun]) (h0 fun k hk => ?_)
    obtain ⟨x, hx, hxk⟩ := hes.all k hk
    exact hseen x hx (all_seen es sn hz0 x hx) k hxk
  · obtain ⟨hem, hes'⟩ := mem_left he
    obtain ⟨k, hk, ek, ev, hkz⟩ := hes.val e hem
    have hr1 : w1.heap[r]? = some (.mapIter (some b) since sn c0) := by rcases hal with rfl | rfl <;> exact hr
    have hb1 : w1.heap[b]? = some (.map es clock) := by rcases hal with rfl | rfl <;> exact hb
    have hset := heap_set (o' := .mapIter (some b) since (sn.push e.born) clock) hr1
    have hb' : (setBlock w1 r (.mapIter (some b) since (sn.push e.born) clock)).heap[b]? = some (.map es clock) := (hset.2 b (fun e1 => hne e1)).trans hb1
    rw [ek, ev] at hrun
    have hst := (stamped_iff es clock).1 hes.st
    refine semW_of_run (by simp [nxS, hrun]) (h1 k _ _ hk hkz (by rw [← hl]; exact left_shrinks es sn e he) ⟨es, clock, since, sn.push e.born, clock, hb', hes, hset.1, hold, hsk, hsk, rfl, fun x hx hxs k' hk' => ?_⟩ ?_ ?_ fun K' => ?_)
    · rw [contains_push] at hxs
      cases hc : sn.contains x.born with
      | true => exact .inl (hseen x hx hc k' hk')
      | false =>
        rw [hc, Bool.false_or] at hxs
        have hbe : x.born = e.born := by simpa using hxs
        have : x = e := born_inj hst.2.1 hx hem hbe
        subst this
        exact .inr (iK_inj (hk'.symm.trans ek))
    · rcases hal with rfl | rfl <;> exact ⟨rfl, rfl, rfl, by simp [setBlock], fun i _ hi => hset.2 i (fun e1 => hi e1)⟩
    · rcases hal with rfl | rfl <;> simp [setBlock]
    · have hen := run_entry_at (P := Try.prog) _ r b since sn es clock e hset.1 hb' hem hst.2.1
      rw [ek, ev] at hen
      simp [semW, enS, hen]

/-- How many entries are left to walk through. -/
def leftW (w : World) (b r : Nat) : Nat := match w.heap[b]?, w.heap[r]? with
  | some (.map es _), some (.mapIter _ _ sn _) => (leftOf es sn).size
  | _, _ => 0
theorem IterF.left {w : World} {b r left : Nat} {z : Value} {f : Int → Value} {seen : Int → Prop} (h : IterF w b r z f left seen) : leftW w b r = left := by
  obtain ⟨es, c, s, sn, c0, h1, _, h3, _, _, _, h4, _⟩ := h
  simp only [leftW, h1, h3]
  exact h4

/-- What a look into a map gives while blocks of X turn. -/
theorem r_txG {X : Nat → Prop} {t e : TypeId} {z : Value} (ht : Try.prog.underlying t = some (.map 3 e)) (hz : ∀ w, (zeroValue e).run Try.prog w = .ok z w) {w : World} {b : Nat} {f : Int → Value} {k : Int} {K : Value → Prop} (h : MapF w b z f) (hk : IKey k) (hx : ¬ X b) (hK : K (f k)) :
    takeX X w (fun w k' => genQ Try.prog w (lkS t (.map (some b)) (iK k) false) k') K :=
  ⟨f k, fun w' hw => r_lkG ht hz (let ⟨es, c, h1, h2⟩ := h; ⟨es, c, hw.at h1 hx, h2⟩) hk rfl, hK⟩

end Go.Proofs.Ytgalbokmgffhkaa

/- Lifted texts, printed by program (gen.py): what each function's code asks. The ties are by the kernel. -/
namespace Go.Proofs.Ytgalbokmgffhkaa
open Go.Lf Go.RowKit

def S19 (t0 t1 t2 t3 : Value) (w : World) (R : Ending → World → Prop) : Prop :=
  callW Try.prog (.func (.func 53) #[] #[]) [t0, t1, t2] w fun t24 w =>
  binQ Try.prog w .neq 26 true t24 (.int .i64 0) fun t26 =>
  condW t26 (
    R (.returned (.tuple #[(.bool false), t24])) w
  ) (
    ln1 t3 fun t29 =>
    binQ Try.prog w .gtr 3 true t29 (.int .i64 65535) fun t30 =>
    condW t30 (
      R (.returned (.tuple #[(.bool false), (.int .i64 3)])) w
    ) (
      mmW w fun t31 w =>
      boxW 68 (.map none) w fun t11 w =>
      stW Try.prog 68 t11 t31 w fun w =>
      ln1 t3 fun t33 =>
      Loop1 (.int .i64 0) w fun _ t34 w next =>
        binQ Try.prog w .lss 3 false t34 t33 fun t35 =>
        condW t35 (
          iaS 1 t3 t34 fun t37 =>
          ld1 w t37 fun t38 =>
          ln1 t38 fun t40 =>
          binQ Try.prog w .add 3 true t1 (.int .i64 1) fun t42 =>
          binQ Try.prog w .neq 3 false t40 t42 fun t43 =>
          gd t43 false (fun k => k t38 w) w fun t45 w =>
          gd t43 false (fun k => iaS 1 t45 (.int .i64 0) fun v => k v w) w fun t46 w =>
          gd t43 false (fun k => ld1 w t46 fun v => k v w) w fun t47 w =>
          gd t43 false (fun k => binQ Try.prog w .lss 3 true t47 (.int .i64 1) fun v => k v w) w fun t48 w =>
          pickQ t43 (.bool true) t48 fun t49 =>
          gd t49 false (fun k => k t38 w) w fun t51 w =>
          gd t49 false (fun k => iaS 1 t51 (.int .i64 0) fun v => k v w) w fun t52 w =>
          gd t49 false (fun k => ld1 w t52 fun v => k v w) w fun t53 w =>
          gd t49 false (fun k => k t2 w) w fun t54 w =>
          gd t49 false (fun k => binQ Try.prog w .geq 3 false t53 t54 fun v => k v w) w fun t55 w =>
          pickQ t49 (.bool true) t55 fun t56 =>
          gd t56 false (fun k => k t38 w) w fun t58 w =>
          gd t56 false (fun k => slS 1 t58 (some (.int .i64 1)) none fun v => k v w) w fun t59 w =>
          gd t56 false (fun k => callW Try.prog (.func (.func 54) #[] #[]) [t59, (.func (.func 55) #[] #[])] w k) w fun t60 w =>
          pickQ t56 (.bool true) t60 fun t61 =>
          gd t61 false (fun k => k t34 w) w fun t63 w =>
          gd t61 false (fun k => binQ Try.prog w .gtr 3 true t63 (.int .i64 0) fun v => k v w) w fun t64 w =>
          gd t61 false (fun k => k t64 w) w fun t65 w =>
          gd t65 true (fun k => k t3 w) w fun t66 w =>
          gd t65 true (fun k => k t34 w) w fun t67 w =>
          gd t65 true (fun k => binQ Try.prog w .sub 3 true t67 (.int .i64 1) fun v => k v w) w fun t68 w =>
          gd t65 true (fun k => iaS 1 t66 t68 fun v => k v w) w fun t69 w =>
          gd t65 true (fun k => ld1 w t69 fun v => k v w) w fun t70 w =>
          gd t65 true (fun k => k t38 w) w fun t71 w =>
          gd t65 true (fun k => callW Try.prog (.func (.func 57) #[] #[]) [t70, t71] w k) w fun t72 w =>
          gd t65 true (fun k => binQ Try.prog w .geq 3 true t72 (.int .i64 0) fun v => k v w) w fun t73 w =>
          gd t61 false (fun k => pickQ t65 t73 (.bool false) fun v => k v w) w fun t74 w =>
          pickQ t61 (.bool true) t74 fun t75 =>
          condW t75 (
            R (.returned (.tuple #[(.bool false), (.int .i64 0)])) w
          ) (
            slS 1 t38 (some (.int .i64 1)) none fun t77 =>
            callW Try.prog (.func (.func 58) #[] #[]) [t77] w fun t78 w =>
            ld1 w t11 fun t79 =>
            semW Try.prog (lkS 68 t79 t78 false) w fun t81 w =>
            binQ Try.prog w .eql 3 true t81 (.int .i64 0) fun t82 =>
            Join (fun (k_2 : World → Prop) =>
              condW t82 (
                Drew w fun w =>
                ld1 w t11 fun t83 =>
                iaS 1 t38 (.int .i64 0) fun t86 =>
                ld1 w t86 fun t87 =>
                semW Try.prog (muS 68 t83 t78 t87) w fun _ w =>
                k_2 w
              ) (
                k_2 w
              )
            ) fun w =>
            binQ Try.prog w .add 3 true t34 (.int .i64 1) fun t88_2 =>
            next t88_2 w
          )
        ) (
          callW Try.prog (.func (.func 59) #[] #[]) [t0, t1] w fun t91 w =>
          mmW w fun t92 w =>
          ln1 t91 fun t94 =>
          Loop1 (.int .i64 0) w fun _ t95 w next_2 =>
            binQ Try.prog w .lss 3 false t95 t94 fun t96 =>
            condW t96 (
              iaS 7 t91 t95 fun t97 =>
              ldN 7 w t97 fun t98 =>
              boxW 78 (.agg #[(.int .i64 0), (.int .i64 0), (.int .i64 0), (.int .i64 0), (.int .i64 0), (.int .i64 0), (.bool false)]) w fun t18 w =>
              stW Try.prog 78 t18 t98 w fun w =>
              ld1 w t11 fun t99 =>
              fa1 t18 5 fun t100 =>
              ld1 w t100 fun t101 =>
              semW Try.prog (lkS 68 t99 t101 false) w fun t102 w =>
              binQ Try.prog w .eql 3 true t102 (.int .i64 0) fun t103 =>
              condW t103 (
                R (.returned (.tuple #[(.bool false), (.int .i64 0)])) w
              ) (
                Drew w fun w =>
                ∃ X : Nat → Prop,
                takeX X w (fun w k => k t92) fun t104 =>
                takeX X w (fun w k => fa1 t18 4 k) fun t105 =>
                takeX X w (fun w k => ld1 w t105 k) fun t106 =>
                takeX X w (fun w k => k t92) fun t107 =>
                takeX X w (fun w k => fa1 t18 4 k) fun t108 =>
                takeX X w (fun w k => ld1 w t108 k) fun t109 =>
                takeX X w (fun w k => genQ Try.prog w (lkS 75 t107 t109 false) k) fun t110 =>
                takeX X w (fun w k => fa1 t18 5 k) fun t111 =>
                takeX X w (fun w k => ld1 w t111 k) fun t112 =>
                bsW Try.prog 30 1 [(0, t112)] w <| keepX X w fun t113 w =>
                semW Try.prog (apS [30, 30] 30 [t110, t113]) w <| keepX X w fun t114 w =>
                semW Try.prog (muS 75 t104 t106 t114) w fun _ w =>
                binQ Try.prog w .add 3 true t95 (.int .i64 1) fun t115 =>
                next_2 t115 w
              )
            ) (
              ld1 w t11 fun t116 =>
              semW Try.prog (rgS 68 t116) w fun t117 w =>
              Loop0 w fun _ w next_3 =>
                semW Try.prog (nxS t117 false 0) w fun t118 w =>
                exQ t118 0 fun t119 =>
                condW t119 (
                  semW Try.prog (enS t117) w fun t120 w =>
                  exQ t120 0 fun t121 =>
                  exQ t120 1 fun t122 =>
                  boxW 3 (.int .i64 0) w fun t20 w =>
                  stW Try.prog 3 t20 t122 w fun w =>
                  semW Try.prog (lkS 75 t92 t121 false) w fun t125 w =>
                  callW Try.prog (.func (.func 54) #[] #[]) [t125, (.func (.func 60) #[] #[t11, t20])] w fun t127 w =>
                  condW t127 (
                    R (.returned (.tuple #[(.bool false), (.int .i64 0)])) w
                  ) (
                    next_3 w
                  )
                ) (
                  R (.returned (.tuple #[(.bool true), (.int .i64 0)])) w
                )
            )
        )
    )
  )

def A19 : Ann where
  live := fun
    | 0 => [34]
    | 2 => [95]
    | 4 => []
    | _ => []
  wr := fun
    | 0 => fun i => (Nat.ble 8 i && Nat.ble i 9) || (Nat.ble 12 i && Nat.ble i 14) || (Nat.ble 34 i && Nat.ble i 88)
    | 2 => fun i => (Nat.ble 8 i && Nat.ble i 9) || Nat.beq i 18 || (Nat.ble 95 i && Nat.ble i 115)
    | 4 => fun i => (Nat.ble 8 i && Nat.ble i 9) || (Nat.ble 19 i && Nat.ble i 20) || (Nat.ble 118 i && Nat.ble i 127)
    | _ => fun _ => false
  sched := fun
    | 14 => (.take 0 (.take 1 (.take 2 (.take 3 (.take 4 (.bar 5 .done))))))
    | 23 => (.cls (.take 0 (.take 1 (.take 2 (.take 3 (.take 4 (.take 5 (.take 6 (.take 7 (.take 8 (.eff 9 (.eff 10 (.bar 11 .done)))))))))))))
    | _ => .done

set_option maxRecDepth 100000 in
theorem ok19 : (codeOk Try.f19.ntmps A19 (Try.f19.body.getD .skip) 0 && Nat.ble 4 Try.f19.ntmps) = true := by kernel_rfl
set_option maxRecDepth 100000 in
theorem lift19 {t0 t1 t2 t3 : Value} {w : World} {R : Ending → World → Prop} (h : S19 t0 t1 t2 t3 w R) : Calls Try.prog 19 #[t0, t1, t2, t3] w R :=
  calls_of_cw (fn := Try.f19) (c := Try.f19.body.getD .skip) A19 mixes Try.func19 (by kernel_rfl) ok19
    ((by kernel_rfl : (S19 t0 t1 t2 t3 w R) = cw Try.prog A19 (Try.f19.body.getD .skip) 0 (bodyQ Try.prog Try.f19 R) (frOf #[t0, t1, t2, t3]) w).mp h)

def S60 (t0 t1 t2 : Value) (w : World) (R : Ending → World → Prop) : Prop :=
  ld1 w t1 fun t5 =>
  semW Try.prog (lkS 68 t5 t0 false) w fun t7 w =>
  ld1 w t2 fun t8 =>
  binQ Try.prog w .geq 3 false t7 t8 fun t9 =>
  R (.returned t9) w

def A60 : Ann where
  live := fun _ => []
  wr := fun _ _ => false
  sched := fun _ => .done

set_option maxRecDepth 100000 in
theorem ok60 : (codeOk Try.f60.ntmps A60 (Try.f60.body.getD .skip) 0 && Nat.ble 3 Try.f60.ntmps) = true := by kernel_rfl
set_option maxRecDepth 100000 in
theorem lift60 {t0 t1 t2 : Value} {w : World} {R : Ending → World → Prop} (h : S60 t0 t1 t2 w R) : Calls Try.prog 60 #[t0, t1, t2] w R :=
  calls_of_cw (fn := Try.f60) (c := Try.f60.body.getD .skip) A60 mixes Try.func60 (by kernel_rfl) ok60
    ((by kernel_rfl : (S60 t0 t1 t2 w R) = cw Try.prog A60 (Try.f60.body.getD .skip) 0 (bodyQ Try.prog Try.f60 R) (frOf #[t0, t1, t2]) w).mp h)

def S83 (t0 t1 : Value) (w : World) (R : Ending → World → Prop) : Prop :=
  mkW Try.prog 30 t1 t1 w fun t8 w =>
  binQ Try.prog w .sub 3 true t1 (.int .i64 1) fun t10 =>
  Loop2 t0 t10 w fun _ t0_2 t6 w next =>
    binQ Try.prog w .geq 3 true t6 (.int .i64 0) fun t12 =>
    condW t12 (
      binQ Try.prog w .rem 3 true t0_2 (.int .i64 8) fun t18 =>
      iaS 1 t8 t6 fun t19 =>
      stW Try.prog 3 t19 t18 w fun w =>
      binQ Try.prog w .quo 3 true t0_2 (.int .i64 8) fun t21 =>
      binQ Try.prog w .sub 3 true t6 (.int .i64 1) fun t14 =>
      next t21 t14 w
    ) (
      R (.returned t8) w
    )

def A83 : Ann where
  live := fun
    | 0 => [0, 6]
    | _ => []
  wr := fun
    | 0 => fun i => Nat.beq i 0 || Nat.beq i 6 || (Nat.ble 11 i && Nat.ble i 21)
    | _ => fun _ => false
  sched := fun _ => .done

set_option maxRecDepth 100000 in
theorem ok83 : (codeOk Try.f83.ntmps A83 (Try.f83.body.getD .skip) 0 && Nat.ble 2 Try.f83.ntmps) = true := by kernel_rfl
set_option maxRecDepth 100000 in
theorem lift83 {t0 t1 : Value} {w : World} {R : Ending → World → Prop} (h : S83 t0 t1 w R) : Calls Try.prog 83 #[t0, t1] w R :=
  calls_of_cw (fn := Try.f83) (c := Try.f83.body.getD .skip) A83 mixes Try.func83 (by kernel_rfl) ok83
    ((by kernel_rfl : (S83 t0 t1 w R) = cw Try.prog A83 (Try.f83.body.getD .skip) 0 (bodyQ Try.prog Try.f83 R) (frOf #[t0, t1]) w).mp h)

def S81 (t0 t1 : Value) (w : World) (R : Ending → World → Prop) : Prop :=
  callW Try.prog (.func (.func 108) #[] #[]) [t0, t1] w fun t7 w =>
  binQ Try.prog w .geq 3 true t7 (.int .i64 0) fun t8 =>
  R (.returned t8) w

def A81 : Ann where
  live := fun _ => []
  wr := fun _ _ => false
  sched := fun _ => .done

set_option maxRecDepth 100000 in
theorem ok81 : (codeOk Try.f81.ntmps A81 (Try.f81.body.getD .skip) 0 && Nat.ble 2 Try.f81.ntmps) = true := by kernel_rfl
set_option maxRecDepth 100000 in
theorem lift81 {t0 t1 : Value} {w : World} {R : Ending → World → Prop} (h : S81 t0 t1 w R) : Calls Try.prog 81 #[t0, t1] w R :=
  calls_of_cw (fn := Try.f81) (c := Try.f81.body.getD .skip) A81 mixes Try.func81 (by kernel_rfl) ok81
    ((by kernel_rfl : (S81 t0 t1 w R) = cw Try.prog A81 (Try.f81.body.getD .skip) 0 (bodyQ Try.prog Try.f81 R) (frOf #[t0, t1]) w).mp h)

def S108 (t0 t1 : Value) (w : World) (R : Ending → World → Prop) : Prop :=
  ln1 t0 fun t7 =>
  Loop1 (.int .i64 0) w fun _ t8 w next =>
    binQ Try.prog w .lss 3 false t8 t7 fun t9 =>
    condW t9 (
      iaS 1 t0 t8 fun t14 =>
      ld1 w t14 fun t15 =>
      binQ Try.prog w .eql 4 false t1 t15 fun t16 =>
      condW t16 (
        R (.returned t8) w
      ) (
        binQ Try.prog w .add 3 true t8 (.int .i64 1) fun t18 =>
        next t18 w
      )
    ) (
      R (.returned (.int .i64 (-1))) w
    )

def A108 : Ann where
  live := fun
    | 0 => [8]
    | _ => []
  wr := fun
    | 0 => fun i => (Nat.ble 4 i && Nat.ble i 5) || (Nat.ble 8 i && Nat.ble i 18)
    | _ => fun _ => false
  sched := fun _ => .done

set_option maxRecDepth 100000 in
theorem ok108 : (codeOk Try.f108.ntmps A108 (Try.f108.body.getD .skip) 0 && Nat.ble 2 Try.f108.ntmps) = true := by kernel_rfl
set_option maxRecDepth 100000 in
theorem lift108 {t0 t1 : Value} {w : World} {R : Ending → World → Prop} (h : S108 t0 t1 w R) : Calls Try.prog 108 #[t0, t1] w R :=
  calls_of_cw (fn := Try.f108) (c := Try.f108.body.getD .skip) A108 mixes Try.func108 (by kernel_rfl) ok108
    ((by kernel_rfl : (S108 t0 t1 w R) = cw Try.prog A108 (Try.f108.body.getD .skip) 0 (bodyQ Try.prog Try.f108 R) (frOf #[t0, t1]) w).mp h)

def S32 (t0 t1 t2 : Value) (w : World) (R : Ending → World → Prop) : Prop :=
  boxW 3 t1 w fun t4 w =>
  ld1 w t4 fun t20 =>
  callW Try.prog (.func (.func 53) #[] #[]) [t0, t20, t2] w fun t22 w =>
  binQ Try.prog w .neq 26 true t22 (.int .i64 0) fun t24 =>
  condW t24 (
    R (.returned (.tuple #[(.slice none 0 0), t22])) w
  ) (
    ld1 w t4 fun t27 =>
    callW Try.prog (.func (.func 59) #[] #[]) [t0, t27] w fun t28 w =>
    ld1 w t4 fun t30 =>
    callW Try.prog (.func (.func 76) #[] #[]) [t28, t30, t2] w fun t32 w =>
    boxW 88 (.slice none 0 0) w fun t10 w =>
    stW Try.prog 88 t10 t32 w fun w =>
    ld1 w t10 fun t33 =>
    iaS 1 t33 t2 fun t35 =>
    ld1 w t35 fun t36 =>
    callW Try.prog (.func (.func 81) #[] #[]) [t36, (.bool true)] w fun t37 w =>
    condW t37 (
      R (.returned (.tuple #[(.slice none 0 0), (.int .i64 10)])) w
    ) (
      boxW 23 (.slice none 0 0) w fun t11 w =>
      mmW w fun t38 w =>
      boxW 75 (.map none) w fun t12 w =>
      stW Try.prog 75 t12 t38 w fun w =>
      ln1 t28 fun t40 =>
      Loop1 (.int .i64 0) w fun _ t41 w next =>
        binQ Try.prog w .lss 3 false t41 t40 fun t42 =>
        condW t42 (
          iaS 7 t28 t41 fun t43 =>
          ldN 7 w t43 fun t44 =>
          boxW 78 (.agg #[(.int .i64 0), (.int .i64 0), (.int .i64 0), (.int .i64 0), (.int .i64 0), (.int .i64 0), (.bool false)]) w fun t14 w =>
          stW Try.prog 78 t14 t44 w fun w =>
          Drew w fun w =>
          ∃ X : Nat → Prop,
          takeX X w (fun w k => ld1 w t12 k) fun t45 =>
          takeX X w (fun w k => fa1 t14 4 k) fun t46 =>
          takeX X w (fun w k => ld1 w t46 k) fun t47 =>
          takeX X w (fun w k => ld1 w t12 k) fun t48 =>
          takeX X w (fun w k => fa1 t14 4 k) fun t49 =>
          takeX X w (fun w k => ld1 w t49 k) fun t50 =>
          takeX X w (fun w k => genQ Try.prog w (lkS 75 t48 t50 false) k) fun t51 =>
          takeX X w (fun w k => fa1 t14 5 k) fun t52 =>
          takeX X w (fun w k => ld1 w t52 k) fun t53 =>
          bsW Try.prog 30 1 [(0, t53)] w <| keepX X w fun t54 w =>
          semW Try.prog (apS [30, 30] 30 [t51, t54]) w <| keepX X w fun t55 w =>
          semW Try.prog (muS 75 t45 t47 t55) w fun _ w =>
          binQ Try.prog w .add 3 true t41 (.int .i64 1) fun t56 =>
          next t56 w
        ) (
          ld1 w t4 fun t57 =>
          callW Try.prog (.func (.func 73) #[] #[]) [t57] w fun t58 w =>
          mkW Try.prog 91 t58 t58 w fun t59 w =>
          boxW 91 (.slice none 0 0) w fun t15 w =>
          stW Try.prog 91 t15 t59 w fun w =>
          boxW 96 .nilFunc w fun t16 w =>
          stW Try.prog 96 t16 (.func (.func 82) #[] #[t15, t10, t11, t4, t12, t16]) w fun w =>
          ln1 t28 fun t62 =>
          Loop1 (.int .i64 0) w fun _ t63 w next_2 =>
            binQ Try.prog w .lss 3 false t63 t62 fun t64 =>
            condW t64 (
              iaS 7 t28 t63 fun t65 =>
              ldN 7 w t65 fun t66 =>
              boxW 78 (.agg #[(.int .i64 0), (.int .i64 0), (.int .i64 0), (.int .i64 0), (.int .i64 0), (.int .i64 0), (.bool false)]) w fun t18 w =>
              stW Try.prog 78 t18 t66 w fun w =>
              ld1 w t16 fun t67 =>
              fa1 t18 5 fun t68 =>
              ld1 w t68 fun t69 =>
              callW Try.prog t67 [t69] w fun t70 w =>
              binQ Try.prog w .add 3 true t63 (.int .i64 1) fun t71 =>
              next_2 t71 w
            ) (
              ld1 w t11 fun t72 =>
              callW Try.prog (.func (.func 84) #[] #[]) [t72, (.func (.func 85) #[] #[])] w fun t73 w =>
              ld1 w t11 fun t74 =>
              R (.returned (.tuple #[t74, (.int .i64 0)])) w
            )
        )
    )
  )

def A32 : Ann where
  live := fun
    | 0 => [41]
    | 2 => [63]
    | _ => []
  wr := fun
    | 0 => fun i => Nat.beq i 14 || (Nat.ble 41 i && Nat.ble i 56)
    | 2 => fun i => Nat.beq i 18 || (Nat.ble 63 i && Nat.ble i 71)
    | _ => fun _ => false
  sched := fun
    | 13 => (.cls (.take 0 (.take 1 (.take 2 (.take 3 (.take 4 (.take 5 (.take 6 (.take 7 (.take 8 (.eff 9 (.eff 10 (.bar 11 .done)))))))))))))
    | _ => .done

set_option maxRecDepth 100000 in
theorem ok32 : (codeOk Try.f32.ntmps A32 (Try.f32.body.getD .skip) 0 && Nat.ble 3 Try.f32.ntmps) = true := by kernel_rfl
set_option maxRecDepth 100000 in
theorem lift32 {t0 t1 t2 : Value} {w : World} {R : Ending → World → Prop} (h : S32 t0 t1 t2 w R) : Calls Try.prog 32 #[t0, t1, t2] w R :=
  calls_of_cw (fn := Try.f32) (c := Try.f32.body.getD .skip) A32 mixes Try.func32 (by kernel_rfl) ok32
    ((by kernel_rfl : (S32 t0 t1 t2 w R) = cw Try.prog A32 (Try.f32.body.getD .skip) 0 (bodyQ Try.prog Try.f32 R) (frOf #[t0, t1, t2]) w).mp h)

def S82 (t0 t1 t2 t3 t4 t5 t6 : Value) (w : World) (R : Ending → World → Prop) : Prop :=
  ld1 w t1 fun t11 =>
  iaS 1 t11 t0 fun t13 =>
  ld1 w t13 fun t14 =>
  condW t14 (
    R (.returned (.tuple #[])) w
  ) (
    ld1 w t1 fun t15 =>
    iaS 1 t15 t0 fun t17 =>
    stW Try.prog 4 t17 (.bool true) w fun w =>
    Loop1 (.int .i64 1) w fun _ t8 w next =>
      ld1 w t2 fun t18 =>
      iaS 1 t18 t8 fun t20 =>
      ld1 w t20 fun t21 =>
      iaS 1 t21 t0 fun t23 =>
      ld1 w t23 fun t24 =>
      condW t24 (
        binQ Try.prog w .add 3 true t8 (.int .i64 1) fun t26 =>
        next t26 w
      ) (
        Drew w fun w =>
        Join (fun (k_2 : World → Prop) =>
          ∃ X : Nat → Prop,
          takeX X w (fun w k => ld1 w t3 k) fun t27 =>
          takeX X w (fun w k => k t8) fun t28 =>
          takeX X w (fun w k => k t0) fun t30 =>
          takeX X w (fun w k => ld1 w t4 k) fun t31 =>
          And (
            bsW Try.prog 30 1 [(0, t28)] w <| keepX X w fun t29 w =>
            callW Try.prog (.func (.func 83) #[] #[]) [t30, t31] w <| keepX X w fun t32 w =>
            semW Try.prog (apS [30, 30] 30 [t29, t32]) w <| keepX X w fun t33 w =>
            bsW Try.prog 23 1 [(0, t33)] w <| keepX X w fun t34 w =>
            semW Try.prog (apS [23, 23] 23 [t27, t34]) w fun t35 w =>
            stW Try.prog 23 t3 t35 w fun w =>
            k_2  w
          ) <|
          And (
            callW Try.prog (.func (.func 83) #[] #[]) [t30, t31] w <| keepX X w fun t32_2 w =>
            bsW Try.prog 30 1 [(0, t28)] w <| keepX X w fun t29_2 w =>
            semW Try.prog (apS [30, 30] 30 [t29_2, t32_2]) w <| keepX X w fun t33_2 w =>
            bsW Try.prog 23 1 [(0, t33_2)] w <| keepX X w fun t34_2 w =>
            semW Try.prog (apS [23, 23] 23 [t27, t34_2]) w fun t35_2 w =>
            stW Try.prog 23 t3 t35_2 w fun w =>
            k_2  w
          ) <|
          True
        ) fun  w =>
        ld1 w t5 fun t36 =>
        semW Try.prog (lkS 75 t36 t0 false) w fun t38 w =>
        ln1 t38 fun t39 =>
        Loop1 (.int .i64 0) w fun _ t40 w next_2 =>
          binQ Try.prog w .lss 3 false t40 t39 fun t41 =>
          condW t41 (
            iaS 1 t38 t40 fun t42 =>
            ld1 w t42 fun t43 =>
            ld1 w t6 fun t44 =>
            callW Try.prog t44 [t43] w fun t46 w =>
            binQ Try.prog w .add 3 true t40 (.int .i64 1) fun t47 =>
            next_2 t47 w
          ) (
            R (.returned (.tuple #[])) w
          )
      )
  )

def A82 : Ann where
  live := fun
    | 0 => [8]
    | 2 => [40]
    | _ => []
  wr := fun
    | 0 => fun i => Nat.beq i 8 || (Nat.ble 18 i && Nat.ble i 26)
    | 2 => fun i => Nat.beq i 10 || (Nat.ble 40 i && Nat.ble i 47)
    | _ => fun _ => false
  sched := fun
    | 5 => (.cls (.take 0 (.take 1 (.take 3 (.take 4 (.alt 2 (.eff 5 (.eff 6 (.eff 7 (.bar 8 (.bar 9 .done))))) (.alt 5 (.eff 2 (.eff 6 (.eff 7 (.bar 8 (.bar 9 .done))))) .nomore)))))))
    | _ => .done

set_option maxRecDepth 100000 in
theorem ok82 : (codeOk Try.f82.ntmps A82 (Try.f82.body.getD .skip) 0 && Nat.ble 7 Try.f82.ntmps) = true := by kernel_rfl
set_option maxRecDepth 100000 in
theorem lift82 {t0 t1 t2 t3 t4 t5 t6 : Value} {w : World} {R : Ending → World → Prop} (h : S82 t0 t1 t2 t3 t4 t5 t6 w R) : Calls Try.prog 82 #[t0, t1, t2, t3, t4, t5, t6] w R :=
  calls_of_cw (fn := Try.f82) (c := Try.f82.body.getD .skip) A82 mixes Try.func82 (by kernel_rfl) ok82
    ((by kernel_rfl : (S82 t0 t1 t2 t3 t4 t5 t6 w R) = cw Try.prog A82 (Try.f82.body.getD .skip) 0 (bodyQ Try.prog Try.f82 R) (frOf #[t0, t1, t2, t3, t4, t5, t6]) w).mp h)

def S17 (t0 t1 : Value) (w : World) (R : Ending → World → Prop) : Prop :=
  Loop1 (.int .i64 0) w fun _ t5 w next =>
    ln1 t0 fun t8 =>
    binQ Try.prog w .lss 3 false t5 t8 fun t9 =>
    condW t9 (
      binQ Try.prog w .geq 3 false t5 t1 fun t14 =>
      gd t14 false (fun k => k t0 w) w fun t16 w =>
      gd t14 false (fun k => k t5 w) w fun t17 w =>
      gd t14 false (fun k => iaS 1 t16 t17 fun v => k v w) w fun t18 w =>
      gd t14 false (fun k => ld1 w t18 fun v => k v w) w fun t19 w =>
      gd t14 false (fun k => ln1 t19 fun v => k v w) w fun t20 w =>
      gd t14 false (fun k => binQ Try.prog w .gtr 3 true t20 (.int .i64 20) fun v => k v w) w fun t21 w =>
      pickQ t14 (.bool true) t21 fun t22 =>
      condW t22 (
        R (.returned (.bool false)) w
      ) (
        binQ Try.prog w .add 3 true t5 (.int .i64 1) fun t11 =>
        next t11 w
      )
    ) (
      R (.returned (.bool true)) w
    )

def A17 : Ann where
  live := fun
    | 0 => [5]
    | _ => []
  wr := fun
    | 0 => fun i => (Nat.ble 4 i && Nat.ble i 22)
    | _ => fun _ => false
  sched := fun _ => .done

set_option maxRecDepth 100000 in
theorem ok17 : (codeOk Try.f17.ntmps A17 (Try.f17.body.getD .skip) 0 && Nat.ble 2 Try.f17.ntmps) = true := by kernel_rfl
set_option maxRecDepth 100000 in
theorem lift17 {t0 t1 : Value} {w : World} {R : Ending → World → Prop} (h : S17 t0 t1 w R) : Calls Try.prog 17 #[t0, t1] w R :=
  calls_of_cw (fn := Try.f17) (c := Try.f17.body.getD .skip) A17 mixes Try.func17 (by kernel_rfl) ok17
    ((by kernel_rfl : (S17 t0 t1 w R) = cw Try.prog A17 (Try.f17.body.getD .skip) 0 (bodyQ Try.prog Try.f17 R) (frOf #[t0, t1]) w).mp h)

def S18 (w : World) (R : Ending → World → Prop) : Prop :=
  bdQ Try.prog 32 [] fun t9 =>
  bdQ Try.prog 32 [(0, (.int .i64 1)), (2, (.int .i64 1))] fun t10 =>
  bsW Try.prog 22 2 [(0, t9), (1, t10)] w fun t11 w =>
  callW Try.prog (.func (.func 25) #[] #[]) [t11, (.int .i64 2), (.int .i64 3)] w fun t12 w =>
  exQ t12 0 fun t13 =>
  exQ t12 1 fun t14 =>
  bdQ Try.prog 32 [(2, (.int .i64 1))] fun t15 =>
  bsW Try.prog 22 1 [(0, t15)] w fun t16 w =>
  bsW Try.prog 30 2 [(0, (.int .i64 1)), (1, (.int .i64 1))] w fun t19 w =>
  bsW Try.prog 23 1 [(0, t19)] w fun t20 w =>
  callW Try.prog (.func (.func 19) #[] #[]) [t16, (.int .i64 1), (.int .i64 2), t20] w fun t21 w =>
  exQ t21 0 fun t22 =>
  exQ t21 1 fun t23 =>
  callW Try.prog (.func (.func 32) #[] #[]) [t16, (.int .i64 1), (.int .i64 2)] w fun t26 w =>
  exQ t26 0 fun t27 =>
  exQ t26 1 fun t28 =>
  binQ Try.prog w .eql 26 true t14 (.int .i64 0) fun t30 =>
  gd t30 true (fun k => k t13 w) w fun t32 w =>
  gd t30 true (fun k => binQ Try.prog w .eql 3 true t32 (.int .i64 4) fun v => k v w) w fun t33 w =>
  pickQ t30 t33 (.bool false) fun t34 =>
  gd t34 true (fun k => k t23 w) w fun t36 w =>
  gd t34 true (fun k => binQ Try.prog w .eql 26 true t36 (.int .i64 0) fun v => k v w) w fun t37 w =>
  pickQ t34 t37 (.bool false) fun t38 =>
  gd t38 true (fun k => k t22 w) w fun t40 w =>
  pickQ t38 t40 (.bool false) fun t41 =>
  gd t41 true (fun k => k t28 w) w fun t43 w =>
  gd t41 true (fun k => binQ Try.prog w .eql 26 true t43 (.int .i64 0) fun v => k v w) w fun t44 w =>
  pickQ t41 t44 (.bool false) fun t45 =>
  gd t45 true (fun k => k t27 w) w fun t47 w =>
  gd t45 true (fun k => ln1 t47 fun v => k v w) w fun t48 w =>
  gd t45 true (fun k => binQ Try.prog w .geq 3 true t48 (.int .i64 1) fun v => k v w) w fun t49 w =>
  pickQ t45 t49 (.bool false) fun t50 =>
  R (.returned t50) w

def A18 : Ann where
  live := fun _ => []
  wr := fun _ _ => false
  sched := fun _ => .done

set_option maxRecDepth 100000 in
theorem ok18 : (codeOk Try.f18.ntmps A18 (Try.f18.body.getD .skip) 0 && Nat.ble 0 Try.f18.ntmps) = true := by kernel_rfl
set_option maxRecDepth 100000 in
theorem lift18 {w : World} {R : Ending → World → Prop} (h : S18 w R) : Calls Try.prog 18 #[] w R :=
  calls_of_cw (fn := Try.f18) (c := Try.f18.body.getD .skip) A18 mixes Try.func18 (by kernel_rfl) ok18
    ((by kernel_rfl : (S18 w R) = cw Try.prog A18 (Try.f18.body.getD .skip) 0 (bodyQ Try.prog Try.f18 R) (frOf #[]) w).mp h)

theorem fok19 : fnOk Try.prog 19 = true := by kernel_rfl
theorem fok60 : fnOk Try.prog 60 = true := by kernel_rfl
theorem fok83 : fnOk Try.prog 83 = true := by kernel_rfl
theorem fok81 : fnOk Try.prog 81 = true := by kernel_rfl
theorem fok108 : fnOk Try.prog 108 = true := by kernel_rfl
theorem fok32 : fnOk Try.prog 32 = true := by kernel_rfl
theorem fok82 : fnOk Try.prog 82 = true := by kernel_rfl
theorem fok17 : fnOk Try.prog 17 = true := by kernel_rfl
theorem fok18 : fnOk Try.prog 18 = true := by kernel_rfl
end Go.Proofs.Ytgalbokmgffhkaa

/- Contracts: slices.Compare, slices.ContainsFunc at integers, the closures of Refutes. -/
namespace Go.Proofs.Ytgalbokmgffhkaa
open Go.Lf Go.RowKit Go.Wg

def cmp1 (x y : Int) : Int := if x < y then -1 else if y < x then 1 else 0
def cmpL : List Int → List Int → Int
  | [], [] => 0
  | [], _ :: _ => -1
  | _ :: _, [] => 1
  | x :: a, y :: b => if x < y then -1 else if y < x then 1 else cmpL a b

theorem cmp_calls (x y : Int) (w : World) : Calls Try.prog 103 #[.int .i64 x, .int .i64 y] w fun e w' => e = .returned (.int .i64 (cmp1 x y)) ∧ w = w' := by
  refine lift103 ?_
  unfold S103
  have hn : ∀ x, Calls Try.prog 118 #[.int .i64 x] w fun e w' => e = .returned (.bool false) ∧ w = w' := fun x => by
    refine lift118 ?_
    unfold S118
    simp only [r_ln, r_pick, r_pickT, r_pickF, r_condT, r_condF, r_gdTT, r_gdFF, r_gdTF, r_gdFT, r_gqTT, r_gqFF, r_gqTF, r_gqFT, r_not, r_lss, r_leq, r_gtr, r_geq, r_eql, r_neq, r_add, r_sub, r_min2, r_max2, r_min3, r_max3, r_fa, r_iaS, r_iaA, r_ex2a, r_ex2b, r_ex3a, r_ex3b, r_ex3c, r_nc, r_keepE, Nat.zero_add, Nat.add_zero, Nat.mul_one, Int.toNat_natCast, toNat_sub1, toNat_add1, decide_true, decide_false, Bool.not_true, Bool.not_false, if_true, if_false, Bool.false_eq_true, reduceCtorEq, decide_eq_true (rfl : x = x)]
    exact ⟨by first | rfl | trivial, by first | rfl | trivial⟩
  refine r_use fok118 (hn x) rfl ?_
  rintro _ _ ⟨rfl, rfl⟩
  refine ⟨_, rfl, ?_⟩
  refine r_use fok118 (hn y) rfl ?_
  rintro _ _ ⟨rfl, rfl⟩
  refine ⟨_, rfl, ?_⟩
  unfold cmp1
  by_cases h1 : x < y
  · simp only [r_ln, r_pick, r_pickT, r_pickF, r_condT, r_condF, r_gdTT, r_gdFF, r_gdTF, r_gdFT, r_gqTT, r_gqFF, r_gqTF, r_gqFT, r_not, r_lss, r_leq, r_gtr, r_geq, r_eql, r_neq, r_add, r_sub, r_min2, r_max2, r_min3, r_max3, r_fa, r_iaS, r_iaA, r_ex2a, r_ex2b, r_ex3a, r_ex3b, r_ex3c, r_nc, r_keepE, Nat.zero_add, Nat.add_zero, Nat.mul_one, Int.toNat_natCast, toNat_sub1, toNat_add1, decide_true, decide_false, Bool.not_true, Bool.not_false, if_true, if_false, Bool.false_eq_true, reduceCtorEq, h1]
    exact ⟨by first | rfl | trivial, by first | rfl | trivial⟩
  by_cases h2 : y < x
  · simp only [r_ln, r_pick, r_pickT, r_pickF, r_condT, r_condF, r_gdTT, r_gdFF, r_gdTF, r_gdFT, r_gqTT, r_gqFF, r_gqTF, r_gqFT, r_not, r_lss, r_leq, r_gtr, r_geq, r_eql, r_neq, r_add, r_sub, r_min2, r_max2, r_min3, r_max3, r_fa, r_iaS, r_iaA, r_ex2a, r_ex2b, r_ex3a, r_ex3b, r_ex3c, r_nc, r_keepE, Nat.zero_add, Nat.add_zero, Nat.mul_one, Int.toNat_natCast, toNat_sub1, toNat_add1, decide_true, decide_false, Bool.not_true, Bool.not_false, if_true, if_false, Bool.false_eq_true, reduceCtorEq, h1, h2]
    exact ⟨by first | rfl | trivial, by first | rfl | trivial⟩
  · simp only [r_ln, r_pick, r_pickT, r_pickF, r_condT, r_condF, r_gdTT, r_gdFF, r_gdTF, r_gdFT, r_gqTT, r_gqFF, r_gqTF, r_gqFT, r_not, r_lss, r_leq, r_gtr, r_geq, r_eql, r_neq, r_add, r_sub, r_min2, r_max2, r_min3, r_max3, r_fa, r_iaS, r_iaA, r_ex2a, r_ex2b, r_ex3a, r_ex3b, r_ex3c, r_nc, r_keepE, Nat.zero_add, Nat.add_zero, Nat.mul_one, Int.toNat_natCast, toNat_sub1, toNat_add1, decide_true, decide_false, Bool.not_true, Bool.not_false, if_true, if_false, Bool.false_eq_true, reduceCtorEq, h1, h2]
    exact ⟨by first | rfl | trivial, by first | rfl | trivial⟩

theorem cmpL_step {a b : List Int} {i : Nat} (ha : i < a.length) (hb : i < b.length) : cmpL (a.drop i) (b.drop i) = if cmp1 (a.getD i 0) (b.getD i 0) = 0 then cmpL (a.drop (i + 1)) (b.drop (i + 1)) else cmp1 (a.getD i 0) (b.getD i 0) := by
  rw [List.drop_eq_getElem_cons ha, List.drop_eq_getElem_cons hb, getD_lt _ _ _ ha, getD_lt _ _ _ hb]
  simp only [cmpL, cmp1]
  split
  · simp
  · split
    · simp
    · simp

set_option maxRecDepth 100000 in
theorem compare_calls {va vb : Value} {a b : List Int} (w : World) (ha : RdInts w va a) (hb : RdInts w vb b) : Calls Try.prog 57 #[va, vb] w fun e w' => e = .returned (.int .i64 (cmpL a b)) ∧ w = w' := by
  obtain ⟨aa, ac, rfl, hal⟩ := ha.len
  obtain ⟨ba, bc, rfl, hbl⟩ := hb.len
  refine lift57 ?_
  unfold S57
  simp only [r_ln, r_pick, r_pickT, r_pickF, r_condT, r_condF, r_gdTT, r_gdFF, r_gdTF, r_gdFT, r_gqTT, r_gqFF, r_gqTF, r_gqFT, r_not, r_lss, r_leq, r_gtr, r_geq, r_eql, r_neq, r_add, r_sub, r_min2, r_max2, r_min3, r_max3, r_fa, r_iaS, r_iaA, r_ex2a, r_ex2b, r_ex3a, r_ex3b, r_ex3c, r_nc, r_keepE, Nat.zero_add, Nat.add_zero, Nat.mul_one, Int.toNat_natCast, toNat_sub1, toNat_add1, decide_true, decide_false, Bool.not_true, Bool.not_false, if_true, if_false, Bool.false_eq_true, reduceCtorEq]
  refine ⟨fun t11 wr => ∃ i : Nat, i ≤ a.length ∧ i ≤ b.length ∧ t11 = .int .i64 i ∧ cmpL a b = cmpL (a.drop i) (b.drop i) ∧ w = wr, fun t11 _ => a.length - (intOf t11).toNat, ⟨0, by omega, by omega, rfl, by simp, rfl⟩, ?_⟩
  rintro _ _ _ ⟨i, hi, hib, rfl, hc, rfl⟩
  by_cases hlt : i < a.length
  case neg =>
    have hlt' : ¬ (i : Int) < (a.length : Int) := by omega
    rw [List.drop_eq_nil_of_le (show a.length ≤ i by omega)] at hc
    by_cases hl : a.length < b.length
    · have hl' : (a.length : Int) < (b.length : Int) := by omega
      have : ∃ y ys, b.drop i = y :: ys := ⟨b[i]'(by omega), b.drop (i + 1), List.drop_eq_getElem_cons (by omega)⟩
      obtain ⟨y, ys, e⟩ := this
      rw [e] at hc
      simp (disch := omega) only [r_ln, r_pick, r_pickT, r_pickF, r_condT, r_condF, r_gdTT, r_gdFF, r_gdTF, r_gdFT, r_gqTT, r_gqFF, r_gqTF, r_gqFT, r_not, r_lss, r_leq, r_gtr, r_geq, r_eql, r_neq, r_add, r_sub, r_min2, r_max2, r_min3, r_max3, r_fa, r_iaS, r_iaA, r_ex2a, r_ex2b, r_ex3a, r_ex3b, r_ex3c, r_nc, r_keepE, Nat.zero_add, Nat.add_zero, Nat.mul_one, Int.toNat_natCast, toNat_sub1, toNat_add1, decide_true, decide_false, Bool.not_true, Bool.not_false, if_true, if_false, Bool.false_eq_true, reduceCtorEq, hlt', hl']
      exact ⟨by rw [hc]; rfl, by first | rfl | trivial⟩
    · have hl' : ¬ (a.length : Int) < (b.length : Int) := by omega
      rw [List.drop_eq_nil_of_le (show b.length ≤ i by omega)] at hc
      simp (disch := omega) only [r_ln, r_pick, r_pickT, r_pickF, r_condT, r_condF, r_gdTT, r_gdFF, r_gdTF, r_gdFT, r_gqTT, r_gqFF, r_gqTF, r_gqFT, r_not, r_lss, r_leq, r_gtr, r_geq, r_eql, r_neq, r_add, r_sub, r_min2, r_max2, r_min3, r_max3, r_fa, r_iaS, r_iaA, r_ex2a, r_ex2b, r_ex3a, r_ex3b, r_ex3c, r_nc, r_keepE, Nat.zero_add, Nat.add_zero, Nat.mul_one, Int.toNat_natCast, toNat_sub1, toNat_add1, decide_true, decide_false, Bool.not_true, Bool.not_false, if_true, if_false, Bool.false_eq_true, reduceCtorEq, hlt', hl']
      exact ⟨by rw [hc]; rfl, by first | rfl | trivial⟩
  have hlt' : (i : Int) < (a.length : Int) := by omega
  obtain ⟨ab, ao, _, ea, ac'⟩ := ha.at hlt
  cases ea
  by_cases hbi : i < b.length
  case neg =>
    have hbi' : (b.length : Int) ≤ (i : Int) := by omega
    have e1 : a.drop i = a[i] :: a.drop (i + 1) := List.drop_eq_getElem_cons hlt
    rw [List.drop_eq_nil_of_le (show b.length ≤ i by omega), e1] at hc
    simp (disch := omega) only [r_ln, r_pick, r_pickT, r_pickF, r_condT, r_condF, r_gdTT, r_gdFF, r_gdTF, r_gdFT, r_gqTT, r_gqFF, r_gqTF, r_gqFT, r_not, r_lss, r_leq, r_gtr, r_geq, r_eql, r_neq, r_add, r_sub, r_min2, r_max2, r_min3, r_max3, r_fa, r_iaS, r_iaA, r_ex2a, r_ex2b, r_ex3a, r_ex3b, r_ex3c, r_nc, r_keepE, Nat.zero_add, Nat.add_zero, Nat.mul_one, Int.toNat_natCast, toNat_sub1, toNat_add1, decide_true, decide_false, Bool.not_true, Bool.not_false, if_true, if_false, Bool.false_eq_true, reduceCtorEq, decide_eq_true hlt', r_ld ac', decide_eq_true hbi']
    exact ⟨by rw [hc]; rfl, by first | rfl | trivial⟩
  have hbi' : ¬ (b.length : Int) ≤ (i : Int) := by omega
  obtain ⟨bb, bo, _, eb, bc'⟩ := hb.at hbi
  cases eb
  rw [cmpL_step hlt hbi] at hc
  simp (disch := omega) only [r_ln, r_pick, r_pickT, r_pickF, r_condT, r_condF, r_gdTT, r_gdFF, r_gdTF, r_gdFT, r_gqTT, r_gqFF, r_gqTF, r_gqFT, r_not, r_lss, r_leq, r_gtr, r_geq, r_eql, r_neq, r_add, r_sub, r_min2, r_max2, r_min3, r_max3, r_fa, r_iaS, r_iaA, r_ex2a, r_ex2b, r_ex3a, r_ex3b, r_ex3c, r_nc, r_keepE, Nat.zero_add, Nat.add_zero, Nat.mul_one, Int.toNat_natCast, toNat_sub1, toNat_add1, decide_true, decide_false, Bool.not_true, Bool.not_false, if_true, if_false, Bool.false_eq_true, reduceCtorEq, decide_eq_true hlt', r_ld ac', hbi', r_ld bc']
  refine r_use fok103 (cmp_calls _ _ w) rfl ?_
  rintro _ _ ⟨rfl, rfl⟩
  refine ⟨_, rfl, ?_⟩
  by_cases hz : cmp1 (a.getD i 0) (b.getD i 0) = 0
  · rw [if_pos hz] at hc
    simp (disch := omega) only [r_ln, r_pick, r_pickT, r_pickF, r_condT, r_condF, r_gdTT, r_gdFF, r_gdTF, r_gdFT, r_gqTT, r_gqFF, r_gqTF, r_gqFT, r_not, r_lss, r_leq, r_gtr, r_geq, r_eql, r_neq, r_add, r_sub, r_min2, r_max2, r_min3, r_max3, r_fa, r_iaS, r_iaA, r_ex2a, r_ex2b, r_ex3a, r_ex3b, r_ex3c, r_nc, r_keepE, Nat.zero_add, Nat.add_zero, Nat.mul_one, Int.toNat_natCast, toNat_sub1, toNat_add1, decide_true, decide_false, Bool.not_true, Bool.not_false, if_true, if_false, Bool.false_eq_true, reduceCtorEq, decide_eq_true hz]
    exact ⟨⟨i + 1, by omega, by omega, by go_num, hc, by first | rfl | trivial⟩, by simp only [intOf]; omega⟩
  · rw [if_neg hz] at hc
    simp (disch := omega) only [r_ln, r_pick, r_pickT, r_pickF, r_condT, r_condF, r_gdTT, r_gdFF, r_gdTF, r_gdFT, r_gqTT, r_gqFF, r_gqTF, r_gqFT, r_not, r_lss, r_leq, r_gtr, r_geq, r_eql, r_neq, r_add, r_sub, r_min2, r_max2, r_min3, r_max3, r_fa, r_iaS, r_iaA, r_ex2a, r_ex2b, r_ex3a, r_ex3b, r_ex3c, r_nc, r_keepE, Nat.zero_add, Nat.add_zero, Nat.mul_one, Int.toNat_natCast, toNat_sub1, toNat_add1, decide_true, decide_false, Bool.not_true, Bool.not_false, if_true, if_false, Bool.false_eq_true, reduceCtorEq, decide_eq_false hz]
    exact ⟨by rw [hc], by first | rfl | trivial⟩

set_option maxRecDepth 100000 in
/-- slices.ContainsFunc, IndexFunc at integers, for a test that keeps what is there. -/
theorem indexF_calls {v fv : Value} {l : List Int} (p : Int → Bool) (w : World) (hr : RdInts w v l)
    (hc : ∀ x ∈ l, ∀ (w' : World) (K : Value → World → Prop), Kp w w' → (∀ w'', Kp w' w'' → K (.bool (p x)) w'') → callW Try.prog fv [.int .i64 x] w' K) :
    Calls Try.prog 102 #[v, fv] w fun e w' => ∃ n : Int, e = .returned (.int .i64 n) ∧ decide (0 ≤ n) = l.any p ∧ Kp w w' := by
  obtain ⟨a, cap, rfl, hl⟩ := hr.len
  refine lift102 ?_
  unfold S102
  simp only [r_ln, r_pick, r_pickT, r_pickF, r_condT, r_condF, r_gdTT, r_gdFF, r_gdTF, r_gdFT, r_gqTT, r_gqFF, r_gqTF, r_gqFT, r_not, r_lss, r_leq, r_gtr, r_geq, r_eql, r_neq, r_add, r_sub, r_min2, r_max2, r_min3, r_max3, r_fa, r_iaS, r_iaA, r_ex2a, r_ex2b, r_ex3a, r_ex3b, r_ex3c, r_nc, r_keepE, Nat.zero_add, Nat.add_zero, Nat.mul_one, Int.toNat_natCast, toNat_sub1, toNat_add1, decide_true, decide_false, Bool.not_true, Bool.not_false, if_true, if_false, Bool.false_eq_true, reduceCtorEq]
  refine ⟨fun t8 wr => ∃ i : Nat, i ≤ l.length ∧ t8 = .int .i64 i ∧ (l.take i).any p = false ∧ Kp w wr, fun t8 _ => l.length - (intOf t8).toNat, ⟨0, by omega, rfl, by simp, Kp.refl _⟩, ?_⟩
  rintro _ _ wr ⟨i, hi, rfl, hn, hk⟩
  by_cases hlt : i < l.length
  case neg =>
    have hlt' : ¬ (i : Int) < (l.length : Int) := by omega
    rw [List.take_of_length_le (by omega)] at hn
    simp (disch := omega) only [r_ln, r_pick, r_pickT, r_pickF, r_condT, r_condF, r_gdTT, r_gdFF, r_gdTF, r_gdFT, r_gqTT, r_gqFF, r_gqTF, r_gqFT, r_not, r_lss, r_leq, r_gtr, r_geq, r_eql, r_neq, r_add, r_sub, r_min2, r_max2, r_min3, r_max3, r_fa, r_iaS, r_iaA, r_ex2a, r_ex2b, r_ex3a, r_ex3b, r_ex3c, r_nc, r_keepE, Nat.zero_add, Nat.add_zero, Nat.mul_one, Int.toNat_natCast, toNat_sub1, toNat_add1, decide_true, decide_false, Bool.not_true, Bool.not_false, if_true, if_false, Bool.false_eq_true, reduceCtorEq, hlt']
    exact ⟨-1, rfl, by rw [hn]; decide, hk⟩
  have hlt' : (i : Int) < (l.length : Int) := by omega
  obtain ⟨b, off, _, e, hcell⟩ := (hr.below hk).at hlt
  cases e
  simp (disch := omega) only [r_ln, r_pick, r_pickT, r_pickF, r_condT, r_condF, r_gdTT, r_gdFF, r_gdTF, r_gdFT, r_gqTT, r_gqFF, r_gqTF, r_gqFT, r_not, r_lss, r_leq, r_gtr, r_geq, r_eql, r_neq, r_add, r_sub, r_min2, r_max2, r_min3, r_max3, r_fa, r_iaS, r_iaA, r_ex2a, r_ex2b, r_ex3a, r_ex3b, r_ex3c, r_nc, r_keepE, Nat.zero_add, Nat.add_zero, Nat.mul_one, Int.toNat_natCast, toNat_sub1, toNat_add1, decide_true, decide_false, Bool.not_true, Bool.not_false, if_true, if_false, Bool.false_eq_true, reduceCtorEq, decide_eq_true hlt', r_ld hcell]
  refine hc _ (getD_mem hlt) wr _ hk fun w2 k2 => ?_
  have htk : l.take (i + 1) = l.take i ++ [l.getD i 0] := by rw [take_succ' _ _ hlt, getD_lt _ _ _ hlt]
  cases hp : p (l.getD i 0) with
  | true =>
    simp (disch := omega) only [r_ln, r_pick, r_pickT, r_pickF, r_condT, r_condF, r_gdTT, r_gdFF, r_gdTF, r_gdFT, r_gqTT, r_gqFF, r_gqTF, r_gqFT, r_not, r_lss, r_leq, r_gtr, r_geq, r_eql, r_neq, r_add, r_sub, r_min2, r_max2, r_min3, r_max3, r_fa, r_iaS, r_iaA, r_ex2a, r_ex2b, r_ex3a, r_ex3b, r_ex3c, r_nc, r_keepE, Nat.zero_add, Nat.add_zero, Nat.mul_one, Int.toNat_natCast, toNat_sub1, toNat_add1, decide_true, decide_false, Bool.not_true, Bool.not_false, if_true, if_false, Bool.false_eq_true, reduceCtorEq]
    refine ⟨i, rfl, ?_, Kp.trans hk k2⟩
    have : l.any p = true := List.any_eq_true.2 ⟨_, getD_mem hlt, hp⟩
    rw [this]
    exact decide_eq_true (by omega)
  | false =>
    simp (disch := omega) only [r_ln, r_pick, r_pickT, r_pickF, r_condT, r_condF, r_gdTT, r_gdFF, r_gdTF, r_gdFT, r_gqTT, r_gqFF, r_gqTF, r_gqFT, r_not, r_lss, r_leq, r_gtr, r_geq, r_eql, r_neq, r_add, r_sub, r_min2, r_max2, r_min3, r_max3, r_fa, r_iaS, r_iaA, r_ex2a, r_ex2b, r_ex3a, r_ex3b, r_ex3c, r_nc, r_keepE, Nat.zero_add, Nat.add_zero, Nat.mul_one, Int.toNat_natCast, toNat_sub1, toNat_add1, decide_true, decide_false, Bool.not_true, Bool.not_false, if_true, if_false, Bool.false_eq_true, reduceCtorEq]
    exact ⟨⟨i + 1, by omega, by go_num, by rw [htk, List.any_append, hn, List.any_cons, List.any_nil, hp]; rfl, Kp.trans hk k2⟩, by simp only [intOf]; omega⟩

theorem containsF_calls {v fv : Value} {l : List Int} (p : Int → Bool) (w : World) (hr : RdInts w v l)
    (hc : ∀ x ∈ l, ∀ (w' : World) (K : Value → World → Prop), Kp w w' → (∀ w'', Kp w' w'' → K (.bool (p x)) w'') → callW Try.prog fv [.int .i64 x] w' K) :
    Calls Try.prog 54 #[v, fv] w fun e w' => e = .returned (.bool (l.any p)) ∧ Kp w w' := by
  refine lift54 ?_
  unfold S54
  refine r_use fok102 (indexF_calls p w hr hc) rfl ?_
  rintro _ w1 ⟨n, rfl, hn, k1⟩
  refine ⟨_, rfl, ?_⟩
  simp only [r_ln, r_pick, r_pickT, r_pickF, r_condT, r_condF, r_gdTT, r_gdFF, r_gdTF, r_gdFT, r_gqTT, r_gqFF, r_gqTF, r_gqFT, r_not, r_lss, r_leq, r_gtr, r_geq, r_eql, r_neq, r_add, r_sub, r_min2, r_max2, r_min3, r_max3, r_fa, r_iaS, r_iaA, r_ex2a, r_ex2b, r_ex3a, r_ex3b, r_ex3c, r_nc, r_keepE, Nat.zero_add, Nat.add_zero, Nat.mul_one, Int.toNat_natCast, toNat_sub1, toNat_add1, decide_true, decide_false, Bool.not_true, Bool.not_false, if_true, if_false, Bool.false_eq_true, reduceCtorEq, hn]
  exact ⟨by first | rfl | trivial, k1⟩

/-- The test of Refutes: no colour. -/
theorem nocol_call (x : Int) (w : World) (K : Value → World → Prop) (h : ∀ w', Kp w w' → K (.bool (!colB x)) w') : callW Try.prog (.func (.func 55) #[] #[]) [.int .i64 x] w K := by
  have hc : Calls Try.prog 55 #[.int .i64 x] w fun e w' => e = .returned (.bool (!colB x)) ∧ w = w' := by
    refine lift55 ?_
    unfold S55
    refine r_use fok56 (colour_calls x w) rfl ?_
    rintro _ _ ⟨rfl, rfl⟩
    refine ⟨_, rfl, ?_⟩
    simp only [r_ln, r_pick, r_pickT, r_pickF, r_condT, r_condF, r_gdTT, r_gdFF, r_gdTF, r_gdFT, r_gqTT, r_gqFF, r_gqTF, r_gqFT, r_not, r_lss, r_leq, r_gtr, r_geq, r_eql, r_neq, r_add, r_sub, r_min2, r_max2, r_min3, r_max3, r_fa, r_iaS, r_iaA, r_ex2a, r_ex2b, r_ex3a, r_ex3b, r_ex3c, r_nc, r_keepE, Nat.zero_add, Nat.add_zero, Nat.mul_one, Int.toNat_natCast, toNat_sub1, toNat_add1, decide_true, decide_false, Bool.not_true, Bool.not_false, if_true, if_false, Bool.false_eq_true, reduceCtorEq]
    exact ⟨by first | rfl | trivial, by first | rfl | trivial⟩
  refine r_use fok55 hc rfl ?_
  rintro _ _ ⟨rfl, rfl⟩
  exact ⟨_, rfl, h w (Kp.refl _)⟩

theorem rd_from {w : World} {a : Option Addr} {n c j : Nat} {l : List Int} (h : RdInts w (.slice a n c) l) (hj : j ≤ l.length) : RdInts w (.slice (if c = j then a else a.map fun x => x.add (j * 1)) (n - j) (c - j)) (l.drop j) := by
  obtain ⟨a', cap, e, hl, hh⟩ := h
  cases e
  have hd : (l.drop j).length = l.length - j := List.length_drop
  refine ⟨_, c - j, by rw [hd], by omega, fun h0 => ?_⟩
  obtain ⟨b, off, rfl, hcell⟩ := hh (by omega)
  refine ⟨b, off + j, ?_, fun i hi => ?_⟩
  · rw [if_neg (by omega)]
    simp [r_addr]
  · have := hcell (j + i) (by omega)
    rw [Nat.add_assoc, this]
    simp [List.getD_eq_getElem?_getD, List.getElem?_drop]

end Go.Proofs.Ytgalbokmgffhkaa
