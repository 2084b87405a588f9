/- Maps in memory, with whatever keys, as functions to what is there or not: made, looked up, written. -/
import Derived.Test.YtbekeccfjmoonaaDoorGr
import Derived.Maps.Keyed
import Derived.Maps.RangeRun
set_option linter.all false
namespace Go.Proofs.YtbekeccfjmoonaaDoor
open Go.Lf Go.RowKit Go.MapKept Go.ChangeMaps

structure KeyE {κ : Type} (kt : TypeId) (enc : κ → Value) (ok : κ → Prop) : Prop where
  keyed : Maps.Keyed Tryd.prog kt
  key : ∀ {k : κ}, ok k → ∃ l, keyOf Tryd.prog kt (enc k) = some l
  inj : ∀ {a b : κ}, enc a = enc b → a = b

def updO {κ α : Type} [DecidableEq κ] (f : κ → Option α) (k : κ) (v : α) : κ → Option α := fun x => if x = k then some v else f x
theorem updO_same {κ α : Type} [DecidableEq κ] (f : κ → Option α) (k : κ) (v : α) : updO f k v k = some v := by simp [updO]
theorem updO_ne {κ α : Type} [DecidableEq κ] {f : κ → Option α} {k x : κ} {v : α} (h : x ≠ k) : updO f k v x = f x := by simp [updO, h]

section
variable {κ : Type} [DecidableEq κ] {enc : κ → Value} {ok : κ → Prop}
structure EntsO (enc : κ → Value) (ok : κ → Prop) (es : Array MapEntry) (clock : Nat) (f : κ → Option Value) : Prop where
  st : Stamped es clock
  val : ∀ e ∈ es.toList, ∃ k, ok k ∧ e.key = enc k ∧ f k = some e.val
  all : ∀ k, f k ≠ none → ∃ e ∈ es.toList, e.key = enc k
def MapO (enc : κ → Value) (ok : κ → Prop) (w : World) (b : Nat) (f : κ → Option Value) : Prop := ∃ es clock, w.heap[b]? = some (.map es clock) ∧ EntsO enc ok es clock f

theorem MapO.lt {w : World} {b : Nat} {f : κ → Option Value} (h : MapO enc ok w b f) : b < w.heap.size := let ⟨_, _, h1, _⟩ := h; block_lt h1
theorem MapO.chg {S : Nat → Prop} {w w' : World} {b : Nat} {f : κ → Option Value} (h : MapO enc ok w b f) (hc : Chg S w w') (hs : ¬ S b) : MapO enc ok w' b f :=
  let ⟨es, c, h1, h2⟩ := h; ⟨es, c, hc.at h1 hs, h2⟩
theorem MapO.kp {w w' : World} {b : Nat} {f : κ → Option Value} (h : MapO enc ok w b f) (hk : Kp w w') : MapO enc ok w' b f :=
  let ⟨es, c, h1, h2⟩ := h; ⟨es, c, block_below h1 hk, h2⟩
theorem mapO_new (enc : κ → Value) (ok : κ → Prop) (w : World) : MapO enc ok (w.alloc (.map #[] 0)) w.heap.size (fun _ => none) := ⟨#[], 0, heap_alloc_new w _, ⟨stamped_empty 0, by simp, fun k h => absurd rfl h⟩⟩

variable {kt t e : TypeId} {z : Value} (E : KeyE kt enc ok) (ht : Tryd.prog.underlying t = some (.map kt e)) (hz : ∀ w, (zeroValue e).run Tryd.prog w = .ok z w)
include E ht hz

theorem EntsO.keys {es : Array MapEntry} {clock : Nat} {f : κ → Option Value} (h : EntsO enc ok es clock f) : ∀ x ∈ es.toList, ∃ l, keyOf Tryd.prog kt x.key = some l := fun x hx => by
  obtain ⟨k, hk, e1, _⟩ := h.val x hx
  rw [e1]; exact E.key hk

set_option maxRecDepth 100000 in
theorem run_lkO {w : World} {b : Nat} {f : κ → Option Value} {k : κ} (c : Bool) (h : MapO enc ok w b f) (hk : ok k) :
    (lkS t (.map (some b)) (enc k) c).run Tryd.prog w = .ok (.value (if c = true then .tuple #[(f k).getD z, .bool (f k).isSome] else (f k).getD z)) w := by
  obtain ⟨es, cl, hb, hes⟩ := h
  obtain ⟨l, hl⟩ := E.key hk
  rcases E.keyed.find w hl es.toList (hes.keys E ht hz) with ⟨g1, g2⟩ | ⟨j, e0, g1, g2, g3⟩
  · have hfz : f k = none := by
      refine Classical.byContradiction fun hne => ?_
      obtain ⟨e0, he, hek⟩ := hes.all k hne
      exact g2 e0 he hek
    cases c <;> simp [lkS, Instr.lookup, run_underlying ht, MapKept.run_getObj_map hb, E.keyed.check w _ hl, g1, hz, hfz, Result.andThen]
  · obtain ⟨k', _, e1, e2⟩ := hes.val e0 (List.mem_of_getElem? g2)
    have : k' = k := E.inj (e1.symm.trans g3)
    subst this
    cases c <;> simp [lkS, Instr.lookup, run_underlying ht, MapKept.run_getObj_map hb, E.keyed.check w _ hl, g1, e2, Result.andThen]
theorem r_lkO {w : World} {b : Nat} {f : κ → Option Value} {k : κ} {K : Value → World → Prop} (h : MapO enc ok w b f) (hk : ok k) : semW Tryd.prog (lkS t (.map (some b)) (enc k) false) w K = K ((f k).getD z) w := by
  have := run_lkO E ht hz false h hk
  simp only [semW, this]; rfl
theorem r_lkO2 {w : World} {b : Nat} {f : κ → Option Value} {k : κ} {K : Value → World → Prop} (h : MapO enc ok w b f) (hk : ok k) : semW Tryd.prog (lkS t (.map (some b)) (enc k) true) w K = K (.tuple #[(f k).getD z, .bool (f k).isSome]) w := by
  have := run_lkO E ht hz true h hk
  simp only [semW, this]; rfl
theorem r_lkOG {w : World} {b : Nat} {f : κ → Option Value} {k : κ} {K : Value → Prop} (h : MapO enc ok w b f) (hk : ok k) (hK : K ((f k).getD z)) : genQ Tryd.prog w (lkS t (.map (some b)) (enc k) false) K :=
  ⟨(f k).getD z, fun w' hw => by simpa using run_lkO E ht hz false (h.kp hw) hk, hK⟩
theorem r_lkOG2 {w : World} {b : Nat} {f : κ → Option Value} {k : κ} {K : Value → Prop} (h : MapO enc ok w b f) (hk : ok k) (hK : K (.tuple #[(f k).getD z, .bool (f k).isSome])) : genQ Tryd.prog w (lkS t (.map (some b)) (enc k) true) K :=
  ⟨_, fun w' hw => by simpa using run_lkO E ht hz true (h.kp hw) hk, hK⟩

set_option maxRecDepth 100000 in
theorem r_muO {w : World} {b : Nat} {f : κ → Option Value} {k : κ} {v : Value} {K : Value → World → Prop} (h : MapO enc ok w b f) (hk : ok k)
    (hK : ∀ w', MapO enc ok w' b (updO f k v) → Chg (fun i => i = b) w w' → w'.heap.size = w.heap.size → K undef w') : semW Tryd.prog (muS t (.map (some b)) (enc k) v) w K := by
  obtain ⟨es, c, hb, hes⟩ := h
  obtain ⟨l, hl⟩ := E.key hk
  have hset : ∀ o : Obj, Chg (fun k => k = b) w { w with heap := w.heap.setIfInBounds b o } ∧ ({ w with heap := w.heap.setIfInBounds b o } : World).heap.size = w.heap.size ∧ ({ w with heap := w.heap.setIfInBounds b o } : World).heap[b]? = some o := fun o =>
    ⟨⟨rfl, rfl, rfl, by simp, fun i _ hn => by simp [Array.getElem?_setIfInBounds_ne (Ne.symm hn)]⟩, by simp, by simp [Array.getElem?_setIfInBounds_self_of_lt (block_lt hb)]⟩
  rcases E.keyed.find w hl es.toList (hes.keys E ht hz) with ⟨g1, g2⟩ | ⟨j, e0, g1, g2, g3⟩
  · obtain ⟨s1, s2, s3⟩ := hset (.map (es.push ⟨enc k, v, c⟩) (c + 1))
    refine semW_of_skip (by simp [muS, Instr.mapUpdate, run_underlying ht, MapKept.run_getObj_map hb, E.keyed.check w _ hl, g1, MapKept.run_setObj_map _ hb, Result.andThen]) (hK _ ⟨_, _, s3, ⟨stamped_push hes.st g2, fun x hx => ?_, fun k' hk' => ?_⟩⟩ s1 s2)
    · simp only [Array.toList_push, List.mem_append, List.mem_singleton] at hx
      rcases hx with hx | rfl
      · obtain ⟨k', h1, h2, h3⟩ := hes.val x hx
        have hne : k' ≠ k := fun e' => g2 x hx (by rw [h2, e'])
        exact ⟨k', h1, h2, by rw [updO_ne hne]; exact h3⟩
      · exact ⟨k, hk, rfl, updO_same f k v⟩
    · by_cases hkk : k' = k
      · subst hkk
        exact ⟨⟨enc k', v, c⟩, by simp, rfl⟩
      · rw [updO_ne hkk] at hk'
        obtain ⟨e0, he, hek⟩ := hes.all k' hk'
        exact ⟨e0, by simp only [Array.toList_push, List.mem_append]; exact .inl he, hek⟩
  · have hj : es[j]? = some e0 := by simpa using g2
    obtain ⟨s1, s2, s3⟩ := hset (.map (es.modify j fun e => { e with key := enc k, val := v }) c)
    have hmem : ∀ i (hi : i < es.toList.length), ∃ e', (es.modify j fun e => { e with key := enc k, val := v }).toList[i]? = some e' ∧ e'.key = es.toList[i].key ∧ e'.val = if i = j then v else es.toList[i].val := fun i hi => by
      rw [Array.toList_modify, List.getElem?_modify, List.getElem?_eq_getElem hi]
      by_cases hij : j = i
      · subst hij
        refine ⟨_, by simp; rfl, ?_, by simp⟩
        have : es.toList[j] = e0 := (List.getElem?_eq_some_iff.1 g2).2
        simp only [this]
        exact g3.symm
      · refine ⟨es.toList[i], by simp [hij], rfl, by simp [Ne.symm hij]⟩
    refine semW_of_skip (by simp [muS, Instr.mapUpdate, run_underlying ht, MapKept.run_getObj_map hb, E.keyed.check w _ hl, g1, hj, g3, E.keyed.stays w hl, MapKept.run_setObj_map _ hb, Result.andThen]) (hK _ ⟨_, _, s3, ⟨?_, fun x hx => ?_, fun k' hk' => ?_⟩⟩ s1 s2)
    · refine stamped_modify hes.st j _ (fun _ _ => rfl) fun x _ hx => ?_
      have : x = e0 := Option.some.inj (hx.symm.trans hj)
      rw [this]; exact g3.symm
    · obtain ⟨i, hi, ex⟩ := List.getElem_of_mem hx
      have hi' : i < es.toList.length := by rw [Array.toList_modify, List.length_modify] at hi; exact hi
      obtain ⟨e', q1, q2, q3⟩ := hmem i hi'
      rw [List.getElem?_eq_getElem hi, ex] at q1
      cases q1
      obtain ⟨k', h1, h2, h3⟩ := hes.val es.toList[i] (List.getElem_mem hi')
      by_cases hij : i = j
      · subst hij
        have : es.toList[i] = e0 := (List.getElem?_eq_some_iff.1 g2).2
        rw [if_pos rfl] at q3
        exact ⟨k, hk, by rw [q2, this]; exact g3, by rw [updO_same, q3]⟩
      · rw [if_neg hij] at q3
        have hne : k' ≠ k := fun e' => by
          have hp := ((stamped_iff es c).1 hes.st).2.2
          have hjl : j < es.toList.length := (List.getElem?_eq_some_iff.1 g2).1
          have hej : es.toList[j] = e0 := (List.getElem?_eq_some_iff.1 g2).2
          rw [List.pairwise_iff_getElem] at hp
          rcases Nat.lt_or_gt_of_ne hij with hlt | hlt
          · exact hp i j hi' hjl hlt (by rw [h2, hej, g3, e'])
          · exact hp j i hjl hi' hlt (by rw [h2, hej, g3, e'])
        exact ⟨k', h1, by rw [q2, h2], by rw [updO_ne hne, q3, h3]⟩
    · have hex : ∃ e1 ∈ es.toList, e1.key = enc k' := by
        by_cases hkk : k' = k
        · subst hkk
          exact ⟨e0, List.mem_of_getElem? g2, g3⟩
        · rw [updO_ne hkk] at hk'
          exact hes.all k' hk'
      obtain ⟨e1, he1, hk1⟩ := hex
      obtain ⟨i, hi, ex⟩ := List.getElem_of_mem he1
      obtain ⟨e', q1, q2, _⟩ := hmem i hi
      exact ⟨e', List.mem_of_getElem? q1, by rw [q2, ex]; exact hk1⟩
end

end Go.Proofs.YtbekeccfjmoonaaDoor
