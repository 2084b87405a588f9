/- Texts of my own, merged by program: Sd Mo. -/
import Derived.Test.YtbekeccfjmoonaaDoorM07
import Derived.Test.YtbekeccfjmoonaaDoorM10
import Derived.Maps.Keyed
import Derived.Maps.RangeRun
set_option linter.all false
/- Lifted texts, printed by program (gen.py): what each function's code asks. The ties are by the kernel. -/
namespace Go.Proofs.YtbekeccfjmoonaaDoor
open Go.Lf Go.RowKit

def S45xL1 (t11 t36 t40 t54 : Value) (next : Value → World → Prop) (w : World) : Prop :=
  Loop1 (.int .i64 0) w fun _ t55 w next_2 =>
    binQ Tryd.prog w .lss 3 false t55 t54 fun t56 =>
    condW t56 (
      semW Tryd.prog (ixS 9 t40 t55) w fun t60 w =>
      binQ Tryd.prog w .eql 5 true t60 (.int .u8 35) fun t61 =>
      Join (fun (k_2 : World → Prop) =>
        condW t61 (
          bdQ Tryd.prog 43 [(0, t55), (1, t36)] fun t64 =>
          boxW 43 (.agg #[(.int .i64 0), (.int .i64 0)]) w fun t8 w =>
          stW Tryd.prog 43 t8 t64 w fun w =>
          Drew w fun w =>
          ncQ t11 fun t66 =>
          fa1 t66 1 fun t67 =>
          ld1 w t67 fun t68 =>
          ldN 2 w t8 fun t69 =>
          ncQ t11 fun t71 =>
          fa1 t71 0 fun t72 =>
          ld1 w t72 fun t73 =>
          ln1 t73 fun t74 =>
          semW Tryd.prog (muS 53 t68 t69 t74) w fun _ w =>
          Drew w fun w =>
          ∃ X : Nat → Prop,
          takeX X w (fun w k => k t11) fun t75 =>
          takeX X w (fun w k => k t11) fun t76 =>
          takeX X w (fun w k => ncQ t76 k) fun t77 =>
          takeX X w (fun w k => fa1 t77 0 k) fun t78 =>
          takeX X w (fun w k => ld1 w t78 k) fun t79 =>
          ldN 2 w t8 fun t80 =>
          bsW Tryd.prog 39 1 [(0, t80)] w <| keepX X w fun t81 w =>
          semW Tryd.prog (apS [39, 39] 39 [t79, t81]) w <| keepX X w fun t82 w =>
          takeX X w (fun w k => ncQ t75 k) fun t83 =>
          takeX X w (fun w k => fa1 t83 0 k) fun t84 =>
          stW Tryd.prog 39 t84 t82 w fun w =>
          k_2 w
        ) (
          k_2 w
        )
      ) fun w =>
      binQ Tryd.prog w .add 3 true t55 (.int .i64 1) fun t85_2 =>
      next_2 t85_2 w
    ) (
      binQ Tryd.prog w .add 3 true t36 (.int .i64 1) fun t86 =>
      next t86 w
    )

def S45xL0 (t0 t11 t35 : Value) (R : Ending → World → Prop) (w : World) : Prop :=
  Loop1 (.int .i64 0) w fun _ t36 w next =>
    binQ Tryd.prog w .lss 3 false t36 t35 fun t37 =>
    condW t37 (
      iaS 1 t0 t36 fun t39 =>
      ld1 w t39 fun t40 =>
      lnS t40 fun t42 =>
      iaS 1 t0 (.int .i64 0) fun t44 =>
      ld1 w t44 fun t45 =>
      lnS t45 fun t46 =>
      binQ Tryd.prog w .neq 3 false t42 t46 fun t47 =>
      gd t47 false (fun k => k t40 w) w fun t49 w =>
      gd t47 false (fun k => callW Tryd.prog (.func (.func 53) #[] #[]) [t49, (.string ⟨#[35, 46]⟩)] w k) w fun t50 w =>
      gd t47 false (fun k => binQ Tryd.prog w .neq 9 true t50 (.string ⟨#[]⟩) fun v => k v w) w fun t51 w =>
      pickQ t47 (.bool true) t51 fun t52 =>
      condW t52 (
        R (.returned (.tuple #[(.pointer none), (.bool false)])) w
      ) (
        lnS t40 fun t54 =>
        S45xL1 t11 t36 t40 t54 next w
      )
    ) (
      Drew w fun w =>
      ncQ t11 fun t89 =>
      fa1 t89 0 fun t90 =>
      ld1 w t90 fun t91 =>
      ln1 t91 fun t92 =>
      binQ Tryd.prog w .gtr 3 true t92 (.int .i64 0) fun t93 =>
      R (.returned (.tuple #[t11, t93])) w
    )

def S45x (t0 : Value) (w : World) (R : Ending → World → Prop) : Prop :=
  mmW w fun t9 w =>
  bdQ Tryd.prog 55 [(1, t9)] fun t10 =>
  boxW 55 t10 w fun t11 w =>
  ln1 t0 fun t13 =>
  binQ Tryd.prog w .lss 3 true t13 (.int .i64 1) fun t14 =>
  gd t14 false (fun k => k t0 w) w fun t16 w =>
  gd t14 false (fun k => ln1 t16 fun v => k v w) w fun t17 w =>
  gd t14 false (fun k => binQ Tryd.prog w .gtr 3 true t17 (.int .i64 4) fun v => k v w) w fun t18 w =>
  pickQ t14 (.bool true) t18 fun t19 =>
  gd t19 false (fun k => k t0 w) w fun t21 w =>
  gd t19 false (fun k => iaS 1 t21 (.int .i64 0) fun v => k v w) w fun t22 w =>
  gd t19 false (fun k => ld1 w t22 fun v => k v w) w fun t23 w =>
  gd t19 false (fun k => lnS t23 fun v => k v w) w fun t24 w =>
  gd t19 false (fun k => binQ Tryd.prog w .lss 3 true t24 (.int .i64 1) fun v => k v w) w fun t25 w =>
  pickQ t19 (.bool true) t25 fun t26 =>
  gd t26 false (fun k => k t0 w) w fun t28 w =>
  gd t26 false (fun k => iaS 1 t28 (.int .i64 0) fun v => k v w) w fun t29 w =>
  gd t26 false (fun k => ld1 w t29 fun v => k v w) w fun t30 w =>
  gd t26 false (fun k => lnS t30 fun v => k v w) w fun t31 w =>
  gd t26 false (fun k => binQ Tryd.prog w .gtr 3 true t31 (.int .i64 4) fun v => k v w) w fun t32 w =>
  pickQ t26 (.bool true) t32 fun t33 =>
  condW t33 (
    R (.returned (.tuple #[(.pointer none), (.bool false)])) w
  ) (
    ln1 t0 fun t35 =>
    S45xL0 t0 t11 t35 R w
  )

def A45x : Ann where
  live := fun
    | 0 => [36]
    | 2 => [55]
    | _ => []
  wr := fun
    | 0 => fun i => (Nat.ble 2 i && Nat.ble i 3) || (Nat.ble 5 i && Nat.ble i 8) || (Nat.ble 36 i && Nat.ble i 86)
    | 2 => fun i => (Nat.ble 7 i && Nat.ble i 8) || (Nat.ble 55 i && Nat.ble i 85)
    | _ => fun _ => false
  sched := fun
    | 14 => (.take 0 (.take 1 (.take 2 (.take 3 (.take 4 (.take 5 (.take 6 (.take 7 (.take 8 (.take 9 (.bar 10 .done)))))))))))
    | 15 => (.cls (.take 0 (.take 1 (.take 2 (.take 3 (.take 4 (.take 5 (.eff 6 (.eff 7 (.take 8 (.take 9 (.bar 10 .done))))))))))))
    | 18 => (.take 0 (.take 1 (.take 2 (.take 3 (.take 4 (.take 5 (.take 6 (.take 7 (.take 8 .done)))))))))
    | _ => .done

set_option maxRecDepth 100000 in
theorem ok45x : (codeOk Tryd.f45.ntmps A45x (Tryd.f45.body.getD .skip) 0 && Nat.ble 1 Tryd.f45.ntmps) = true := by kernel_rfl
set_option maxRecDepth 100000 in
theorem lift45x {t0 : Value} {w : World} {R : Ending → World → Prop} (h : S45x t0 w R) : Calls Tryd.prog 45 #[t0] w R :=
  calls_of_cw (fn := Tryd.f45) (c := Tryd.f45.body.getD .skip) A45x mixes Tryd.func45 (by kernel_rfl) ok45x
    ((by kernel_rfl : (S45x t0 w R) = cw Tryd.prog A45x (Tryd.f45.body.getD .skip) 0 (bodyQ Tryd.prog Tryd.f45 R) (frOf #[t0]) w).mp h)

theorem fok45 : fnOk Tryd.prog 45 = true := by kernel_rfl
end Go.Proofs.YtbekeccfjmoonaaDoor

/- Maps in memory, with whatever keys, as functions to what is there or not: made, looked up, written. -/
namespace Go.Proofs.YtbekeccfjmoonaaDoor
open Go.Lf Go.RowKit Go.MapKept Go.ChangeMaps

structure KeyE {κ : Type} (kt : TypeId) (enc : κ → Value) (ok : κ → Prop) : Prop where
  keyed : Maps.Keyed Tryd.prog kt
  key : ∀ {k : κ}, ok k → ∃ l, keyOf Tryd.prog kt (enc k) = some l
  inj : ∀ {a b : κ}, enc a = enc b → a = b

def updO {κ α : Type} [DecidableEq κ] (f : κ → Option α) (k : κ) (v : α) : κ → Option α := fun x => if x = k then some v else f x
theorem updO_same {κ α : Type} [DecidableEq κ] (f : κ → Option α) (k : κ) (v : α) : updO f k v k = some v := by simp [updO]
theorem updO_ne {κ α : Type} [DecidableEq κ] {f : κ → Option α} {k x : κ} {v : α} (h : x ≠ k) : updO f k v x = f x := by simp [updO, h]

section
variable {κ : Type} [DecidableEq κ] {enc : κ → Value} {ok : κ → Prop}
structure EntsO (enc : κ → Value) (ok : κ → Prop) (es : Array MapEntry) (clock : Nat) (f : κ → Option Value) : Prop where
  st : Stamped es clock
  val : ∀ e ∈ es.toList, ∃ k, ok k ∧ e.key = enc k ∧ f k = some e.val
  all : ∀ k, f k ≠ none → ∃ e ∈ es.toList, e.key = enc k
def MapO (enc : κ → Value) (ok : κ → Prop) (w : World) (b : Nat) (f : κ → Option Value) : Prop := ∃ es clock, w.heap[b]? = some (.map es clock) ∧ EntsO enc ok es clock f

theorem MapO.lt {w : World} {b : Nat} {f : κ → Option Value} (h : MapO enc ok w b f) : b < w.heap.size := let ⟨_, _, h1, _⟩ := h; block_lt h1
theorem MapO.chg {S : Nat → Prop} {w w' : World} {b : Nat} {f : κ → Option Value} (h : MapO enc ok w b f) (hc : Chg S w w') (hs : ¬ S b) : MapO enc ok w' b f :=
  let ⟨es, c, h1, h2⟩ := h; ⟨es, c, hc.at h1 hs, h2⟩
theorem MapO.kp {w w' : World} {b : Nat} {f : κ → Option Value} (h : MapO enc ok w b f) (hk : Kp w w') : MapO enc ok w' b f :=
  let ⟨es, c, h1, h2⟩ := h; ⟨es, c, block_below h1 hk, h2⟩
theorem mapO_new (enc : κ → Value) (ok : κ → Prop) (w : World) : MapO enc ok (w.alloc (.map #[] 0)) w.heap.size (fun _ => none) := ⟨#[], 0, heap_alloc_new w _, ⟨stamped_empty 0, by simp, fun k h => absurd rfl h⟩⟩

variable {kt t e : TypeId} {z : Value} (E : KeyE kt enc ok) (ht : Tryd.prog.underlying t = some (.map kt e)) (hz : ∀ w, (zeroValue e).run Tryd.prog w = .ok z w)
include E ht hz

theorem EntsO.keys {es : Array MapEntry} {clock : Nat} {f : κ → Option Value} (h : EntsO enc ok es clock f) : ∀ x ∈ es.toList, ∃ l, keyOf Tryd.prog kt x.key = some l := fun x hx => by
  obtain ⟨k, hk, e1, _⟩ := h.val x hx
  rw [e1]; exact E.key hk

set_option maxRecDepth 100000 in
theorem run_lkO {w : World} {b : Nat} {f : κ → Option Value} {k : κ} (c : Bool) (h : MapO enc ok w b f) (hk : ok k) :
    (lkS t (.map (some b)) (enc k) c).run Tryd.prog w = .ok (.value (if c = true then .tuple #[(f k).getD z, .bool (f k).isSome] else (f k).getD z)) w := by
  obtain ⟨es, cl, hb, hes⟩ := h
  obtain ⟨l, hl⟩ := E.key hk
  rcases E.keyed.find w hl es.toList (hes.keys E ht hz) with ⟨g1, g2⟩ | ⟨j, e0, g1, g2, g3⟩
  · have hfz : f k = none := by
      refine Classical.byContradiction fun hne => ?_
      obtain ⟨e0, he, hek⟩ := hes.all k hne
      exact g2 e0 he hek
    cases c <;> simp [lkS, Instr.lookup, run_underlying ht, MapKept.run_getObj_map hb, E.keyed.check w _ hl, g1, hz, hfz, Result.andThen]
  · obtain ⟨k', _, e1, e2⟩ := hes.val e0 (List.mem_of_getElem? g2)
    have : k' = k := E.inj (e1.symm.trans g3)
    subst this
    cases c <;> simp [lkS, Instr.lookup, run_underlying ht, MapKept.run_getObj_map hb, E.keyed.check w _ hl, g1, e2, Result.andThen]
theorem r_lkO {w : World} {b : Nat} {f : κ → Option Value} {k : κ} {K : Value → World → Prop} (h : MapO enc ok w b f) (hk : ok k) : semW Tryd.prog (lkS t (.map (some b)) (enc k) false) w K = K ((f k).getD z) w := by
  have := run_lkO E ht hz false h hk
  simp only [semW, this]; rfl
theorem r_lkO2 {w : World} {b : Nat} {f : κ → Option Value} {k : κ} {K : Value → World → Prop} (h : MapO enc ok w b f) (hk : ok k) : semW Tryd.prog (lkS t (.map (some b)) (enc k) true) w K = K (.tuple #[(f k).getD z, .bool (f k).isSome]) w := by
  have := run_lkO E ht hz true h hk
  simp only [semW, this]; rfl
theorem r_lkOG {w : World} {b : Nat} {f : κ → Option Value} {k : κ} {K : Value → Prop} (h : MapO enc ok w b f) (hk : ok k) (hK : K ((f k).getD z)) : genQ Tryd.prog w (lkS t (.map (some b)) (enc k) false) K :=
  ⟨(f k).getD z, fun w' hw => by simpa using run_lkO E ht hz false (h.kp hw) hk, hK⟩
theorem r_lkOG2 {w : World} {b : Nat} {f : κ → Option Value} {k : κ} {K : Value → Prop} (h : MapO enc ok w b f) (hk : ok k) (hK : K (.tuple #[(f k).getD z, .bool (f k).isSome])) : genQ Tryd.prog w (lkS t (.map (some b)) (enc k) true) K :=
  ⟨_, fun w' hw => by simpa using run_lkO E ht hz true (h.kp hw) hk, hK⟩

set_option maxRecDepth 100000 in
theorem r_muO {w : World} {b : Nat} {f : κ → Option Value} {k : κ} {v : Value} {K : Value → World → Prop} (h : MapO enc ok w b f) (hk : ok k)
    (hK : ∀ w', MapO enc ok w' b (updO f k v) → Chg (fun i => i = b) w w' → w'.heap.size = w.heap.size → K undef w') : semW Tryd.prog (muS t (.map (some b)) (enc k) v) w K := by
  obtain ⟨es, c, hb, hes⟩ := h
  obtain ⟨l, hl⟩ := E.key hk
  have hset : ∀ o : Obj, Chg (fun k => k = b) w { w with heap := w.heap.setIfInBounds b o } ∧ ({ w with heap := w.heap.setIfInBounds b o } : World).heap.size = w.heap.size ∧ ({ w with heap := w.heap.setIfInBounds b o } : World).heap[b]? = some o := fun o =>
    ⟨⟨rfl, rfl, rfl, by simp, fun i _ hn => by simp [Array.getElem?_setIfInBounds_ne (Ne.symm hn)]⟩, by simp, by simp [Array.getElem?_setIfInBounds_self_of_lt (block_lt hb)]⟩
  rcases E.keyed.find w hl es.toList (hes.keys E ht hz) with ⟨g1, g2⟩ | ⟨j, e0, g1, g2, g3⟩
  · obtain ⟨s1, s2, s3⟩ := hset (.map (es.push ⟨enc k, v, c⟩) (c + 1))
    refine semW_of_skip (by simp [muS, Instr.mapUpdate, run_underlying ht, MapKept.run_getObj_map hb, E.keyed.check w _ hl, g1, MapKept.run_setObj_map _ hb, Result.andThen]) (hK _ ⟨_, _, s3, ⟨stamped_push hes.st g2, fun x hx => ?_, fun k' hk' => ?_⟩⟩ s1 s2)
    · simp only [Array.toList_push, List.mem_append, List.mem_singleton] at hx
      rcases hx with hx | rfl
      · obtain ⟨k', h1, h2, h3⟩ := hes.val x hx
        have hne : k' ≠ k := fun e' => g2 x hx (by rw [h2, e'])
        exact ⟨k', h1, h2, by rw [updO_ne hne]; exact h3⟩
      · exact ⟨k, hk, rfl, updO_same f k v⟩
    · by_cases hkk : k' = k
      · subst hkk
        exact ⟨⟨enc k', v, c⟩, by simp, rfl⟩
      · rw [updO_ne hkk] at hk'
        obtain ⟨e0, he, hek⟩ := hes.all k' hk'
        exact ⟨e0, by simp only [Array.toList_push, List.mem_append]; exact .inl he, hek⟩
  · have hj : es[j]? = some e0 := by simpa using g2
    obtain ⟨s1, s2, s3⟩ := hset (.map (es.modify j fun e => { e with key := enc k, val := v }) c)
    have hmem : ∀ i (hi : i < es.toList.length), ∃ e', (es.modify j fun e => { e with key := enc k, val := v }).toList[i]? = some e' ∧ e'.key = es.toList[i].key ∧ e'.val = if i = j then v else es.toList[i].val := fun i hi => by
      rw [Array.toList_modify, List.getElem?_modify, List.getElem?_eq_getElem hi]
      by_cases hij : j = i
      · subst hij
        refine ⟨_, by simp; rfl, ?_, by simp⟩
        have : es.toList[j] = e0 := (List.getElem?_eq_some_iff.1 g2).2
        simp only [this]
        exact g3.symm
      · refine ⟨es.toList[i], by simp [hij], rfl, by simp [Ne.symm hij]⟩
    refine semW_of_skip (by simp [muS, Instr.mapUpdate, run_underlying ht, MapKept.run_getObj_map hb, E.keyed.check w _ hl, g1, hj, g3, E.keyed.stays w hl, MapKept.run_setObj_map _ hb, Result.andThen]) (hK _ ⟨_, _, s3, ⟨?_, fun x hx => ?_, fun k' hk' => ?_⟩⟩ s1 s2)
    · refine stamped_modify hes.st j _ (fun _ _ => rfl) fun x _ hx => ?_
      have : x = e0 := Option.some.inj (hx.symm.trans hj)
      rw [this]; exact g3.symm
    · obtain ⟨i, hi, ex⟩ := List.getElem_of_mem hx
      have hi' : i < es.toList.length := by rw [Array.toList_modify, List.length_modify] at hi; exact hi
      obtain ⟨e', q1, q2, q3⟩ := hmem i hi'
      rw [List.getElem?_eq_getElem hi, ex] at q1
      cases q1
      obtain ⟨k', h1, h2, h3⟩ := hes.val es.toList[i] (List.getElem_mem hi')
      by_cases hij : i = j
      · subst hij
        have : es.toList[i] = e0 := (List.getElem?_eq_some_iff.1 g2).2
        rw [if_pos rfl] at q3
        exact ⟨k, hk, by rw [q2, this]; exact g3, by rw [updO_same, q3]⟩
      · rw [if_neg hij] at q3
        have hne : k' ≠ k := fun e' => by
          have hp := ((stamped_iff es c).1 hes.st).2.2
          have hjl : j < es.toList.length := (List.getElem?_eq_some_iff.1 g2).1
          have hej : es.toList[j] = e0 := (List.getElem?_eq_some_iff.1 g2).2
          rw [List.pairwise_iff_getElem] at hp
          rcases Nat.lt_or_gt_of_ne hij with hlt | hlt
          · exact hp i j hi' hjl hlt (by rw [h2, hej, g3, e'])
          · exact hp j i hjl hi' hlt (by rw [h2, hej, g3, e'])
        exact ⟨k', h1, by rw [q2, h2], by rw [updO_ne hne, q3, h3]⟩
    · have hex : ∃ e1 ∈ es.toList, e1.key = enc k' := by
        by_cases hkk : k' = k
        · subst hkk
          exact ⟨e0, List.mem_of_getElem? g2, g3⟩
        · rw [updO_ne hkk] at hk'
          exact hes.all k' hk'
      obtain ⟨e1, he1, hk1⟩ := hex
      obtain ⟨i, hi, ex⟩ := List.getElem_of_mem he1
      obtain ⟨e', q1, q2, _⟩ := hmem i hi
      exact ⟨e', List.mem_of_getElem? q1, by rw [q2, ex]; exact hk1⟩
end

end Go.Proofs.YtbekeccfjmoonaaDoor
