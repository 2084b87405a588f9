/- Texts of my own, merged by program: Opens. -/
import Derived.Test.YtkdcldbedbagjaaDoorN20
import Derived.Test.YtkdcldbedbagjaaDoorN09
import Derived.Deep.Slices
import Derived.Lib.SmallJoins
set_option linter.all false
/- What arguments read as: lists of wires, lists of squares, a wire. -/
namespace Go.Proofs.YtkdcldbedbagjaaDoor
open Go.ChangeShapes Go.WideShapes Go.ChangeAt Go.RowKit Go.Lf Go.Deep Go.Dt

section
variable {H : Type} {enc : TypeId × Value → H}

theorem und22 : Tryd.prog.underlying 22 = some (.slice 44) := by kernel_rfl
theorem und27 : Tryd.prog.underlying 27 = some (.slice 40) := by kernel_rfl
theorem cellsOf3 : Tryd.prog.cellsOf 3 = 1 := by kernel_rfl
theorem cellsOf40 : Tryd.prog.cellsOf 40 = 2 := by kernel_rfl
theorem cellsOf44 : Tryd.prog.cellsOf 44 = 3 := by kernel_rfl

set_option maxRecDepth 100000 in
theorem open_wires {W : World} {base : Nat} {v : Value} {d : DataW H} {p : List MemPlace} (hv : Value.okWide Tryd.prog W .any base 27 v) (h : DataW.Trod enc Tryd.prog W 0 (fun _ => true) true 27 v d p) : ∃ l, Rd 2 wC W v l := by
  obtain ⟨a0, n0, c0, rfl⟩ := okWide_slice und27 hv
  obtain ⟨fuel, hf⟩ := h
  rcases open_slice und27 hf with ⟨hcs, _⟩ | ⟨a, len, cap, m, n, D, Pl, hcs, _, hl, _, hm, _, hx⟩
  · simp [Value.cells] at hcs
    obtain ⟨rfl, rfl, rfl⟩ := hcs
    exact ⟨[], Rd.nil⟩
  · simp [Value.cells] at hcs
    obtain ⟨rfl, rfl, rfl⟩ := hcs
    simp only [if_true] at hm
    have hm' := hm.symm
    subst hm'
    rw [cellsOf40] at hx
    have each : ∀ i, i < n0 → ∃ t : Int × Int, ∀ j u, (wC t)[j]? = some u → W.cell? (a.add (i * 2 + j)) = some u := fun i hi => by
      obtain ⟨cs', h1, h2⟩ := hx i (by omega)
      obtain ⟨_, hlen, hcell⟩ := World.cells?_some h1
      obtain ⟨y0, y1, n', _, _, t0, t1⟩ := trod_struct2 Tryd.underlying40 h2
      obtain ⟨A, hA, _⟩ := DataW.trod_int und3 t0
      obtain ⟨B, hB, _⟩ := DataW.trod_int und3 t1
      simp only [cellsOf3] at hA hB
      match cs', hlen with
      | [x, y], _ =>
        simp at hA hB
        subst hA; subst hB
        refine ⟨(A, B), fun j u hj => ?_⟩
        have hj4 : j < 2 := by
          have := (List.getElem?_eq_some_iff.1 hj).1
          simpa [wC] using this
        have hc := hcell j hj4
        rw [add_add] at hc
        rw [hc]
        match j, hj4 with
        | 0, _ => exact hj
        | 1, _ => exact hj
    obtain ⟨T, hT⟩ := choose_lt each
    refine ⟨(List.range n0).map T, some a, c0, by simp, by simpa using hl, fun h0 => ?_⟩
    simp only [List.length_map, List.length_range] at h0
    obtain ⟨b, off, spot⟩ := a
    have hspot : spot = none := by simpa [Addr.add] using World.cell?_spot (hT 0 h0 0 _ rfl)
    subst hspot
    refine ⟨b, off, rfl, fun i x hi j u hu => ?_⟩
    rw [List.getElem?_map] at hi
    cases hr : (List.range n0)[i]? with
    | none => rw [hr] at hi; cases hi
    | some k =>
      rw [hr] at hi
      cases hi
      have hk : i < n0 ∧ k = i := by
        have h1 := (List.getElem?_eq_some_iff.1 hr).1
        have h2 := (List.getElem?_eq_some_iff.1 hr).2
        simp at h1 h2
        exact ⟨h1, h2.symm⟩
      obtain ⟨hk1, rfl⟩ := hk
      have := hT k hk1 j u hu
      rw [r_addr] at this
      rw [← Nat.add_assoc] at this
      exact this

set_option maxRecDepth 100000 in
theorem open_squares {W : World} {base : Nat} {v : Value} {d : DataW H} {p : List MemPlace} (hv : Value.okWide Tryd.prog W .any base 22 v) (h : DataW.Trod enc Tryd.prog W 0 (fun _ => true) true 22 v d p) : ∃ l, Rd 3 t3C W v l := by
  obtain ⟨a0, n0, c0, rfl⟩ := okWide_slice und22 hv
  obtain ⟨fuel, hf⟩ := h
  rcases open_slice und22 hf with ⟨hcs, _⟩ | ⟨a, len, cap, m, n, D, Pl, hcs, _, hl, _, hm, _, hx⟩
  · simp [Value.cells] at hcs
    obtain ⟨rfl, rfl, rfl⟩ := hcs
    exact ⟨[], Rd.nil⟩
  · simp [Value.cells] at hcs
    obtain ⟨rfl, rfl, rfl⟩ := hcs
    simp only [if_true] at hm
    have hm' := hm.symm
    subst hm'
    rw [cellsOf44] at hx
    have each : ∀ i, i < n0 → ∃ t : T3, ∀ j u, (t3C t)[j]? = some u → W.cell? (a.add (i * 3 + j)) = some u := fun i hi => by
      obtain ⟨cs', h1, h2⟩ := hx i (by omega)
      obtain ⟨_, hlen, hcell⟩ := World.cells?_some h1
      obtain ⟨y0, y1, y2, n', _, _, t0, t1, t2⟩ := Deep.trod_struct3 Tryd.underlying44 h2
      obtain ⟨A, hA, _⟩ := DataW.trod_int und3 t0
      obtain ⟨B, hB, _⟩ := DataW.trod_int und3 t1
      obtain ⟨C, hC, _⟩ := DataW.trod_int und3 t2
      simp only [cellsOf3] at hA hB hC
      match cs', hlen with
      | [x, y, z], _ =>
        simp at hA hB hC
        subst hA; subst hB; subst hC
        refine ⟨(A, B, C), fun j u hj => ?_⟩
        have hj4 : j < 3 := by
          have := (List.getElem?_eq_some_iff.1 hj).1
          simpa [t3C] using this
        have hc := hcell j hj4
        rw [add_add] at hc
        rw [hc]
        match j, hj4 with
        | 0, _ => exact hj
        | 1, _ => exact hj
        | 2, _ => exact hj
    obtain ⟨T, hT⟩ := choose_lt each
    refine ⟨(List.range n0).map T, some a, c0, by simp, by simpa using hl, fun h0 => ?_⟩
    simp only [List.length_map, List.length_range] at h0
    obtain ⟨b, off, spot⟩ := a
    have hspot : spot = none := by simpa [Addr.add] using World.cell?_spot (hT 0 h0 0 _ rfl)
    subst hspot
    refine ⟨b, off, rfl, fun i x hi j u hu => ?_⟩
    rw [List.getElem?_map] at hi
    cases hr : (List.range n0)[i]? with
    | none => rw [hr] at hi; cases hi
    | some k =>
      rw [hr] at hi
      cases hi
      have hk : i < n0 ∧ k = i := by
        have h1 := (List.getElem?_eq_some_iff.1 hr).1
        have h2 := (List.getElem?_eq_some_iff.1 hr).2
        simp at h1 h2
        exact ⟨h1, h2.symm⟩
      obtain ⟨hk1, rfl⟩ := hk
      have := hT k hk1 j u hu
      rw [r_addr] at this
      rw [← Nat.add_assoc] at this
      exact this

set_option maxRecDepth 100000 in
theorem open_wire {W : World} {base : Nat} {v : Value} {d : DataW H} {p : List MemPlace} (hv : Value.okWide Tryd.prog W .any base 40 v) (h : DataW.Trod enc Tryd.prog W 0 (fun _ => true) true 40 v d p) : ∃ x y : Int, v = .agg #[.int .i64 x, .int .i64 y] ∧ True ∧ True := by
  obtain ⟨cs, rfl, hsz⟩ := okWide_struct Tryd.underlying40 hv
  obtain ⟨fuel, hf⟩ := h
  obtain ⟨y0, y1, n', _, _, t0, t1⟩ := trod_struct2 Tryd.underlying40 hf
  obtain ⟨A, hA, _⟩ := DataW.trod_int und3 t0
  obtain ⟨B, hB, _⟩ := DataW.trod_int und3 t1
  rw [cellsOf40] at hsz
  obtain ⟨l⟩ := cs
  match l, hsz with
  | [x, y], _ =>
    simp only [cellsOf3] at hA hB
    simp [Value.cells] at hA hB
    subst hA
    subst hB
    exact ⟨A, B, rfl, trivial, trivial⟩

end

end Go.Proofs.YtkdcldbedbagjaaDoor
