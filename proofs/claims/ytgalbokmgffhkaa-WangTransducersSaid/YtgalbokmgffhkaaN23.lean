/- Texts of my own, merged by program: Opens2. -/
import Derived.Test.YtgalbokmgffhkaaN17
import Derived.Test.YtgalbokmgffhkaaN18
set_option linter.all false
/- What arguments read as: machines, lists of integers. -/
namespace Go.Proofs.Ytgalbokmgffhkaa
open Go.ChangeShapes Go.WideShapes Go.ChangeAt Go.RowKit Go.Lf Go.Deep Go.Wg

section
variable {H : Type} {enc : TypeId × Value → H}

theorem und49 : Try.prog.underlying 49 = some (.slice 102) := by kernel_rfl
theorem cellsOf102 : Try.prog.cellsOf 102 = 3 := by kernel_rfl
theorem cellsOf4 : Try.prog.cellsOf 4 = 1 := by kernel_rfl
theorem cellsOf49 : Try.prog.cellsOf 49 = 1 := by kernel_rfl
theorem cellsOf51 : Try.prog.cellsOf 51 = 2 := by kernel_rfl

set_option maxRecDepth 100000 in
theorem open_intsI {W : World} {base : Nat} {v : Value} {d : DataW H} {p : List MemPlace} (hv : Value.okWide Try.prog W .any base 30 v) (h : DataW.Trod enc Try.prog W 0 (fun _ => true) true 30 v d p) : ∃ l, RdI W v l := by
  obtain ⟨a0, n0, c0, rfl⟩ := okWide_slice und30 hv
  obtain ⟨fuel, hf⟩ := h
  rcases open_ints und30 und3 cellsOf3 hf with ⟨hcs, _⟩ | ⟨a, len, cap, zs, hcs, _, hl, _, hz, _, hc, _⟩
  · simp [Value.cells] at hcs
    obtain ⟨rfl, rfl, rfl⟩ := hcs
    exact ⟨[], none, 0, rfl, Nat.le_refl _, fun h => absurd h (by simp)⟩
  · simp [Value.cells] at hcs
    obtain ⟨rfl, rfl, rfl⟩ := hcs
    simp only [if_true] at hz
    have el : (zs.take n0).length = n0 := by rw [List.length_take]; omega
    refine ⟨zs.take n0, some a, c0, by rw [el], by rw [el]; exact hl, fun h0 => ?_⟩
    rw [el] at h0 ⊢
    obtain ⟨b, off, spot⟩ := a
    have hspot : spot = none := by simpa [Addr.add] using World.cell?_spot (hc 0 (by omega))
    subst hspot
    refine ⟨b, off, rfl, fun j hj => ?_⟩
    have := hc j (by omega)
    rw [r_addr] at this
    rw [this]
    simp [List.getD_eq_getElem?_getD, List.getElem?_take, hj]

set_option maxRecDepth 100000 in
theorem open_table {W : World} {fuel : Nat} {v : Value} {x : DataW H × List MemPlace} (hf : DataW.trod enc Try.prog W 0 (fun _ => true) true fuel 49 [v] = some x) : ∃ T, RdE W v T := by
  rcases open_slice und49 hf with ⟨hcs, _⟩ | ⟨a, n0, c0, m, n, D, Pl, hcs, _, hl, _, hm, _, hx⟩
  · simp at hcs
    subst hcs
    exact ⟨[], Rd.nil⟩
  · simp at hcs
    subst hcs
    simp only [if_true] at hm
    have hm' := hm.symm
    subst hm'
    rw [cellsOf102] at hx
    have each : ∀ i, i < n0 → ∃ t : Ent, ∀ j u, (enC t)[j]? = some u → W.cell? (a.add (i * 3 + j)) = some u := fun i hi => by
      obtain ⟨cs', h1, h2⟩ := hx i (by omega)
      obtain ⟨_, hlen, hcell⟩ := World.cells?_some h1
      obtain ⟨y0, y1, y2, n', _, _, t0, t1, t2⟩ := trod_struct3 Try.underlying102 h2
      obtain ⟨A, hA, _⟩ := DataW.trod_int und3 t0
      obtain ⟨B, hB, _⟩ := DataW.trod_bool und4 t1
      obtain ⟨C, hC, _⟩ := DataW.trod_int und3 t2
      simp only [cellsOf3, cellsOf4] at hA hB hC
      match cs', hlen with
      | [x, y, z], _ =>
        simp at hA hB hC
        subst hA; subst hB; subst hC
        refine ⟨(A, B, C), fun j u hj => ?_⟩
        have hj3 : j < 3 := by
          have := (List.getElem?_eq_some_iff.1 hj).1
          simpa [enC] using this
        have hc := hcell j hj3
        rw [add_add] at hc
        rw [hc]
        match j, hj3 with
        | 0, _ => exact hj
        | 1, _ => exact hj
        | 2, _ => exact hj
    obtain ⟨T, hT⟩ := choose_lt each
    refine ⟨(List.range n0).map T, some a, c0, by simp, by simpa using hl, fun h0 => ?_⟩
    simp only [List.length_map, List.length_range] at h0
    obtain ⟨b, off, spot⟩ := a
    have hspot : spot = none := by simpa [Addr.add] using World.cell?_spot (hT 0 h0 0 _ rfl)
    subst hspot
    refine ⟨b, off, rfl, fun i x hi j u hu => ?_⟩
    rw [List.getElem?_map] at hi
    cases hr : (List.range n0)[i]? with
    | none => rw [hr] at hi; cases hi
    | some k =>
      rw [hr] at hi
      cases hi
      have hk : i < n0 ∧ k = i := by
        have h1 := (List.getElem?_eq_some_iff.1 hr).1
        have h2 := (List.getElem?_eq_some_iff.1 hr).2
        simp at h1 h2
        exact ⟨h1, h2.symm⟩
      obtain ⟨hk1, rfl⟩ := hk
      have := hT k hk1 j u hu
      rw [r_addr] at this
      rw [← Nat.add_assoc] at this
      exact this

set_option maxRecDepth 100000 in
theorem open_mac {W : World} {base : Nat} {v : Value} {d : DataW H} {p : List MemPlace} (hv : Value.okWide Try.prog W .any base 51 v) (h : DataW.Trod enc Try.prog W 0 (fun _ => true) true 51 v d p) : ∃ S tv T, v = macV S tv ∧ RdE W tv T := by
  obtain ⟨cs, rfl, hsz⟩ := okWide_struct Try.underlying51 hv
  obtain ⟨fuel, hf⟩ := h
  obtain ⟨y0, y1, n', _, _, t0, t1⟩ := trod_struct2 Try.underlying51 hf
  obtain ⟨S, hS, _⟩ := DataW.trod_int und3 t0
  rw [cellsOf51] at hsz
  obtain ⟨l⟩ := cs
  match l, hsz with
  | [x, y], _ =>
    simp only [cellsOf3] at hS
    simp [Value.cells] at hS
    subst hS
    rw [cellsOf49] at t1
    obtain ⟨T, hT⟩ := open_table t1
    exact ⟨S, y, T, rfl, hT⟩

end
end Go.Proofs.Ytgalbokmgffhkaa
