/- What arguments read as: sets of tiles, lists of lists of integers, lists of integers. -/
import Derived.Test.YtgalbokmgffhkaaSaid
import Derived.Test.YtgalbokmgffhkaaA1
import Derived.Deep.Matrix
import Derived.Deep.Strs
import Derived.Deep.Slices
import Derived.Lib.SmallJoins
set_option linter.all false
namespace Go.Proofs.Ytgalbokmgffhkaa
open Go.ChangeShapes Go.WideShapes Go.ChangeAt Go.RowKit Go.Lf Go.Deep Go.Wg

/-- The slice v reads as l, of whatever length. -/
def RdI (w : World) (v : Value) (l : List Int) : Prop :=
  ∃ a cap, v = .slice a l.length cap ∧ l.length ≤ cap ∧ (0 < l.length → ∃ b off, a = some ⟨b, off, none⟩ ∧ ∀ i, i < l.length → w.cell? ⟨b, off + i, none⟩ = some (.int .i64 (l.getD i 0)))
/-- The slice v reads as the lists h, of whatever length. -/
def RdR (w : World) (v : Value) (h : List (List Int)) : Prop :=
  ∃ a cap, ∃ vs : Nat → Value, v = .slice a h.length cap ∧ h.length ≤ cap ∧ (0 < h.length → ∃ b off, a = some ⟨b, off, none⟩ ∧ ∀ i, i < h.length → w.cell? ⟨b, off + i, none⟩ = some (vs i)) ∧ ∀ i, i < h.length → RdI w (vs i) (h.getD i [])

theorem RdI.small {w : World} {v : Value} {l : List Int} (h : RdI w v l) (hl : l.length ≤ 1000000) : RdInts w v l :=
  let ⟨a, cap, h1, h2, h3⟩ := h; ⟨a, cap, h1, ⟨by omega, h2⟩, h3⟩
theorem RdR.small {w : World} {v : Value} {h : List (List Int)} (hr : RdR w v h) (hl : h.length ≤ 1000000) (hr2 : ∀ i, i < h.length → (h.getD i []).length ≤ 1000000) : RdRows w v h :=
  let ⟨a, cap, vs, h1, h2, h3, h4⟩ := hr; ⟨a, cap, vs, h1, by omega, h3, fun i hi => (h4 i hi).small (hr2 i hi)⟩

section
variable {H : Type} {enc : TypeId × Value → H}

theorem und22 : Try.prog.underlying 22 = some (.slice 32) := by kernel_rfl
theorem und23 : Try.prog.underlying 23 = some (.slice 30) := by kernel_rfl
theorem und30 : Try.prog.underlying 30 = some (.slice 3) := by kernel_rfl
theorem cellsOf30 : Try.prog.cellsOf 30 = 1 := by kernel_rfl
theorem cellsOf3 : Try.prog.cellsOf 3 = 1 := by kernel_rfl
theorem cellsOf32 : Try.prog.cellsOf 32 = 4 := by kernel_rfl

set_option maxRecDepth 100000 in
theorem open_rows {W : World} {base : Nat} {v : Value} {d : DataW H} {p : List MemPlace} (hv : Value.okWide Try.prog W .any base 23 v) (h : DataW.Trod enc Try.prog W 0 (fun _ => true) true 23 v d p) : ∃ l, RdR W v l := by
  obtain ⟨a0, n0, c0, rfl⟩ := okWide_slice und23 hv
  obtain ⟨fuel, hf⟩ := h
  rcases open_int_rows und23 und30 und3 cellsOf30 cellsOf3 hf with ⟨hcs, _⟩ | ⟨a, len, cap, A, L, C, Z, hcs, _, hl, _, _, hx⟩
  · simp [Value.cells] at hcs
    obtain ⟨rfl, rfl, rfl⟩ := hcs
    exact ⟨[], none, 0, fun _ => undef, rfl, Nat.le_refl _, fun h => absurd h (by simp), fun i hi => absurd hi (by simp)⟩
  · simp [Value.cells] at hcs
    obtain ⟨rfl, rfl, rfl⟩ := hcs
    refine ⟨(List.range n0).map fun r => (Z r).take (L r), some a, c0, fun r => .slice (A r) (L r) (C r), by simp, by simpa using hl, fun h0 => ?_, fun i hi => ?_⟩
    · simp only [List.length_map, List.length_range] at h0 ⊢
      obtain ⟨b, off, spot⟩ := a
      have hspot : spot = none := by simpa [Addr.add] using World.cell?_spot (hx 0 (by omega)).1
      subst hspot
      refine ⟨b, off, rfl, fun i hi => ?_⟩
      have := (hx i (by omega)).1
      rwa [r_addr] at this
    · simp only [List.length_map, List.length_range] at hi
      obtain ⟨_, g1, _, g3, _, _, g6⟩ := hx i (by omega)
      have e : ((List.range n0).map fun r => (Z r).take (L r)).getD i [] = (Z i).take (L i) := by simp [List.getD_eq_getElem?_getD, hi]
      rw [e]
      have el : ((Z i).take (L i)).length = L i := by rw [List.length_take]; omega
      refine ⟨A i, C i, by rw [el], by rw [el]; exact g1, fun h0 => ?_⟩
      rw [el] at h0 ⊢
      cases hA : A i with
      | none =>
        have := (hx i (by omega)).2.2.2.2.2.1 hA
        omega
      | some a' =>
        obtain ⟨_, hcell⟩ := g6 a' hA
        obtain ⟨b, off, spot⟩ := a'
        have hspot : spot = none := by simpa [Addr.add] using World.cell?_spot (hcell 0 (by omega))
        subst hspot
        refine ⟨b, off, rfl, fun j hj => ?_⟩
        have := hcell j (by omega)
        rw [r_addr] at this
        rw [this]
        simp [List.getD_eq_getElem?_getD, List.getElem?_take, hj]

set_option maxRecDepth 100000 in
theorem open_set {W : World} {base : Nat} {v : Value} {d : DataW H} {p : List MemPlace} (hv : Value.okWide Try.prog W .any base 22 v) (h : DataW.Trod enc Try.prog W 0 (fun _ => true) true 22 v d p) : ∃ l, RdT W v l := by
  obtain ⟨a0, n0, c0, rfl⟩ := okWide_slice und22 hv
  obtain ⟨fuel, hf⟩ := h
  rcases open_slice und22 hf with ⟨hcs, _⟩ | ⟨a, len, cap, m, n, D, Pl, hcs, _, hl, _, hm, _, hx⟩
  · simp [Value.cells] at hcs
    obtain ⟨rfl, rfl, rfl⟩ := hcs
    exact ⟨[], Rd.nil⟩
  · simp [Value.cells] at hcs
    obtain ⟨rfl, rfl, rfl⟩ := hcs
    simp only [if_true] at hm
    have hm' := hm.symm
    subst hm'
    rw [cellsOf32] at hx
    have each : ∀ i, i < n0 → ∃ t : Tile, ∀ j u, (tlC t)[j]? = some u → W.cell? (a.add (i * 4 + j)) = some u := fun i hi => by
      obtain ⟨cs', h1, h2⟩ := hx i (by omega)
      obtain ⟨_, hlen, hcell⟩ := World.cells?_some h1
      obtain ⟨y0, y1, y2, y3, n', _, _, t0, t1, t2, t3⟩ := Go.Joins.trod_struct4 Try.underlying32 h2
      obtain ⟨A, hA, _⟩ := DataW.trod_int und3 t0
      obtain ⟨B, hB, _⟩ := DataW.trod_int und3 t1
      obtain ⟨C, hC, _⟩ := DataW.trod_int und3 t2
      obtain ⟨E, hE, _⟩ := DataW.trod_int und3 t3
      simp only [cellsOf3] at hA hB hC hE
      match cs', hlen with
      | [x, y, z, u], _ =>
        simp at hA hB hC hE
        subst hA; subst hB; subst hC; subst hE
        refine ⟨(A, B, C, E), fun j u hj => ?_⟩
        have hj4 : j < 4 := by
          have := (List.getElem?_eq_some_iff.1 hj).1
          simpa [tlC] using this
        have hc := hcell j hj4
        rw [add_add] at hc
        rw [hc]
        match j, hj4 with
        | 0, _ => exact hj
        | 1, _ => exact hj
        | 2, _ => exact hj
        | 3, _ => exact hj
    obtain ⟨T, hT⟩ := choose_lt each
    refine ⟨(List.range n0).map T, some a, c0, by simp, by simpa using hl, fun h0 => ?_⟩
    simp only [List.length_map, List.length_range] at h0
    obtain ⟨b, off, spot⟩ := a
    have hspot : spot = none := by simpa [Addr.add] using World.cell?_spot (hT 0 h0 0 _ rfl)
    subst hspot
    refine ⟨b, off, rfl, fun i x hi j u hu => ?_⟩
    rw [List.getElem?_map] at hi
    cases hr : (List.range n0)[i]? with
    | none => rw [hr] at hi; cases hi
    | some k =>
      rw [hr] at hi
      cases hi
      have hk : i < n0 ∧ k = i := by
        have h1 := (List.getElem?_eq_some_iff.1 hr).1
        have h2 := (List.getElem?_eq_some_iff.1 hr).2
        simp at h1 h2
        exact ⟨h1, h2.symm⟩
      obtain ⟨hk1, rfl⟩ := hk
      have := hT k hk1 j u hu
      rw [r_addr] at this
      rw [← Nat.add_assoc] at this
      exact this

end

end Go.Proofs.Ytgalbokmgffhkaa
