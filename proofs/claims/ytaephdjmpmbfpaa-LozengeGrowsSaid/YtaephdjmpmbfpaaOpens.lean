/- What arguments read as: boxes, lists of lists of integers. -/
import Derived.Test.YtaephdjmpmbfpaaSaid
import Derived.Deep.Matrix
import Derived.Deep.Strs
set_option linter.all false
namespace Go.Proofs.Ytaephdjmpmbfpaa
open Go.ChangeShapes Go.WideShapes Go.ChangeAt Go.RowKit Go.Lf Go.Deep

/-- The slice v reads as l, of whatever length. -/
def RdI (w : World) (v : Value) (l : List Int) : Prop :=
  ∃ a cap, v = .slice a l.length cap ∧ (0 < l.length → ∃ b off, a = some ⟨b, off, none⟩ ∧ ∀ i, i < l.length → w.cell? ⟨b, off + i, none⟩ = some (.int .i64 (l.getD i 0)))
/-- The slice v reads as the lists h, of whatever length. -/
def RdR (w : World) (v : Value) (h : List (List Int)) : Prop :=
  ∃ a cap, ∃ vs : Nat → Value, v = .slice a h.length cap ∧ (0 < h.length → ∃ b off, a = some ⟨b, off, none⟩ ∧ ∀ i, i < h.length → w.cell? ⟨b, off + i, none⟩ = some (vs i)) ∧ ∀ i, i < h.length → RdI w (vs i) (h.getD i [])

theorem RdI.small {w : World} {v : Value} {l : List Int} (h : RdI w v l) (hl : l.length ≤ 1000000) : RdInts w v l :=
  let ⟨a, cap, h1, h2⟩ := h; ⟨a, cap, h1, by omega, h2⟩
theorem RdR.small {w : World} {v : Value} {h : List (List Int)} (hr : RdR w v h) (hl : h.length ≤ 1000000) (hr2 : ∀ i, i < h.length → (h.getD i []).length ≤ 1000000) : RdRows w v h :=
  let ⟨a, cap, vs, h1, h2, h3⟩ := hr; ⟨a, cap, vs, h1, by omega, h2, fun i hi => (h3 i hi).small (hr2 i hi)⟩

section
variable {H : Type} {enc : TypeId × Value → H}

set_option maxRecDepth 100000 in
theorem open_box {W : World} {base : Nat} {v : Value} {d : DataW H} {p : List MemPlace} (hv : Value.okWide Try.prog W .any base 25 v) (h : DataW.Trod enc Try.prog W 0 (fun _ => true) true 25 v d p) : ∃ A B C : Int, v = boxV A B C := by
  obtain ⟨cs, rfl, hsz⟩ := okWide_struct Try.underlying25 hv
  obtain ⟨fuel, hf⟩ := h
  obtain ⟨y0, y1, y2, n, _, _, h0, h1, h2⟩ := trod_struct3 Try.underlying25 hf
  obtain ⟨A, hA, _⟩ := DataW.trod_int und3 h0
  obtain ⟨B, hB, _⟩ := DataW.trod_int und3 h1
  obtain ⟨C, hC, _⟩ := DataW.trod_int und3 h2
  have e3 : Try.prog.cellsOf 3 = 1 := by kernel_rfl
  have e25 : Try.prog.cellsOf 25 = 3 := by kernel_rfl
  rw [e25] at hsz
  simp only [e3, Value.cells] at hA hB hC
  refine ⟨A, B, C, ?_⟩
  obtain ⟨l⟩ := cs
  match l, hsz with
  | [x, y, z], _ =>
    simp at hA hB hC
    subst hA; subst hB; subst hC; rfl

theorem und26 : Try.prog.underlying 26 = some (.slice 36) := by kernel_rfl
theorem und36 : Try.prog.underlying 36 = some (.slice 3) := by kernel_rfl
theorem cellsOf36 : Try.prog.cellsOf 36 = 1 := by kernel_rfl
theorem cellsOf3 : Try.prog.cellsOf 3 = 1 := by kernel_rfl

set_option maxRecDepth 100000 in
theorem open_rows {W : World} {base : Nat} {v : Value} {d : DataW H} {p : List MemPlace} (hv : Value.okWide Try.prog W .any base 26 v) (h : DataW.Trod enc Try.prog W 0 (fun _ => true) true 26 v d p) : ∃ l, RdR W v l := by
  obtain ⟨a0, n0, c0, rfl⟩ := okWide_slice und26 hv
  obtain ⟨fuel, hf⟩ := h
  rcases open_int_rows und26 und36 und3 cellsOf36 cellsOf3 hf with ⟨hcs, _⟩ | ⟨a, len, cap, A, L, C, Z, hcs, _, hl, _, _, hx⟩
  · simp [Value.cells] at hcs
    obtain ⟨rfl, rfl, rfl⟩ := hcs
    exact ⟨[], none, 0, fun _ => undef, rfl, fun h => absurd h (by simp), fun i hi => absurd hi (by simp)⟩
  · simp [Value.cells] at hcs
    obtain ⟨rfl, rfl, rfl⟩ := hcs
    refine ⟨(List.range n0).map fun r => (Z r).take (L r), some a, c0, fun r => .slice (A r) (L r) (C r), by simp, fun h0 => ?_, fun i hi => ?_⟩
    · simp only [List.length_map, List.length_range] at h0 ⊢
      obtain ⟨b, off, spot⟩ := a
      have hspot : spot = none := by simpa [Addr.add] using World.cell?_spot (hx 0 (by omega)).1
      subst hspot
      refine ⟨b, off, rfl, fun i hi => ?_⟩
      have := (hx i (by omega)).1
      rwa [r_addr] at this
    · simp only [List.length_map, List.length_range] at hi
      obtain ⟨_, g1, _, g3, _, _, g6⟩ := hx i (by omega)
      have e : ((List.range n0).map fun r => (Z r).take (L r)).getD i [] = (Z i).take (L i) := by simp [List.getD_eq_getElem?_getD, hi]
      rw [e]
      have el : ((Z i).take (L i)).length = L i := by rw [List.length_take]; omega
      refine ⟨A i, C i, by rw [el], fun h0 => ?_⟩
      rw [el] at h0 ⊢
      cases hA : A i with
      | none =>
        have := (hx i (by omega)).2.2.2.2.2.1 hA
        omega
      | some a' =>
        obtain ⟨_, hcell⟩ := g6 a' hA
        obtain ⟨b, off, spot⟩ := a'
        have hspot : spot = none := by simpa [Addr.add] using World.cell?_spot (hcell 0 (by omega))
        subst hspot
        refine ⟨b, off, rfl, fun j hj => ?_⟩
        have := hcell j (by omega)
        rw [r_addr] at this
        rw [this]
        simp [List.getD_eq_getElem?_getD, List.getElem?_take, hj]

end

end Go.Proofs.Ytaephdjmpmbfpaa
