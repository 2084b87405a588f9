/- Appending records to records. -/
import Derived.Test.YtbekeccfjmoonaaDoorGr
set_option linter.all false
namespace Go.Proofs.YtbekeccfjmoonaaDoor
open Go.Lf Go.RowKit

section
variable {α : Type} {m : Nat} {enc : α → List Value}
theorem recCells_get (he : ∀ x, (enc x).length = m) : ∀ (P : List α) (q : Nat) (u : Value), (recCells enc P)[q]? = some u → ∃ i x j, P[i]? = some x ∧ (enc x)[j]? = some u ∧ q = i * m + j
  | [], q, u, h => by simp [recCells] at h
  | p :: P, q, u, h => by
    by_cases hq : q < m
    · refine ⟨0, p, q, rfl, ?_, by omega⟩
      simp only [recCells, List.flatMap_cons] at h
      rwa [List.getElem?_append_left (by rw [he]; exact hq)] at h
    · simp only [recCells, List.flatMap_cons] at h
      rw [List.getElem?_append_right (by rw [he]; omega), he] at h
      obtain ⟨i, x, j, h1, h2, h3⟩ := recCells_get he P (q - m) u h
      exact ⟨i + 1, x, j, h1, h2, by rw [Nat.add_mul]; omega⟩

theorem RecAt.row {e : TypeId} {base : Nat} {w : World} {v : Value} {P : List α} (h : RecAt e m enc base w v P) {k : Nat} (hk : v.ownBlock = some k) : ∃ cur, w.heap[k]? = some (.cells cur e (0, 0)) := by
  rcases h.2 with ⟨rfl, _⟩ | ⟨g, cap, cur, rfl, _, hg, _⟩
  · cases hk
  · cases hk
    exact ⟨cur, hg⟩

set_option maxRecDepth 100000 in
/-- append(v, src...) at records, src any slice that reads as L. -/
theorem r_apRec {bytes base : Nat} {t e ty : TypeId} {w : World} {v src : Value} {P L : List α} {K : Value → World → Prop} (T : SlT t e m bytes) (he : ∀ x, (enc x).length = m)
    (h1 : ∀ x, ∀ u ∈ enc x, u.oneCell' = true) (hby : bytes ≤ 128) (h : RecAt e m enc base w v P) (hs : Rd m enc w src L) (hn : P.length + L.length ≤ 1000000) (hb : base ≤ w.heap.size)
    (hk : ∀ v' w', RecAt e m enc base w' v' (P ++ L) → Chg (fun k => v.ownBlock = some k) w w' → (∀ k, v'.ownBlock = some k → v.ownBlock = some k ∨ w.heap.size ≤ k) → K v' w') :
    semW Tryd.prog (apS [t, t] ty [v, src]) w K := by
  obtain ⟨a, cap, rfl, hl, hc⟩ := hs
  by_cases h0 : 0 < L.length
  · obtain ⟨b, off, rfl, hcell⟩ := hc h0
    refine r_apAt (news := recCells enc L) T h (recCells_length he L) (fun j u hj => ?_) (fun u hu => ?_) (by omega) hby hb fun v' w' ho c hat => hk v' w' ?_ c hat
    · obtain ⟨i, x, j', e1, e2, rfl⟩ := recCells_get he L j u hj
      rw [r_addr, ← Nat.add_assoc]
      exact hcell i x e1 j' u e2
    · obtain ⟨x, _, hx⟩ := List.mem_flatMap.1 hu
      exact h1 x u hx
    · unfold RecAt
      rw [recCells_append, List.length_append]
      exact ho
  · have e0 : L = [] := List.length_eq_zero_iff.1 (by omega)
    subst e0
    refine r_ap0 T h (hk v w (by simpa using h) (Chg.refl _ _) fun k hk => .inl hk)
end

end Go.Proofs.YtbekeccfjmoonaaDoor
