/- The law TopHall, plainly: weights of too few neighbours, signs of colours. -/
import Derived.Test.YtbekeccfjmoonaaDoorTr
set_option linter.all false
namespace Go.Proofs.YtbekeccfjmoonaaDoor
open Go.Lf Go.RowKit Go.Ht

def sgnC (c : C2) : Int := 1 - 2 * ((c.1 + c.2) % 2)
theorem sgn_or (c : C2) : sgnC c = 1 ∨ sgnC c = -1 := by unfold sgnC; omega
theorem sgn_adj {a b : C2} (h : adjC a b) : sgnC a + sgnC b = 0 := by
  unfold adjC at h
  unfold sgnC
  omega
theorem step_adj (c : C2) (k : Nat) : adjC c (stepC c (domS k)) := by
  unfold adjC stepC
  rcases domS_or k with e | e <;> rw [e] <;> dsimp only <;> omega
theorem map_getD {P : List C2} (f : C2 → Int) {c : C2} (h : c ∈ P) : (P.map f).getD (numI P c).toNat 0 = f c := by
  have hl : P.idxOf c < P.length := List.idxOf_lt_length_iff.2 h
  unfold numI
  rw [Int.toNat_natCast, getD_lt _ _ _ (by simpa using hl), List.getElem_map, List.getElem_idxOf hl]
theorem sum_put {P : List C2} (f : C2 → Int) {p : Pu} (hp : p ∈ putsU P) : sumC (P.map f) (covOf P p) = f p.2 + f (stepC p.2 (domS p.1)) := by
  obtain ⟨h1, h2, _⟩ := putsU_mem hp
  simp only [sumC, covOf, List.map_cons, List.map_nil, List.sum_cons, List.sum_nil]
  rw [map_getD f h1, map_getD f h2]; omega
theorem atW_vals (out : List C2) (a : C2) : atW out a = 1 ∨ atW out a = -1 ∨ atW out a = 0 := by
  unfold atW
  split
  · exact .inl rfl
  · split
    · exact .inr (.inl rfl)
    · exact .inr (.inr rfl)
theorem atW_adj {out : List C2} {b : Bool} (hc : ∀ x ∈ out, blackC x = b) {a c : C2} (h : adjC a c) : atW out a + atW out c ≤ 0 := by
  have key : ∀ {x y : C2}, adjC x y → x ∈ out → atW out x = 1 ∧ atW out y = -1 := fun {x y} hxy hx => by
    have hy : y ∉ out := fun hy => by
      have h1 := hxy.colour
      rw [hc x hx, hc y hy] at h1
      cases b <;> cases h1
    have hn : nearB out y = true := nearB_iff.2 ⟨x, hx, hxy⟩
    unfold atW inB
    rw [decide_eq_true hx, decide_eq_false hy, hn]
    exact ⟨rfl, rfl⟩
  by_cases ha : a ∈ out
  · obtain ⟨h1, h2⟩ := key h ha; omega
  · by_cases hcm : c ∈ out
    · obtain ⟨h1, h2⟩ := key h.symm hcm; omega
    · have z : ∀ {x : C2}, x ∉ out → atW out x ≤ 0 := fun {x} hx => by
        unfold atW inB
        rw [decide_eq_false hx, if_neg (by simp)]
        split <;> decide
      have := z ha
      have := z hcm
      omega
theorem above_ok {l : List ByteArray} {out : List C2} (h : HallOut l out) : (decide (0 < ((cellsB l).map (atW out)).sum) && !((putS ((cellsB l).map (atW out)) (cellsB l)).any fun n => decide (0 < n))) = true := by
  rw [decide_eq_true h.sum, Bool.true_and]
  have : ((putS ((cellsB l).map (atW out)) (cellsB l)).any fun n => decide (0 < n)) = false := by
    rw [List.any_eq_false]
    intro n hn
    unfold putS sumsC at hn
    obtain ⟨p, hp, rfl⟩ := List.mem_map.1 hn
    rw [sum_put _ hp]
    obtain ⟨b, hb⟩ := h.col
    have := atW_adj hb (step_adj p.2 p.1)
    rw [decide_eq_false (by omega)]; decide
  rw [this]; rfl
theorem whole_ok (l : List ByteArray) : (!decide (((cellsB l).map sgnC).sum.tmod 2 = 0) && !((putS ((cellsB l).map sgnC) (cellsB l)).any fun n => !decide (n.tmod 2 = 0))) = !decide (((cellsB l).map sgnC).sum.tmod 2 = 0) := by
  have : ((putS ((cellsB l).map sgnC) (cellsB l)).any fun n => !decide (n.tmod 2 = 0)) = false := by
    rw [List.any_eq_false]
    intro n hn
    unfold putS sumsC at hn
    obtain ⟨p, hp, rfl⟩ := List.mem_map.1 hn
    rw [sum_put _ hp, sgn_adj (step_adj p.2 p.1)]
    decide
  rw [this]; simp
instance (a b : C2) : Decidable (adjC a b) := by unfold adjC; exact inferInstance
theorem atW_take {out : List C2} {b : Bool} (hc : ∀ x ∈ out, blackC x = b) {i : Nat} (hi : i < out.length) (c : C2) :
    atW (out.take (i + 1)) c = if adjC (out.getD i (0, 0)) c then -1 else if out.getD i (0, 0) = c then 1 else atW (out.take i) c := by
  have ht : out.take (i + 1) = out.take i ++ [out.getD i (0, 0)] := by rw [take_succ' _ _ hi, getD_lt out i (0, 0) hi]
  have hm : out.getD i (0, 0) ∈ out := getD_mem hi
  generalize out.getD i (0, 0) = d at *
  rw [ht]
  by_cases ha : adjC d c
  · rw [if_pos ha]
    have hn : c ∉ out.take i ++ [d] := fun h => by
      have hc' : c ∈ out := by
        rcases List.mem_append.1 h with h | h
        · exact List.mem_of_mem_take h
        · rw [List.mem_singleton.1 h]; exact hm
      have h1 := ha.colour
      rw [hc d hm, hc c hc'] at h1
      cases b <;> cases h1
    unfold atW inB
    rw [decide_eq_false hn, if_neg (by simp), if_pos (nearB_iff.2 ⟨d, by simp, ha⟩)]
  · rw [if_neg ha]
    by_cases hd : d = c
    · rw [if_pos hd]
      unfold atW inB
      rw [decide_eq_true (by simp [hd]), if_pos rfl]
    · rw [if_neg hd]
      unfold atW
      have e1 : inB (out.take i ++ [d]) c = inB (out.take i) c := by
        unfold inB
        rw [decide_eq_decide]
        rw [List.mem_append, List.mem_singleton]
        exact ⟨fun h => h.resolve_right fun e => hd e.symm, .inl⟩
      have e2 : nearB (out.take i ++ [d]) c = nearB (out.take i) c := by
        have : nearB (out.take i ++ [d]) c = true ↔ nearB (out.take i) c = true := by
          rw [nearB_iff, nearB_iff]
          constructor
          · rintro ⟨x, hx, h⟩
            rcases List.mem_append.1 hx with hx | hx
            · exact ⟨x, hx, h⟩
            · rw [List.mem_singleton.1 hx] at h; exact absurd h ha
          · rintro ⟨x, hx, h⟩; exact ⟨x, List.mem_append_left _ hx, h⟩
        cases q : nearB (out.take i) c with
        | true => exact this.2 q
        | false =>
          cases q' : nearB (out.take i ++ [d]) c with
          | false => rfl
          | true => rw [this.1 q'] at q; cases q
      rw [e1, e2]
theorem sq8 {d : Int} (h : -8 ≤ d ∧ d ≤ 8) : 0 ≤ d * d ∧ d * d ≤ 64 ∧ (d * d ≤ 1 → -1 ≤ d ∧ d ≤ 1) := by
  have : d = -8 ∨ d = -7 ∨ d = -6 ∨ d = -5 ∨ d = -4 ∨ d = -3 ∨ d = -2 ∨ d = -1 ∨ d = 0 ∨ d = 1 ∨ d = 2 ∨ d = 3 ∨ d = 4 ∨ d = 5 ∨ d = 6 ∨ d = 7 ∨ d = 8 := by omega
  rcases this with rfl | rfl | rfl | rfl | rfl | rfl | rfl | rfl | rfl | rfl | rfl | rfl | rfl | rfl | rfl | rfl | rfl <;> decide
theorem sq_one {a b : Int} (ha : -8 ≤ a ∧ a ≤ 8) (hb : -8 ≤ b ∧ b ≤ 8) : a * a + b * b = 1 ↔ (a = 0 ∧ (b = 1 ∨ b = -1)) ∨ (b = 0 ∧ (a = 1 ∨ a = -1)) := by
  obtain ⟨a0, a1, a2⟩ := sq8 ha
  obtain ⟨b0, b1, b2⟩ := sq8 hb
  constructor
  · intro h
    have x := a2 (by omega)
    have y := b2 (by omega)
    have hx : a = -1 ∨ a = 0 ∨ a = 1 := by omega
    have hy : b = -1 ∨ b = 0 ∨ b = 1 := by omega
    rcases hx with rfl | rfl | rfl <;> rcases hy with rfl | rfl | rfl <;> revert h <;> decide
  · rintro (⟨rfl, rfl | rfl⟩ | ⟨rfl, rfl | rfl⟩) <;> decide
theorem adj_sub (d c : C2) : adjC d c ↔ ((d.1 - c.1 = 0 ∧ (d.2 - c.2 = 1 ∨ d.2 - c.2 = -1)) ∨ (d.2 - c.2 = 0 ∧ (d.1 - c.1 = 1 ∨ d.1 - c.1 = -1))) := by
  unfold adjC
  omega

end Go.Proofs.YtbekeccfjmoonaaDoor
