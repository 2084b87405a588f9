/- slices.Sort and slices.Compact at integers of one's own, by the shelf. -/
import Derived.Test.YtgalbokmgffhkaaG3a
import Derived.Test.YtgalbokmgffhkaaB7
set_option linter.all false
namespace Go.Proofs.Ytgalbokmgffhkaa
open Go.Lf Go.RowKit Go.Wg Go.Shelf Go.Proofs

theorem put_ints {base : Nat} {w : World} {g cap n k : Nat} {cur : Array Value} {d d' : Array Int} {os : Array Obj} (hg : w.heap[g]? = some (.cells cur 3 (0, 0))) (hb : base ≤ g) (hm : cap ≤ maxLen) (hs : cur.size = cap * 1) (hd : d.size ≤ cap) (hdd : d'.size = d.size) (hH : Go.Sort.Holds (Value.int .i64) w g 0 d) (hk : k ≤ d'.size) :
    IntsAt base (sortWorld (Value.int .i64) w g 0 n d' os) (.slice (some ⟨g, 0, none⟩) k cap) (d'.toList.take k) := by
  have hHd := holds_sortWorld (Value.int .i64) w g 0 n d d' os (block_lt hg) hH hdd
  have hblk : (sortWorld (Value.int .i64) w g 0 n d' os).heap[g]? = some (.cells (Go.Sort.putCells (Value.int .i64) 0 d' cur) 3 (0, 0)) := by
    have hgl := block_lt hg
    show ((w.heap.modify g _) ++ os)[g]? = _
    rw [Array.getElem?_append_left (by simpa using hgl), Array.getElem?_modify, if_pos rfl, hg]
    rfl
  have hlen : (d'.toList.take k).length = k := by simp; omega
  refine ⟨by rw [recCells_length iC_len], .inr ⟨g, cap, _, by rw [hlen], hb, hblk, by omega, hm, by simp [Go.Sort.putCells, hs], ?_⟩⟩
  have e1 : recCells iC (d'.toList.take k) = (d'.toList.take k).map (.int .i64) := rec_ints _
  rw [e1, hlen, Nat.mul_one]
  apply List.ext_getElem?
  intro t
  rw [List.getElem?_take]
  by_cases hlt : t < k
  · rw [if_pos hlt]
    have := (hHd t (by omega)).1
    rw [Nat.zero_add, cell_row hblk] at this
    rw [Array.getElem?_toList, this]
    have ht : t < d'.size := by omega
    simp [hlt, ht]
  · rw [if_neg hlt]
    rw [List.getElem?_eq_none (by simp; omega)]

theorem holds_ints {base : Nat} {w : World} {g cap : Nat} {l : List Int} {cur : Array Value} (hg : w.heap[g]? = some (.cells cur 3 (0, 0))) (ht : cur.toList.take (l.length * 1) = recCells iC l) : Go.Sort.Holds (Value.int .i64) w g 0 l.toArray := by
  intro j hj
  have hj' : j < l.length := by simpa using hj
  rw [Nat.zero_add, cell_row hg]
  refine ⟨?_, frozen_row hg⟩
  rw [rec_ints, Nat.mul_one] at ht
  rw [← Array.getElem?_toList]
  have : cur.toList[j]? = (l.map (Value.int .i64))[j]? := by
    conv => rhs; rw [← ht]
    rw [List.getElem?_take, if_pos hj']
  rw [this]
  simp [hj']

set_option maxRecDepth 100000 in
theorem sortI_calls {base : Nat} {v : Value} {l : List Int} {w : World} (h : IntsAt base w v l) (hl : l.length ≤ 1000000) :
    Calls Try.prog 97 #[v] w fun e w' => e = .returned (.tuple #[]) ∧ IntsAt base w' v (l.mergeSort fun x y => decide (x ≤ y)) ∧ Chg (fun k => v.ownBlock = some k) w w' := by
  by_cases h0 : l.length = 0
  · have el : l = [] := List.length_eq_zero_iff.1 h0
    subst el
    obtain ⟨a, cap, rfl, _⟩ := h.len
    have hcon := AnyM.slices_Sort_int_none sortI a cap w
    change Calls Try.prog 97 _ _ _ at hcon
    refine hcon.mono ?_
    rintro e w' ⟨rfl, rfl⟩
    exact ⟨rfl, by simpa using h, Chg.refl _ _⟩
  obtain ⟨g, cap, cur, rfl, hb, hg, hle, hm, hs, ht⟩ := h.blk (by omega)
  have hH := holds_ints (base := base) (cap := cap) hg ht
  have hcon := AnyM.slices_Sort_int sortI g 0 cap l w hH (block_lt hg) (by omega)
  change Calls Try.prog 97 _ _ _ at hcon
  refine hcon.mono ?_
  rintro e w' ⟨rfl, n, os, rfl⟩
  have hp := put_ints (base := base) (n := n) (os := os) (d := l.toArray) (d' := (l.mergeSort fun x y => decide (x ≤ y)).toArray) (k := l.length) hg hb hm hs (by simpa using hle) (by simp) hH (by simp)
  refine ⟨rfl, ?_, (chg_sort (Value.int .i64) w g n _ os).mono fun k _ e => by rw [e]; rfl⟩
  have e1 : (l.mergeSort fun x y => decide (x ≤ y)).take l.length = l.mergeSort fun x y => decide (x ≤ y) := List.take_of_length_le (by simp)
  simp only [e1] at hp
  exact hp

set_option maxRecDepth 100000 in
theorem compI_calls {base : Nat} {v : Value} {l : List Int} {w : World} (h : IntsAt base w v l) (hl : l.length ≤ 1000000) :
    Calls Try.prog 98 #[v] w fun e w' => ∃ v', e = .returned v' ∧ IntsAt base w' v' (Go.Lib.compact l) ∧ Chg (fun k => v.ownBlock = some k) w w' := by
  by_cases h0 : l.length = 0
  · have el : l = [] := List.length_eq_zero_iff.1 h0
    subst el
    obtain ⟨a, cap, rfl, _⟩ := h.len
    have hcon := AnyG.slices_Compact_int_empty cmpI a cap w
    change Calls Try.prog 98 _ _ _ at hcon
    refine hcon.mono ?_
    rintro e w' ⟨rfl, rfl⟩
    exact ⟨_, rfl, h, Chg.refl _ _⟩
  obtain ⟨g, cap, cur, rfl, hb, hg, hle, hm, hs, ht⟩ := h.blk (by omega)
  have hH := holds_ints (base := base) (cap := cap) hg ht
  have hcon := AnyG.slices_Compact_int cmpI g 0 cap l w hH (by omega) hle
  change Calls Try.prog 98 _ _ _ at hcon
  refine hcon.mono ?_
  rintro e w' ⟨rfl, n, rfl⟩
  have hclen : (Go.Lib.compact l).length ≤ l.length := by
    unfold Go.Lib.compact Go.Lib.compactUpTo
    rw [List.length_map]
    exact Nat.le_trans (List.length_filter_le _ _) (by simp)
  have hp := put_ints (base := base) (n := n) (os := #[]) (d := l.toArray) (d' := (Go.Lib.compact l ++ List.replicate (l.length - (Go.Lib.compact l).length) 0).toArray) (k := (Go.Lib.compact l).length) hg hb hm hs (by simpa using hle) (by simp; omega) hH (by simp)
  have ew : sortWorld (Value.int .i64) w g 0 n (Go.Lib.compact l ++ List.replicate (l.length - (Go.Lib.compact l).length) 0).toArray #[] = Go.Sort.putRow (Value.int .i64) (Go.Sort.ahead w n) g 0 (Go.Lib.compact l ++ List.replicate (l.length - (Go.Lib.compact l).length) 0).toArray := by
    simp [sortWorld, Go.Sort.grow]
    rfl
  rw [ew] at hp
  refine ⟨_, rfl, ?_, ?_⟩
  · simpa using hp
  · have hc := chg_sort (Value.int .i64) w g n (Go.Lib.compact l ++ List.replicate (l.length - (Go.Lib.compact l).length) 0).toArray #[]
    rw [ew] at hc
    exact hc.mono fun k _ e => by rw [e]; rfl

end Go.Proofs.Ytgalbokmgffhkaa
