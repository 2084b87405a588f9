/- Texts of my own, merged by program: Hb Tc. -/
import Derived.Test.YtfmppkplmfbjpaaGreatDoorM09
set_option linter.all false
/- Cells with too few neighbours, plainly: their weights add up to more than nothing. No program. -/
namespace Go.Ht

theorem nodup_len {α : Type} [DecidableEq α] : ∀ {l1 l2 : List α}, l1.Pairwise (· ≠ ·) → (∀ x ∈ l1, x ∈ l2) → l1.length ≤ l2.length
  | [], _, _, _ => Nat.zero_le _
  | a :: t, l2, h, hs => by
    have h' := List.pairwise_cons.1 h
    have ha := hs a (List.mem_cons_self ..)
    have := nodup_len (l1 := t) (l2 := l2.erase a) h'.2 fun x hx => (List.mem_erase_of_ne (Ne.symm (h'.1 x hx))).2 (hs x (List.mem_cons_of_mem _ hx))
    rw [List.length_erase_of_mem ha] at this
    have hp : 0 < l2.length := List.length_pos_of_mem ha
    rw [List.length_cons]; omega

/-- Is a cell a neighbour of one of the list? -/
def nearB (out : List C2) (a : C2) : Bool := out.any fun c => decide ((c.1 = a.1 ∧ (c.2 = a.2 + 1 ∨ a.2 = c.2 + 1)) ∨ (c.2 = a.2 ∧ (c.1 = a.1 + 1 ∨ a.1 = c.1 + 1)))
theorem nearB_iff {out : List C2} {a : C2} : nearB out a = true ↔ ∃ c ∈ out, adjC c a := by
  unfold nearB adjC
  rw [List.any_eq_true]
  simp only [decide_eq_true_eq]
def inB (out : List C2) (a : C2) : Bool := decide (a ∈ out)
/-- The weight of a cell. -/
def atW (out : List C2) (a : C2) : Int := if inB out a = true then 1 else if nearB out a = true then -1 else 0
theorem sum_at (out : List C2) (hno : ∀ a ∈ out, nearB out a = false) : ∀ l : List C2, (l.map (atW out)).sum = ((l.filter (inB out)).length : Int) - (l.filter (nearB out)).length
  | [] => rfl
  | a :: l => by
    rw [List.map_cons, List.sum_cons, sum_at out hno l, List.filter_cons, List.filter_cons]
    unfold atW
    by_cases h1 : inB out a = true
    · rw [if_pos h1, if_pos h1, hno a (of_decide_eq_true h1), List.length_cons]; simp; omega
    · by_cases h2 : nearB out a = true
      · rw [if_neg h1, if_pos h2, if_neg h1, if_pos h2, List.length_cons]; omega
      · rw [if_neg h1, if_neg h2, if_neg h1, if_neg h2]; omega

/-- HALL. -/
theorem hall_sum {R : C2 → Prop} {μ : Mate} {out cells : List C2} {u : C2} {col : Bool} (hM : Mt R μ) (hcn : cells.Pairwise (· ≠ ·)) (hcR : ∀ x ∈ cells, R x) (hRc : ∀ x, R x → x ∈ cells) (hon : out.Pairwise (· ≠ ·)) (hoR : ∀ x ∈ out, R x) (hoc : ∀ x ∈ out, blackC x = col) (hu : u ∈ out) (h0 : μ u = none)
    (hcl : ∀ c ∈ out, ∀ n, R n → adjC c n → ∃ m, μ n = some m ∧ m ∈ out) : 0 < (cells.map (atW out)).sum := by
  have hno : ∀ a ∈ out, nearB out a = false := fun a ha => by
    cases q : nearB out a with
    | false => rfl
    | true =>
      obtain ⟨c, hc, hadj⟩ := nearB_iff.1 q
      have := hadj.colour
      rw [hoc c hc, hoc a ha] at this
      cases col <;> cases this
  rw [sum_at out hno]
  have h1 : out.length ≤ (cells.filter (inB out)).length := nodup_len hon fun x hx => List.mem_filter.2 ⟨hRc x (hoR x hx), decide_eq_true hx⟩
  have hg : ∀ n ∈ cells.filter (nearB out), ∃ m, μ n = some m ∧ m ∈ out := fun n hn => by
    obtain ⟨hn1, hn2⟩ := List.mem_filter.1 hn
    obtain ⟨c, hc, hadj⟩ := nearB_iff.1 hn2
    exact hcl c hc n (hcR n hn1) hadj
  have h2 : (u :: (cells.filter (nearB out)).map fun n => (μ n).getD n).length ≤ out.length := by
    refine nodup_len ?_ fun x hx => ?_
    · rw [List.pairwise_cons]
      refine ⟨fun x hx => ?_, ?_⟩
      · obtain ⟨n, hn, rfl⟩ := List.mem_map.1 hx
        obtain ⟨m, hm, _⟩ := hg n hn
        rw [hm]
        intro e
        have := (hM n m hm).2.2.2
        rw [show m = u from e.symm, h0] at this
        cases this
      · rw [List.pairwise_map]
        refine List.Pairwise.imp_of_mem ?_ (hcn.filter _)
        intro a b ha hb hab e
        obtain ⟨m, hm, _⟩ := hg a ha
        obtain ⟨m', hm', _⟩ := hg b hb
        rw [hm, hm'] at e
        have e : m = m' := e
        have q1 := (hM a m hm).2.2.2
        have q2 := (hM b m' hm').2.2.2
        rw [e, q2] at q1
        injection q1 with q1
        exact hab q1.symm
    · rcases List.mem_cons.1 hx with rfl | hx
      · exact hu
      · obtain ⟨n, hn, rfl⟩ := List.mem_map.1 hx
        obtain ⟨m, hm, hmo⟩ := hg n hn
        rw [hm]; exact hmo
  rw [List.length_cons, List.length_map] at h2
  omega

end Go.Ht

/- Contracts of domino: Cells, black, neighbours. -/
namespace Go.Proofs.YtfmppkplmfbjpaaGreatDoor
open Go.Lf Go.RowKit Go.Ht

def cC (e : C2) : List Value := [.int .i64 e.1, .int .i64 e.2]
theorem cC_len (e : C2) : (cC e).length = 2 := rfl
theorem cC_one (e : C2) : ∀ u ∈ cC e, u.oneCell' = true := by
  intro u hu
  simp only [cC, List.mem_cons, List.not_mem_nil, or_false] at hu
  rcases hu with rfl | rfl <;> rfl
abbrev cV (e : C2) : Value := .agg #[.int .i64 e.1, .int .i64 e.2]
abbrev RdC (w : World) (v : Value) (l : List C2) : Prop := Rd 2 cC w v l
abbrev ClAt (base : Nat) (w : World) (v : Value) (P : List C2) : Prop := RecAt 100 2 cC base w v P
theorem cell_at {w : World} {v : Value} {L : List C2} (h : RdC w v L) {i : Nat} (hi : i < L.length) : ∀ K : Value → Prop, (iaS 2 v (.int .i64 i) fun p => ldN 2 w p K) = K (cV (L.getD i (0, 0))) := fun K => by
  obtain ⟨b, off, cap, e, _, hc⟩ := h.at (List.getElem?_eq_getElem hi)
  have hii : (i : Int).toNat = i := by omega
  rw [e, r_iaS _ _ _ _ _ _ _ (by omega) (by omega), hii, r_ldCells (n := 2) (l := cC L[i]) rfl hc, getD_lt _ _ _ hi]
  rfl
set_option maxRecDepth 100000 in
theorem slt39 : SlT 57 100 2 16 := SlT.mk' (z := cV (0, 0)) (by kernel_rfl) (by kernel_rfl) rfl (by decide)
set_option maxRecDepth 100000 in
theorem bd43 {x y : Int} {K : Value → Prop} : bdQ Tryz.prog 100 [(0, .int .i64 x), (1, .int .i64 y)] K = K (cV (x, y)) := by kernel_rfl
set_option maxRecDepth 100000 in
theorem bs39 (e : C2) (w : World) (K : Value → World → Prop) : bsW Tryz.prog 57 1 [(0, cV e)] w K = K (.slice (some ⟨w.heap.size, 0, none⟩) 1 1) (w.alloc (.cells (cV e).cells 100)) := by kernel_rfl
set_option maxRecDepth 100000 in
theorem st43 {w : World} {b : Nat} {x y : Value} {p : C2} {K : World → Prop} (h : w.heap[b]? = some (.cells #[x, y] 100 (0, 0))) (hk : ∀ w', Chg (fun k => k = b) w w' → w'.heap.size = w.heap.size → w'.heap[b]? = some (.cells #[.int .i64 p.1, .int .i64 p.2] 100 (0, 0)) → K w') : stW Tryz.prog 100 (ptrV b) (cV p) w K :=
  r_stAll (n := 2) (by kernel_rfl) rfl (by intro u hu; simp [Value.cells] at hu; rcases hu with rfl | rfl <;> rfl) h rfl fun w' h1 h2 h3 => hk w' h1 h2 h3
theorem c_box {w : World} {b : Nat} {p : C2} (h : w.heap[b]? = some (.cells #[.int .i64 p.1, .int .i64 p.2] 100 (0, 0))) (K : Value → Prop) : ldN 2 w (ptrV b) K = K (cV p) := r_ldRow h rfl
theorem c_cells {w : World} {b : Nat} {p : C2} (h : w.heap[b]? = some (.cells #[.int .i64 p.1, .int .i64 p.2] 100 (0, 0))) : w.cell? ⟨b, 0, none⟩ = some (.int .i64 p.1) ∧ w.cell? ⟨b, 1, none⟩ = some (.int .i64 p.2) :=
  ⟨by rw [cell_row h]; rfl, by rw [cell_row h]; rfl⟩

/-- Cells of a row, and of the first rows. -/
def rowP (l : List ByteArray) (y k : Nat) : List C2 := ((List.range k).filter fun x => hasB l (x : Nat) (y : Nat)).map fun x => (((x : Nat) : Int), ((y : Nat) : Int))
def cellsP (l : List ByteArray) : Nat → List C2
  | 0 => []
  | y + 1 => cellsP l y ++ rowP l y (l.getD 0 dB).size
def cellsB (l : List ByteArray) : List C2 := cellsP l l.length
theorem rowP_succ (l : List ByteArray) (y k : Nat) : rowP l y (k + 1) = rowP l y k ++ if hasB l (k : Nat) (y : Nat) = true then [((k : Int), (y : Int))] else [] := by
  unfold rowP
  rw [List.range_succ, List.filter_append, List.map_append]
  congr 1
  by_cases h : hasB l (k : Nat) (y : Nat) = true
  · simp [h]
  · simp [h]
theorem rowP_le (l : List ByteArray) (y k : Nat) : (rowP l y k).length ≤ k := by
  unfold rowP
  rw [List.length_map]
  exact Nat.le_trans (List.length_filter_le _ _) (by simp)
theorem cellsP_le (l : List ByteArray) : ∀ y, (cellsP l y).length ≤ y * (l.getD 0 dB).size
  | 0 => by simp [cellsP]
  | y + 1 => by
    have := cellsP_le l y
    have := rowP_le l y (l.getD 0 dB).size
    simp only [cellsP, List.length_append]
    rw [Nat.add_mul, Nat.one_mul]; omega
theorem rowP_mem {l : List ByteArray} {y k : Nat} {c : C2} : c ∈ rowP l y k ↔ ∃ x : Nat, x < k ∧ hasB l (x : Nat) (y : Nat) = true ∧ c = ((x : Int), (y : Int)) := by
  unfold rowP
  simp only [List.mem_map, List.mem_filter, List.mem_range]
  constructor
  · rintro ⟨x, ⟨h1, h2⟩, rfl⟩; exact ⟨x, h1, h2, rfl⟩
  · rintro ⟨x, h1, h2, rfl⟩; exact ⟨x, ⟨h1, h2⟩, rfl⟩
theorem cellsP_mem {l : List ByteArray} {c : C2} : ∀ {n : Nat}, c ∈ cellsP l n ↔ ∃ y : Nat, y < n ∧ c ∈ rowP l y (l.getD 0 dB).size
  | 0 => by simp [cellsP]
  | n + 1 => by
    simp only [cellsP, List.mem_append]
    rw [cellsP_mem]
    constructor
    · rintro (⟨y, h1, h2⟩ | h)
      · exact ⟨y, by omega, h2⟩
      · exact ⟨n, by omega, h⟩
    · rintro ⟨y, h1, h2⟩
      by_cases e : y = n
      · subst e; exact .inr h2
      · exact .inl ⟨y, by omega, h2⟩
theorem cellsB_mem {l : List ByteArray} {c : C2} : c ∈ cellsB l ↔ hasB l c.1 c.2 = true := by
  unfold cellsB
  rw [cellsP_mem]
  constructor
  · rintro ⟨y, _, h⟩
    obtain ⟨x, _, h2, rfl⟩ := rowP_mem.1 h
    exact h2
  · intro h
    have h' := h
    unfold hasB at h
    rw [Bool.and_eq_true] at h
    obtain ⟨a1, a2, a3, a4⟩ := of_decide_eq_true h.1
    obtain ⟨x, y⟩ := c
    dsimp only at *
    refine ⟨y.toNat, by omega, rowP_mem.2 ⟨x.toNat, by omega, ?_, ?_⟩⟩
    · rw [show ((x.toNat : Nat) : Int) = x by omega, show ((y.toNat : Nat) : Int) = y by omega]; exact h'
    · rw [show ((x.toNat : Nat) : Int) = x by omega, show ((y.toNat : Nat) : Int) = y by omega]
theorem rowP_nodup (l : List ByteArray) (y k : Nat) : (rowP l y k).Pairwise (· ≠ ·) := by
  unfold rowP
  rw [List.pairwise_map]
  refine List.Pairwise.imp ?_ (List.nodup_range.filter _)
  intro a b hab e
  injection e with e1 _
  exact hab (by omega)
theorem cellsP_nodup (l : List ByteArray) : ∀ n, (cellsP l n).Pairwise (· ≠ ·)
  | 0 => List.Pairwise.nil
  | n + 1 => by
    simp only [cellsP]
    rw [List.pairwise_append]
    refine ⟨cellsP_nodup l n, rowP_nodup l n _, fun a ha b hb e => ?_⟩
    obtain ⟨y, hy, h⟩ := cellsP_mem.1 ha
    obtain ⟨x, _, _, rfl⟩ := rowP_mem.1 h
    obtain ⟨x', _, _, rfl⟩ := rowP_mem.1 hb
    injection e with _ e2
    omega
theorem cellsB_nodup (l : List ByteArray) : (cellsB l).Pairwise (· ≠ ·) := cellsP_nodup l _
theorem has_small {l : List ByteArray} {m : Nat} (hR : RegOk l m) {c : C2} (h : hasB l c.1 c.2 = true) : 0 ≤ c.1 ∧ c.1 < m ∧ 0 ≤ c.2 ∧ c.2 < m := by
  unfold hasB at h
  rw [Bool.and_eq_true] at h
  have := of_decide_eq_true h.1
  have := hR.len
  have := hR.wid
  omega

abbrev regW (v : Value) (l : List ByteArray) : Value := rgV (l.getD 0 dB).size l.length v

end Go.Proofs.YtfmppkplmfbjpaaGreatDoor
