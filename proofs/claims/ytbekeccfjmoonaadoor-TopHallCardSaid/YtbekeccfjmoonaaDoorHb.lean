/- Cells with too few neighbours, plainly: their weights add up to more than nothing. No program. -/
import Derived.Test.YtbekeccfjmoonaaDoorHa
set_option linter.all false
namespace Go.Ht

theorem nodup_len {α : Type} [DecidableEq α] : ∀ {l1 l2 : List α}, l1.Pairwise (· ≠ ·) → (∀ x ∈ l1, x ∈ l2) → l1.length ≤ l2.length
  | [], _, _, _ => Nat.zero_le _
  | a :: t, l2, h, hs => by
    have h' := List.pairwise_cons.1 h
    have ha := hs a (List.mem_cons_self ..)
    have := nodup_len (l1 := t) (l2 := l2.erase a) h'.2 fun x hx => (List.mem_erase_of_ne (Ne.symm (h'.1 x hx))).2 (hs x (List.mem_cons_of_mem _ hx))
    rw [List.length_erase_of_mem ha] at this
    have hp : 0 < l2.length := List.length_pos_of_mem ha
    rw [List.length_cons]; omega

/-- Is a cell a neighbour of one of the list? -/
def nearB (out : List C2) (a : C2) : Bool := out.any fun c => decide ((c.1 = a.1 ∧ (c.2 = a.2 + 1 ∨ a.2 = c.2 + 1)) ∨ (c.2 = a.2 ∧ (c.1 = a.1 + 1 ∨ a.1 = c.1 + 1)))
theorem nearB_iff {out : List C2} {a : C2} : nearB out a = true ↔ ∃ c ∈ out, adjC c a := by
  unfold nearB adjC
  rw [List.any_eq_true]
  simp only [decide_eq_true_eq]
def inB (out : List C2) (a : C2) : Bool := decide (a ∈ out)
/-- The weight of a cell. -/
def atW (out : List C2) (a : C2) : Int := if inB out a = true then 1 else if nearB out a = true then -1 else 0
theorem sum_at (out : List C2) (hno : ∀ a ∈ out, nearB out a = false) : ∀ l : List C2, (l.map (atW out)).sum = ((l.filter (inB out)).length : Int) - (l.filter (nearB out)).length
  | [] => rfl
  | a :: l => by
    rw [List.map_cons, List.sum_cons, sum_at out hno l, List.filter_cons, List.filter_cons]
    unfold atW
    by_cases h1 : inB out a = true
    · rw [if_pos h1, if_pos h1, hno a (of_decide_eq_true h1), List.length_cons]; simp; omega
    · by_cases h2 : nearB out a = true
      · rw [if_neg h1, if_pos h2, if_neg h1, if_pos h2, List.length_cons]; omega
      · rw [if_neg h1, if_neg h2, if_neg h1, if_neg h2]; omega

/-- HALL. -/
theorem hall_sum {R : C2 → Prop} {μ : Mate} {out cells : List C2} {u : C2} {col : Bool} (hM : Mt R μ) (hcn : cells.Pairwise (· ≠ ·)) (hcR : ∀ x ∈ cells, R x) (hRc : ∀ x, R x → x ∈ cells) (hon : out.Pairwise (· ≠ ·)) (hoR : ∀ x ∈ out, R x) (hoc : ∀ x ∈ out, blackC x = col) (hu : u ∈ out) (h0 : μ u = none)
    (hcl : ∀ c ∈ out, ∀ n, R n → adjC c n → ∃ m, μ n = some m ∧ m ∈ out) : 0 < (cells.map (atW out)).sum := by
  have hno : ∀ a ∈ out, nearB out a = false := fun a ha => by
    cases q : nearB out a with
    | false => rfl
    | true =>
      obtain ⟨c, hc, hadj⟩ := nearB_iff.1 q
      have := hadj.colour
      rw [hoc c hc, hoc a ha] at this
      cases col <;> cases this
  rw [sum_at out hno]
  have h1 : out.length ≤ (cells.filter (inB out)).length := nodup_len hon fun x hx => List.mem_filter.2 ⟨hRc x (hoR x hx), decide_eq_true hx⟩
  have hg : ∀ n ∈ cells.filter (nearB out), ∃ m, μ n = some m ∧ m ∈ out := fun n hn => by
    obtain ⟨hn1, hn2⟩ := List.mem_filter.1 hn
    obtain ⟨c, hc, hadj⟩ := nearB_iff.1 hn2
    exact hcl c hc n (hcR n hn1) hadj
  have h2 : (u :: (cells.filter (nearB out)).map fun n => (μ n).getD n).length ≤ out.length := by
    refine nodup_len ?_ fun x hx => ?_
    · rw [List.pairwise_cons]
      refine ⟨fun x hx => ?_, ?_⟩
      · obtain ⟨n, hn, rfl⟩ := List.mem_map.1 hx
        obtain ⟨m, hm, _⟩ := hg n hn
        rw [hm]
        intro e
        have := (hM n m hm).2.2.2
        rw [show m = u from e.symm, h0] at this
        cases this
      · rw [List.pairwise_map]
        refine List.Pairwise.imp_of_mem ?_ (hcn.filter _)
        intro a b ha hb hab e
        obtain ⟨m, hm, _⟩ := hg a ha
        obtain ⟨m', hm', _⟩ := hg b hb
        rw [hm, hm'] at e
        have e : m = m' := e
        have q1 := (hM a m hm).2.2.2
        have q2 := (hM b m' hm').2.2.2
        rw [e, q2] at q1
        injection q1 with q1
        exact hab q1.symm
    · rcases List.mem_cons.1 hx with rfl | hx
      · exact hu
      · obtain ⟨n, hn, rfl⟩ := List.mem_map.1 hx
        obtain ⟨m, hm, hmo⟩ := hg n hn
        rw [hm]; exact hmo
  rw [List.length_cons, List.length_map] at h2
  omega

end Go.Ht
