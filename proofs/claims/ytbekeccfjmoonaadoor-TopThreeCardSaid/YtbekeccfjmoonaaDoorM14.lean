/- Texts of my own, merged by program: Hb Tc. -/
import Derived.Test.YtbekeccfjmoonaaDoorM13
set_option linter.all false
/- Cells with too few neighbours, plainly: their weights add up to more than nothing. No program. -/
namespace Go.Ht

theorem nodup_len {α : Type} [DecidableEq α] : ∀ {l1 l2 : List α}, l1.Pairwise (· ≠ ·) → (∀ x ∈ l1, x ∈ l2) → l1.length ≤ l2.length
  | [], _, _, _ => Nat.zero_le _
  | a :: t, l2, h, hs => by
    have h' := List.pairwise_cons.1 h
    have ha := hs a (List.mem_cons_self ..)
    have := nodup_len (l1 := t) (l2 := l2.erase a) h'.2 fun x hx => (List.mem_erase_of_ne (Ne.symm (h'.1 x hx))).2 (hs x (List.mem_cons_of_mem _ hx))
    rw [List.length_erase_of_mem ha] at this
    have hp : 0 < l2.length := List.length_pos_of_mem ha
    rw [List.length_cons]; omega

/-- Is a cell a neighbour of one of the list? -/
def nearB (out : List C2) (a : C2) : Bool := out.any fun c => decide ((c.1 = a.1 ∧ (c.2 = a.2 + 1 ∨ a.2 = c.2 + 1)) ∨ (c.2 = a.2 ∧ (c.1 = a.1 + 1 ∨ a.1 = c.1 + 1)))
theorem nearB_iff {out : List C2} {a : C2} : nearB out a = true ↔ ∃ c ∈ out, adjC c a := by
  unfold nearB adjC
  rw [List.any_eq_true]
  simp only [decide_eq_true_eq]
def inB (out : List C2) (a : C2) : Bool := decide (a ∈ out)
/-- The weight of a cell. -/
def atW (out : List C2) (a : C2) : Int := if inB out a = true then 1 else if nearB out a = true then -1 else 0
theorem sum_at (out : List C2) (hno : ∀ a ∈ out, nearB out a = false) : ∀ l : List C2, (l.map (atW out)).sum = ((l.filter (inB out)).length : Int) - (l.filter (nearB out)).length
  | [] => rfl
  | a :: l => by
    rw [List.map_cons, List.sum_cons, sum_at out hno l, List.filter_cons, List.filter_cons]
    unfold atW
    by_cases h1 : inB out a = true
    · rw [if_pos h1, if_pos h1, hno a (of_decide_eq_true h1), List.length_cons]; simp; omega
    · by_cases h2 : nearB out a = true
      · rw [if_neg h1, if_pos h2, if_neg h1, if_pos h2, List.length_cons]; omega
      · rw [if_neg h1, if_neg h2, if_neg h1, if_neg h2]; omega

/-- HALL. -/
theorem hall_sum {R : C2 → Prop} {μ : Mate} {out cells : List C2} {u : C2} {col : Bool} (hM : Mt R μ) (hcn : cells.Pairwise (· ≠ ·)) (hcR : ∀ x ∈ cells, R x) (hRc : ∀ x, R x → x ∈ cells) (hon : out.Pairwise (· ≠ ·)) (hoR : ∀ x ∈ out, R x) (hoc : ∀ x ∈ out, blackC x = col) (hu : u ∈ out) (h0 : μ u = none)
    (hcl : ∀ c ∈ out, ∀ n, R n → adjC c n → ∃ m, μ n = some m ∧ m ∈ out) : 0 < (cells.map (atW out)).sum := by
  have hno : ∀ a ∈ out, nearB out a = false := fun a ha => by
    cases q : nearB out a with
    | false => rfl
    | true =>
      obtain ⟨c, hc, hadj⟩ := nearB_iff.1 q
      have := hadj.colour
      rw [hoc c hc, hoc a ha] at this
      cases col <;> cases this
  rw [sum_at out hno]
  have h1 : out.length ≤ (cells.filter (inB out)).length := nodup_len hon fun x hx => List.mem_filter.2 ⟨hRc x (hoR x hx), decide_eq_true hx⟩
  have hg : ∀ n ∈ cells.filter (nearB out), ∃ m, μ n = some m ∧ m ∈ out := fun n hn => by
    obtain ⟨hn1, hn2⟩ := List.mem_filter.1 hn
    obtain ⟨c, hc, hadj⟩ := nearB_iff.1 hn2
    exact hcl c hc n (hcR n hn1) hadj
  have h2 : (u :: (cells.filter (nearB out)).map fun n => (μ n).getD n).length ≤ out.length := by
    refine nodup_len ?_ fun x hx => ?_
    · rw [List.pairwise_cons]
      refine ⟨fun x hx => ?_, ?_⟩
      · obtain ⟨n, hn, rfl⟩ := List.mem_map.1 hx
        obtain ⟨m, hm, _⟩ := hg n hn
        rw [hm]
        intro e
        have := (hM n m hm).2.2.2
        rw [show m = u from e.symm, h0] at this
        cases this
      · rw [List.pairwise_map]
        refine List.Pairwise.imp_of_mem ?_ (hcn.filter _)
        intro a b ha hb hab e
        obtain ⟨m, hm, _⟩ := hg a ha
        obtain ⟨m', hm', _⟩ := hg b hb
        rw [hm, hm'] at e
        have e : m = m' := e
        have q1 := (hM a m hm).2.2.2
        have q2 := (hM b m' hm').2.2.2
        rw [e, q2] at q1
        injection q1 with q1
        exact hab q1.symm
    · rcases List.mem_cons.1 hx with rfl | hx
      · exact hu
      · obtain ⟨n, hn, rfl⟩ := List.mem_map.1 hx
        obtain ⟨m, hm, hmo⟩ := hg n hn
        rw [hm]; exact hmo
  rw [List.length_cons, List.length_map] at h2
  omega

end Go.Ht

/- Contracts of domino: Cells, black, neighbours. -/
namespace Go.Proofs.YtbekeccfjmoonaaDoor
open Go.Lf Go.RowKit Go.Ht

def cC (e : C2) : List Value := [.int .i64 e.1, .int .i64 e.2]
theorem cC_len (e : C2) : (cC e).length = 2 := rfl
theorem cC_one (e : C2) : ∀ u ∈ cC e, u.oneCell' = true := by
  intro u hu
  simp only [cC, List.mem_cons, List.not_mem_nil, or_false] at hu
  rcases hu with rfl | rfl <;> rfl
abbrev cV (e : C2) : Value := .agg #[.int .i64 e.1, .int .i64 e.2]
abbrev RdC (w : World) (v : Value) (l : List C2) : Prop := Rd 2 cC w v l
abbrev ClAt (base : Nat) (w : World) (v : Value) (P : List C2) : Prop := RecAt 43 2 cC base w v P
theorem cell_at {w : World} {v : Value} {L : List C2} (h : RdC w v L) {i : Nat} (hi : i < L.length) : ∀ K : Value → Prop, (iaS 2 v (.int .i64 i) fun p => ldN 2 w p K) = K (cV (L.getD i (0, 0))) := fun K => by
  obtain ⟨b, off, cap, e, _, hc⟩ := h.at (List.getElem?_eq_getElem hi)
  have hii : (i : Int).toNat = i := by omega
  rw [e, r_iaS _ _ _ _ _ _ _ (by omega) (by omega), hii, r_ldCells (n := 2) (l := cC L[i]) rfl hc, getD_lt _ _ _ hi]
  rfl
set_option maxRecDepth 100000 in
theorem slt39 : SlT 39 43 2 16 := SlT.mk' (z := cV (0, 0)) (by kernel_rfl) (by kernel_rfl) rfl (by decide)
set_option maxRecDepth 100000 in
theorem bd43 {x y : Int} {K : Value → Prop} : bdQ Tryd.prog 43 [(0, .int .i64 x), (1, .int .i64 y)] K = K (cV (x, y)) := by kernel_rfl
set_option maxRecDepth 100000 in
theorem bs39 (e : C2) (w : World) (K : Value → World → Prop) : bsW Tryd.prog 39 1 [(0, cV e)] w K = K (.slice (some ⟨w.heap.size, 0, none⟩) 1 1) (w.alloc (.cells (cV e).cells 43)) := by kernel_rfl
set_option maxRecDepth 100000 in
theorem st43 {w : World} {b : Nat} {x y : Value} {p : C2} {K : World → Prop} (h : w.heap[b]? = some (.cells #[x, y] 43 (0, 0))) (hk : ∀ w', Chg (fun k => k = b) w w' → w'.heap.size = w.heap.size → w'.heap[b]? = some (.cells #[.int .i64 p.1, .int .i64 p.2] 43 (0, 0)) → K w') : stW Tryd.prog 43 (ptrV b) (cV p) w K :=
  r_stAll (n := 2) (by kernel_rfl) rfl (by intro u hu; simp [Value.cells] at hu; rcases hu with rfl | rfl <;> rfl) h rfl fun w' h1 h2 h3 => hk w' h1 h2 h3
theorem c_box {w : World} {b : Nat} {p : C2} (h : w.heap[b]? = some (.cells #[.int .i64 p.1, .int .i64 p.2] 43 (0, 0))) (K : Value → Prop) : ldN 2 w (ptrV b) K = K (cV p) := r_ldRow h rfl
theorem c_cells {w : World} {b : Nat} {p : C2} (h : w.heap[b]? = some (.cells #[.int .i64 p.1, .int .i64 p.2] 43 (0, 0))) : w.cell? ⟨b, 0, none⟩ = some (.int .i64 p.1) ∧ w.cell? ⟨b, 1, none⟩ = some (.int .i64 p.2) :=
  ⟨by rw [cell_row h]; rfl, by rw [cell_row h]; rfl⟩

/-- Cells of a row, and of the first rows. -/
def rowP (l : List ByteArray) (y k : Nat) : List C2 := ((List.range k).filter fun x => hasB l (x : Nat) (y : Nat)).map fun x => (((x : Nat) : Int), ((y : Nat) : Int))
def cellsP (l : List ByteArray) : Nat → List C2
  | 0 => []
  | y + 1 => cellsP l y ++ rowP l y (l.getD 0 dB).size
def cellsB (l : List ByteArray) : List C2 := cellsP l l.length
theorem rowP_succ (l : List ByteArray) (y k : Nat) : rowP l y (k + 1) = rowP l y k ++ if hasB l (k : Nat) (y : Nat) = true then [((k : Int), (y : Int))] else [] := by
  unfold rowP
  rw [List.range_succ, List.filter_append, List.map_append]
  congr 1
  by_cases h : hasB l (k : Nat) (y : Nat) = true
  · simp [h]
  · simp [h]
theorem rowP_le (l : List ByteArray) (y k : Nat) : (rowP l y k).length ≤ k := by
  unfold rowP
  rw [List.length_map]
  exact Nat.le_trans (List.length_filter_le _ _) (by simp)
theorem cellsP_le (l : List ByteArray) : ∀ y, (cellsP l y).length ≤ y * (l.getD 0 dB).size
  | 0 => by simp [cellsP]
  | y + 1 => by
    have := cellsP_le l y
    have := rowP_le l y (l.getD 0 dB).size
    simp only [cellsP, List.length_append]
    rw [Nat.add_mul, Nat.one_mul]; omega
theorem rowP_mem {l : List ByteArray} {y k : Nat} {c : C2} : c ∈ rowP l y k ↔ ∃ x : Nat, x < k ∧ hasB l (x : Nat) (y : Nat) = true ∧ c = ((x : Int), (y : Int)) := by
  unfold rowP
  simp only [List.mem_map, List.mem_filter, List.mem_range]
  constructor
  · rintro ⟨x, ⟨h1, h2⟩, rfl⟩; exact ⟨x, h1, h2, rfl⟩
  · rintro ⟨x, h1, h2, rfl⟩; exact ⟨x, ⟨h1, h2⟩, rfl⟩
theorem cellsP_mem {l : List ByteArray} {c : C2} : ∀ {n : Nat}, c ∈ cellsP l n ↔ ∃ y : Nat, y < n ∧ c ∈ rowP l y (l.getD 0 dB).size
  | 0 => by simp [cellsP]
  | n + 1 => by
    simp only [cellsP, List.mem_append]
    rw [cellsP_mem]
    constructor
    · rintro (⟨y, h1, h2⟩ | h)
      · exact ⟨y, by omega, h2⟩
      · exact ⟨n, by omega, h⟩
    · rintro ⟨y, h1, h2⟩
      by_cases e : y = n
      · subst e; exact .inr h2
      · exact .inl ⟨y, by omega, h2⟩
theorem cellsB_mem {l : List ByteArray} {c : C2} : c ∈ cellsB l ↔ hasB l c.1 c.2 = true := by
  unfold cellsB
  rw [cellsP_mem]
  constructor
  · rintro ⟨y, _, h⟩
    obtain ⟨x, _, h2, rfl⟩ := rowP_mem.1 h
    exact h2
  · intro h
    have h' := h
    unfold hasB at h
    rw [Bool.and_eq_true] at h
    obtain ⟨a1, a2, a3, a4⟩ := of_decide_eq_true h.1
    obtain ⟨x, y⟩ := c
    dsimp only at *
    refine ⟨y.toNat, by omega, rowP_mem.2 ⟨x.toNat, by omega, ?_, ?_⟩⟩
    · rw [show ((x.toNat : Nat) : Int) = x by omega, show ((y.toNat : Nat) : Int) = y by omega]; exact h'
    · rw [show ((x.toNat : Nat) : Int) = x by omega, show ((y.toNat : Nat) : Int) = y by omega]
theorem rowP_nodup (l : List ByteArray) (y k : Nat) : (rowP l y k).Pairwise (· ≠ ·) := by
  unfold rowP
  rw [List.pairwise_map]
  refine List.Pairwise.imp ?_ (List.nodup_range.filter _)
  intro a b hab e
  injection e with e1 _
  exact hab (by omega)
theorem cellsP_nodup (l : List ByteArray) : ∀ n, (cellsP l n).Pairwise (· ≠ ·)
  | 0 => List.Pairwise.nil
  | n + 1 => by
    simp only [cellsP]
    rw [List.pairwise_append]
    refine ⟨cellsP_nodup l n, rowP_nodup l n _, fun a ha b hb e => ?_⟩
    obtain ⟨y, hy, h⟩ := cellsP_mem.1 ha
    obtain ⟨x, _, _, rfl⟩ := rowP_mem.1 h
    obtain ⟨x', _, _, rfl⟩ := rowP_mem.1 hb
    injection e with _ e2
    omega
theorem cellsB_nodup (l : List ByteArray) : (cellsB l).Pairwise (· ≠ ·) := cellsP_nodup l _
theorem has_small {l : List ByteArray} {m : Nat} (hR : RegOk l m) {c : C2} (h : hasB l c.1 c.2 = true) : 0 ≤ c.1 ∧ c.1 < m ∧ 0 ≤ c.2 ∧ c.2 < m := by
  unfold hasB at h
  rw [Bool.and_eq_true] at h
  have := of_decide_eq_true h.1
  have := hR.len
  have := hR.wid
  omega

abbrev regW (v : Value) (l : List ByteArray) : Value := rgV (l.getD 0 dB).size l.length v

set_option maxRecDepth 100000 in
set_option maxHeartbeats 1000000 in
theorem r24_1 {v : Value} {l : List ByteArray} {b1 y base : Nat} {t3 : Value} {w0 wr : World} {next : Value → Value → World → Prop} (hr : RdB w0 v l) (hR : RegOk l 8) (hy : y < l.length) (hb : w0.heap[b1]? = some (.cells #[.int .i64 (l.getD 0 dB).size, .int .i64 l.length, v] 63 (0, 0)))
    (hbase : base ≤ w0.heap.size) (hO : ClAt w0.heap.size wr t3 (cellsP l y)) (kr : Kp w0 wr)
    (hnext : ∀ t w', ClAt w0.heap.size w' t (cellsP l (y + 1)) → Kp w0 w' → next t (.int .i64 ((y : Int) + 1)) w') :
    S24L1 (ptrV b1) t3 (.int .i64 y) (.int .i64 (l.getD 0 dB).size) next wr := by
  have hlen := hR.len
  have hwid := hR.wid
  have hcl := cellsP_le l y
  have hm : y * (l.getD 0 dB).size ≤ 8 * 8 := Nat.mul_le_mul (by omega) (by omega)
  unfold S24L1
  refine ⟨fun t3 t13 w' => ∃ x : Nat, x ≤ (l.getD 0 dB).size ∧ t13 = .int .i64 x ∧ ClAt w0.heap.size w' t3 (cellsP l y ++ rowP l y x) ∧ Kp w0 w', fun _ t13 _ => (l.getD 0 dB).size - (intOf t13).toNat, ⟨0, by omega, rfl, by simpa [rowP] using hO, kr⟩, ?_⟩
  rintro _ t3 _ wr ⟨x, hx, rfl, hO, kr⟩
  by_cases hlt : x < (l.getD 0 dB).size
  case neg =>
    have hlt' : ¬ (x : Int) < ((l.getD 0 dB).size : Int) := by omega
    obtain rfl : x = (l.getD 0 dB).size := by omega
    rw [r_lss, decide_eq_false hlt', r_condF, r_add _ _ (by omega) (by omega)]
    exact hnext t3 wr hO kr
  have hlt' : (x : Int) < ((l.getD 0 dB).size : Int) := by omega
  rw [r_lss, decide_eq_true hlt', r_condT, rg_box (block_below hb kr)]
  refine r_use fok30 (Has_calls (x : Int) (y : Int) wr (hr.kp kr) hR) rfl ?_
  rintro _ w2 ⟨rfl, k2⟩
  refine ⟨_, rfl, ?_⟩
  have k02 := Kp.trans kr k2
  have hO2 := RecAt.kp hO k2
  have hrl := rowP_le l y x
  have hrs := rowP_succ l y x
  cases q : hasB l (x : Int) (y : Int) with
  | false =>
    rw [q] at hrs
    simp only [Join, r_condF]
    rw [r_add _ _ (by omega) (by omega)]
    refine ⟨⟨x + 1, by omega, by go_num, ?_, k02⟩, by simp only [intOf]; omega⟩
    rw [hrs]; simpa using hO2
  | true =>
    rw [q, if_pos rfl] at hrs
    simp only [Join, r_condT]
    rw [bd43]
    refine r_pushRec (x := ((x : Int), (y : Int))) (ty := 39) slt39 cC_len rfl (bs39 _ _) (cC_one _) (by omega) hO2 (by rw [List.length_append]; omega) k02.size fun v' w' o1 c1 _ => ?_
    rw [r_add _ _ (by omega) (by omega)]
    refine ⟨⟨x + 1, by omega, by go_num, ?_, Kp.of_chg k02 c1 fun k hk => (RecAt.lt hO2 hk).1⟩, by simp only [intOf]; omega⟩
    rw [hrs, ← List.append_assoc]; exact o1

set_option maxRecDepth 100000 in
theorem Cells_calls {v : Value} {l : List ByteArray} (w : World) (hr : RdB w v l) (hR : RegOk l 8) : Calls Tryd.prog 24 #[regW v l] w fun e w' => Kp w w' ∧ ∃ v', e = .returned v' ∧ ClAt w.heap.size w' v' (cellsB l) := by
  obtain ⟨a, cap, ev, _⟩ := hr.len
  refine lift24 ?_
  unfold S24
  refine r_box fun b1 w1 e1 s1 h1 k1 => ?_
  have h1' : w1.heap[b1]? = some (.cells #[.int .i64 (l.getD 0 dB).size, .int .i64 l.length, v] 63 (0, 0)) := by rw [ev] at h1 ⊢; exact h1
  have c0 : w1.cell? ⟨b1, 0, none⟩ = some (.int .i64 (l.getD 0 dB).size) := by rw [cell_row h1']; rfl
  have c1 : w1.cell? ⟨b1, 1, none⟩ = some (.int .i64 l.length) := by rw [cell_row h1']; rfl
  rw [r_fa, Nat.zero_add, r_ld c1]
  unfold S24L0
  have hlen := hR.len
  refine ⟨fun t3 t8 w' => ∃ y : Nat, y ≤ l.length ∧ t8 = .int .i64 y ∧ ClAt w1.heap.size w' t3 (cellsP l y) ∧ Kp w1 w', fun _ t8 _ => l.length - (intOf t8).toNat, ⟨0, by omega, rfl, RecAt.nil, Kp.refl _⟩, ?_⟩
  rintro _ t3 _ wr ⟨y, hy, rfl, hO, kr⟩
  by_cases hlt : y < l.length
  case neg =>
    have hlt' : ¬ (y : Int) < (l.length : Int) := by omega
    obtain rfl : y = l.length := by omega
    rw [r_lss, decide_eq_false hlt', r_condF]
    exact ⟨Kp.trans k1 kr, _, rfl, RecAt.down hO k1.size⟩
  have hlt' : (y : Int) < (l.length : Int) := by omega
  rw [r_lss, decide_eq_true hlt', r_condT, r_fa, Nat.zero_add, r_ld (cell_later kr c0)]
  refine r24_1 (hr.kp k1) hR hlt h1' (Nat.le_refl _) hO kr fun t w' o' k' => ?_
  exact ⟨⟨y + 1, by omega, by go_num, o', k'⟩, by simp only [intOf]; omega⟩

set_option maxRecDepth 100000 in
theorem black_calls {c : C2} (w : World) (h0 : 0 ≤ c.1) (h1 : 0 ≤ c.2) (h2 : c.1 ≤ 1000) (h3 : c.2 ≤ 1000) : Calls Tryd.prog 25 #[cV c] w fun e w' => e = .returned (.bool (blackC c)) ∧ Kp w w' := by
  refine lift25 ?_
  unfold S25
  refine r_box fun b1 w1 e1 s1 h1 k1 => ?_
  obtain ⟨c0, c1⟩ := c_cells (p := c) h1
  obtain ⟨X, hX⟩ : ∃ X : Nat, c.1 + c.2 = X := ⟨(c.1 + c.2).toNat, by omega⟩
  have q1 : ∀ KK : Value → Prop, binQ Tryd.prog w1 .rem 3 true (.int .i64 ((X : Nat) : Int)) (.int .i64 2) KK = KK (.int .i64 ((X % 2 : Nat) : Int)) := fun KK => r_remN X 2 (by omega)
  rw [r_fa, Nat.zero_add, r_ld c0, r_fa, Nat.zero_add, r_ld c1, r_add _ _ (by omega) (by omega), hX, q1, r_eql]
  refine ⟨ret_bool ?_, k1⟩
  unfold blackC
  rw [hX]
  by_cases q : X % 2 = 0
  · rw [decide_eq_true (show ((X % 2 : Nat) : Int) = 0 by omega), decide_eq_true (show (X : Int) % 2 = 0 by omega)]
  · rw [decide_eq_false (show ¬ ((X % 2 : Nat) : Int) = 0 by omega), decide_eq_false (show ¬ (X : Int) % 2 = 0 by omega)]

end Go.Proofs.YtbekeccfjmoonaaDoor
