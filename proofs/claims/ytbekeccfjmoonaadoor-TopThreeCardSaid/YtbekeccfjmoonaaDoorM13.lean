/- Texts of my own, merged by program: Tb Ha. -/
import Derived.Test.YtbekeccfjmoonaaDoorM12
import Init
set_option linter.all false
/- Contracts of domino: Of, Has; regions. -/
namespace Go.Proofs.YtbekeccfjmoonaaDoor
open Go.Lf Go.RowKit

theorem neS_run (a b : ByteArray) (lit : Bool) (w : World) : (semBin .neq 9 lit (.string a) (.string b)).run Tryd.prog w = .ok (.value (.bool (!(a.toList == b.toList)))) w := by
  unfold semBin
  cases lit <;> simp [eqGuard, binOp, Op.stringOp]
theorem r_neS {a b : ByteArray} {lit : Bool} {w : World} {K : Value → Prop} (h : K (.bool (!(a.toList == b.toList)))) : binQ Tryd.prog w .neq 9 lit (.string a) (.string b) K := ⟨_, fun w' _ => neS_run a b lit w', h⟩
theorem ix9_run (s : ByteArray) (i : Nat) (hi : i < s.size) (w : World) : (ixS 9 (.string s) (.int .i64 i)).run Tryd.prog w = .ok (.value (.int .u8 ((s[i]'hi).toNat))) w := by
  unfold ixS
  simp [Instr.index, run_underlying und9, asIntOf, hi]
theorem r_ixS {s : ByteArray} {i : Nat} (hi : i < s.size) {w : World} {K : Value → World → Prop} (h : K (.int .u8 ((s[i]'hi).toNat)) w) : semW Tryd.prog (ixS 9 (.string s) (.int .i64 i)) w K := by
  simp only [semW, ix9_run s i hi w]; exact h
theorem empty_iff {r : ByteArray} {b : Bool} (h : r = ⟨#[]⟩ ↔ b = true) : (r.toList == (⟨#[]⟩ : ByteArray).toList) = b := by
  have e : (⟨#[]⟩ : ByteArray).toList = [] := by rw [Lib.toList_data]
  rw [e]
  cases b with
  | true => rw [h.2 rfl, e]; rfl
  | false =>
    cases q : (r.toList == []) with
    | false => rfl
    | true =>
      have h1 : r.toList = [] := by simpa using q
      rw [Lib.toList_data] at h1
      have : r = ⟨#[]⟩ := by
        obtain ⟨d⟩ := r
        have : d = #[] := Array.toList_eq_nil_iff.1 h1
        rw [this]
      exact absurd (h.1 this) (by simp)

abbrev dB : ByteArray := ⟨#[]⟩
abbrev ptrV (b : Nat) : Value := .pointer (some ⟨b, 0, none⟩)
/-- A row of a region that is not one. -/
def badR (n : Nat) (s : ByteArray) : Bool := !decide (s.size = n) || !plainB s
/-- Is this a region? -/
def ofB (m : Nat) (l : List ByteArray) : Bool := decide (1 ≤ l.length ∧ l.length ≤ m ∧ 1 ≤ (l.getD 0 dB).size ∧ (l.getD 0 dB).size ≤ m) && !(l.any (badR (l.getD 0 dB).size))
abbrev rgV (a b : Int) (v : Value) : Value := .agg #[.int .i64 a, .int .i64 b, v]

theorem size_small {w : World} {v : Value} {l : List ByteArray} (h : ∀ s ∈ l, s.size ≤ 9223372036854775807) {i : Nat} (hi : i < l.length) : (l.getD i dB).size ≤ 9223372036854775807 := h _ (getD_mem hi)

set_option maxRecDepth 100000 in
theorem ofBad_calls {v : Value} {l : List ByteArray} {s : ByteArray} {b : Nat} (w : World) (hb : w.cell? ⟨b, 0, none⟩ = some v) (hr : RdB w v l) (h0 : 0 < l.length) (hs : s.size ≤ 9223372036854775807) :
    Calls Tryd.prog 52 #[.string s, ptrV b] w fun e w' => e = .returned (.bool (badR (l.getD 0 dB).size s)) ∧ Kp w w' := by
  refine lift52 ?_
  unfold S52
  have h00 : ∀ K : Value → Prop, (iaS 1 v (.int .i64 0) fun p => ld1 w p K) = K (.string (l.getD 0 dB)) := fun K => str_at hr h0 K
  rw [r_lnS, r_ld hb, h00, r_lnS, r_neq]
  unfold badR
  by_cases hn : (s.size : Int) = ((l.getD 0 dB).size : Int)
  · have hn' : s.size = (l.getD 0 dB).size := by omega
    rw [decide_eq_true hn, decide_eq_true hn']
    simp only [Bool.not_true, r_gdFF]
    refine r_use (by kernel_rfl) (trim_calls s w hs) rfl ?_
    rintro _ w1 ⟨k1, r, rfl, hri⟩
    refine ⟨_, rfl, ?_⟩
    refine r_neS ?_
    rw [empty_iff hri, r_pickF]
    exact ⟨by simp, k1⟩
  · have hn' : ¬ s.size = (l.getD 0 dB).size := by omega
    rw [decide_eq_false hn, decide_eq_false hn']
    simp only [Bool.not_false, r_gdTF, r_gdU, r_pickT]
    exact ⟨by simp, Kp.refl _⟩

set_option maxRecDepth 100000 in
theorem idx80_calls {v : Value} {l : List ByteArray} {b : Nat} (w : World) (hb : w.cell? ⟨b, 0, none⟩ = some v) (hr : RdB w v l) (h0 : 0 < l.length) (hl : l.length ≤ 1000) (hs : ∀ s ∈ l, s.size ≤ 9223372036854775807) :
    Calls Tryd.prog 80 #[v, .func (.func 52) #[] #[ptrV b]] w fun e w' => Kp w w' ∧ ∃ p : Int, e = .returned (.int .i64 p) ∧ decide (0 ≤ p) = l.any (badR (l.getD 0 dB).size) := by
  obtain ⟨a, cap, ev, _⟩ := hr.len
  have lnv : ∀ K : Value → Prop, ln1 v K = K (.int .i64 l.length) := fun K => by rw [ev]; rfl
  refine lift80 ?_
  unfold S80
  rw [lnv]
  unfold S80L0
  refine ⟨fun t8 wr => ∃ i : Nat, i ≤ l.length ∧ t8 = .int .i64 i ∧ (∀ j, j < i → badR (l.getD 0 dB).size (l.getD j dB) = false) ∧ Kp w wr, fun t8 _ => l.length - (intOf t8).toNat, ⟨0, by omega, rfl, fun j hj => by omega, Kp.refl _⟩, ?_⟩
  rintro _ _ wr ⟨i, hi, rfl, hall, kr⟩
  by_cases hlt : i < l.length
  case neg =>
    have hlt' : ¬ (i : Int) < (l.length : Int) := by omega
    rw [r_lss, decide_eq_false hlt', r_condF]
    refine ⟨kr, -1, rfl, ?_⟩
    have : l.any (badR (l.getD 0 dB).size) = false := by
      rw [List.any_eq_false]
      intro s hs
      obtain ⟨j, hj, rfl⟩ := List.getElem_of_mem hs
      have := hall j (by omega)
      rw [getD_lt l j dB hj] at this
      rw [this]; decide
    rw [this]; rfl
  have hlt' : (i : Int) < (l.length : Int) := by omega
  rw [r_lss, decide_eq_true hlt', r_condT, str_at (hr.kp kr) hlt]
  refine r_use fok52 (ofBad_calls wr (cell_later kr hb) (hr.kp kr) h0 (size_small (w := w) (v := v) hs hlt)) rfl ?_
  rintro _ w2 ⟨rfl, k2⟩
  refine ⟨_, rfl, ?_⟩
  have k02 := Kp.trans kr k2
  cases q : badR (l.getD 0 dB).size (l.getD i dB) with
  | true =>
    rw [r_condT]
    refine ⟨k02, i, rfl, ?_⟩
    rw [decide_eq_true (by omega)]
    exact (List.any_eq_true.2 ⟨_, getD_mem hlt, q⟩).symm
  | false =>
    rw [r_condF, r_add _ _ (by omega) (by omega)]
    refine ⟨⟨i + 1, by omega, by go_num, fun j hj => ?_, k02⟩, by simp only [intOf]; omega⟩
    by_cases e : j = i
    · rw [e]; exact q
    · exact hall j (by omega)

set_option maxRecDepth 100000 in
theorem anyBad_calls {v : Value} {l : List ByteArray} {b : Nat} (w : World) (hb : w.cell? ⟨b, 0, none⟩ = some v) (hr : RdB w v l) (h0 : 0 < l.length) (hl : l.length ≤ 1000) (hs : ∀ s ∈ l, s.size ≤ 9223372036854775807) :
    Calls Tryd.prog 54 #[v, .func (.func 52) #[] #[ptrV b]] w fun e w' => e = .returned (.bool (l.any (badR (l.getD 0 dB).size))) ∧ Kp w w' := by
  refine lift54 ?_
  unfold S54
  refine r_use fok80 (idx80_calls w hb hr h0 hl hs) rfl ?_
  rintro _ w1 ⟨k1, p, rfl, hp⟩
  refine ⟨_, rfl, ?_⟩
  rw [r_geq, hp]
  exact ⟨rfl, k1⟩

set_option maxRecDepth 100000 in
theorem bd63_0 {K : Value → Prop} : bdQ Tryd.prog 63 [] K = K (rgV 0 0 nilS) := by kernel_rfl
set_option maxRecDepth 100000 in
theorem bd63 {x y : Int} {a : Option Addr} {m c : Nat} {K : Value → Prop} : bdQ Tryd.prog 63 [(0, .int .i64 x), (1, .int .i64 y), (2, .slice a m c)] K = K (rgV x y (.slice a m c)) := by kernel_rfl
set_option maxRecDepth 100000 in
theorem st63 {w : World} {b : Nat} {x y z : Value} {p q : Int} {a : Option Addr} {m c : Nat} {K : World → Prop} (h : w.heap[b]? = some (.cells #[x, y, z] 63 (0, 0))) (hk : ∀ w', Chg (fun k => k = b) w w' → w'.heap.size = w.heap.size → w'.heap[b]? = some (.cells #[.int .i64 p, .int .i64 q, .slice a m c] 63 (0, 0)) → K w') : stW Tryd.prog 63 (ptrV b) (rgV p q (.slice a m c)) w K :=
  r_stAll (n := 3) (by kernel_rfl) rfl (by intro u hu; simp [Value.cells] at hu; rcases hu with rfl | rfl | rfl <;> rfl) h rfl fun w' h1 h2 h3 => hk w' h1 h2 h3
theorem rg_box {w : World} {b : Nat} {x y : Int} {z : Value} (h : w.heap[b]? = some (.cells #[.int .i64 x, .int .i64 y, z] 63 (0, 0))) (K : Value → Prop) : ldN 3 w (ptrV b) K = K (rgV x y z) := r_ldRow h rfl

/-- The region that a list of strings is. -/
def regV (v : Value) (l : List ByteArray) : Value := if ofB 8 l = true then rgV (l.getD 0 dB).size l.length v else rgV 0 0 nilS
set_option maxRecDepth 100000 in
set_option maxHeartbeats 1000000 in
theorem Of_calls {v : Value} {l : List ByteArray} (w : World) (hr : RdB w v l) (hs : ∀ s ∈ l, s.size ≤ 9223372036854775807) :
    Calls Tryd.prog 21 #[v] w fun e w' => e = .returned (.tuple #[regV v l, .bool (ofB 8 l)]) ∧ Kp w w' := by
  obtain ⟨a, cap, ev, _⟩ := hr.len
  have lnv : ∀ K : Value → Prop, ln1 v K = K (.int .i64 l.length) := fun K => by rw [ev]; rfl
  refine lift21 ?_
  unfold S21
  refine r_box fun b1 w1 e1 s1 h1 k1 => ?_
  have h1' : w1.heap[b1]? = some (.cells #[v] 22 (0, 0)) := by rw [ev] at h1 ⊢; exact h1
  refine r_box fun b2 w2 e2 s2 h2 k2 => ?_
  have h2' : w2.heap[b2]? = some (.cells #[.int .i64 0, .int .i64 0, .slice none 0 0] 63 (0, 0)) := h2
  have k02 := Kp.trans k1 k2
  have sz1 := k1.size
  have sz2 := k02.size
  have hr2 := hr.kp k02
  have c1 : w2.cell? ⟨b1, 0, none⟩ = some v := by rw [cell_row (block_below h1' k2)]; rfl
  have none_ : ofB 8 l = false → ∀ w' : World, Kp w2 w' → bdQ Tryd.prog 63 [] fun t27 => stW Tryd.prog 63 (ptrV b2) t27 w' fun w_1 => ldN 3 w_1 (ptrV b2) fun r => (Ending.returned (Value.tuple #[r, .bool false]) = .returned (.tuple #[regV v l, .bool (ofB 8 l)]) ∧ Kp w w_1) := fun hf w' k' => by
    rw [bd63_0]
    refine st63 (block_below h2' k') fun w4 c4 s4 h4 => ?_
    rw [rg_box h4]
    unfold regV
    rw [hf]
    exact ⟨rfl, Kp.of_chg (Kp.trans k02 k') c4 fun q e => by omega⟩
  rw [r_ld c1, lnv, r_lss]
  by_cases g1 : (l.length : Int) < 1
  · have hf : ofB 8 l = false := by unfold ofB; rw [decide_eq_false (by omega)]; rfl
    rw [decide_eq_true g1]
    simp only [r_gdTF, r_gdU, r_pickT, r_condT]
    exact none_ hf w2 (Kp.refl _)
  rw [decide_eq_false g1]
  simp only [r_gdFF, r_ld c1, lnv, r_gtr, r_pickF]
  by_cases g2 : (8 : Int) < (l.length : Int)
  · have hf : ofB 8 l = false := by unfold ofB; rw [decide_eq_false (by omega)]; rfl
    rw [decide_eq_true g2]
    simp only [r_gdTF, r_gdU, r_pickT, r_condT]
    exact none_ hf w2 (Kp.refl _)
  rw [decide_eq_false g2]
  have h0 : 0 < l.length := by omega
  have h00 : ∀ w' : World, RdB w' v l → ∀ K : Value → Prop, (iaS 1 v (.int .i64 0) fun p => ld1 w' p K) = K (.string (l.getD 0 dB)) := fun w' h K => str_at h h0 K
  simp only [r_gdFF, r_ld c1, h00 w2 hr2, r_lnS, r_lss, r_gtr, r_pickF]
  by_cases g3 : ((l.getD 0 dB).size : Int) < 1
  · have hf : ofB 8 l = false := by unfold ofB; rw [decide_eq_false (by omega)]; rfl
    rw [decide_eq_true g3]
    simp only [r_gdTF, r_gdU, r_pickT, r_condT]
    exact none_ hf w2 (Kp.refl _)
  rw [decide_eq_false g3]
  simp only [r_gdFF, r_ld c1, h00 w2 hr2, r_lnS, r_gtr, r_pickF]
  by_cases g4 : (8 : Int) < ((l.getD 0 dB).size : Int)
  · have hf : ofB 8 l = false := by unfold ofB; rw [decide_eq_false (by omega)]; rfl
    rw [decide_eq_true g4, r_condT]
    exact none_ hf w2 (Kp.refl _)
  rw [decide_eq_false g4, r_condF]
  refine r_use fok54 (anyBad_calls w2 c1 hr2 h0 (by omega) hs) rfl ?_
  rintro _ w3 ⟨rfl, k3⟩
  refine ⟨_, rfl, ?_⟩
  cases q : l.any (badR (l.getD 0 dB).size) with
  | true =>
    have hf : ofB 8 l = false := by unfold ofB; rw [q]; simp
    rw [r_condT]
    exact none_ hf w3 k3
  | false =>
    have hT : ofB 8 l = true := by unfold ofB; rw [q, decide_eq_true (by omega)]; rfl
    rw [r_condF]
    refine r_drew fun w4 k4 _ => ?_
    have k24 := Kp.trans k3 k4
    have c14 := cell_later k24 c1
    rw [r_ld c14, h00 w4 (hr2.kp k24), r_lnS, r_ld c14, lnv, r_ld c14, ev, bd63]
    refine st63 (block_below h2' k24) fun w5 c5 s5 h5 => ?_
    rw [rg_box h5]
    unfold regV
    rw [hT, if_pos rfl]
    exact ⟨rfl, Kp.of_chg (Kp.trans k02 k24) c5 fun q e => by omega⟩

/-! ### cells -/
def byteAt (l : List ByteArray) (x y : Nat) : Nat := ((l.getD y dB).data.getD x 0).toNat
/-- Has the region this cell? -/
def hasB (l : List ByteArray) (x y : Int) : Bool := decide (0 ≤ x ∧ 0 ≤ y ∧ x < (l.getD 0 dB).size ∧ y < l.length) && decide (byteAt l x.toNat y.toNat = 35)
/-- A region that is one: the sizes of its rows. -/
structure RegOk (l : List ByteArray) (m : Nat) : Prop where
  len : 1 ≤ l.length ∧ l.length ≤ m
  wid : 1 ≤ (l.getD 0 dB).size ∧ (l.getD 0 dB).size ≤ m
  row : ∀ s ∈ l, s.size = (l.getD 0 dB).size ∧ plainB s = true
theorem reg_ok {m : Nat} {l : List ByteArray} (h : ofB m l = true) : RegOk l m := by
  unfold ofB at h
  rw [Bool.and_eq_true] at h
  have h1 := of_decide_eq_true h.1
  refine ⟨⟨h1.1, h1.2.1⟩, h1.2.2, fun s hs => ?_⟩
  have h2 : l.any (badR (l.getD 0 dB).size) = false := by simpa using h.2
  rw [List.any_eq_false] at h2
  have := h2 s hs
  unfold badR at this
  rw [Bool.or_eq_true, not_or] at this
  refine ⟨?_, ?_⟩
  · have := this.1; simpa using this
  · have := this.2; simpa using this

theorem fa_ld {w : World} {b o : Nat} {v : Value} (h : w.cell? ⟨b, o, none⟩ = some v) (K : Value → Prop) : (fa1 (ptrV b) o fun p => ld1 w p K) = K v := by
  rw [r_fa, Nat.zero_add, r_ld h]

set_option maxRecDepth 100000 in
set_option maxHeartbeats 1000000 in
theorem Has_calls {v : Value} {l : List ByteArray} {m : Nat} (x y : Int) (w : World) (hr : RdB w v l) (hR : RegOk l m) : Calls Tryd.prog 30 #[rgV (l.getD 0 dB).size l.length v, .int .i64 x, .int .i64 y] w fun e w' => e = .returned (.bool (hasB l x y)) ∧ Kp w w' := by
  obtain ⟨a, cap, ev, _⟩ := hr.len
  refine lift30 ?_
  unfold S30
  refine r_box fun b3 w1 e3 s3 h3 k1 => ?_
  have h3' : w1.heap[b3]? = some (.cells #[.int .i64 (l.getD 0 dB).size, .int .i64 l.length, v] 63 (0, 0)) := by rw [ev] at h3 ⊢; exact h3
  have c0 : w1.cell? ⟨b3, 0, none⟩ = some (.int .i64 (l.getD 0 dB).size) := by rw [cell_row h3']; rfl
  have c1 : w1.cell? ⟨b3, 1, none⟩ = some (.int .i64 l.length) := by rw [cell_row h3']; rfl
  have c2 : w1.cell? ⟨b3, 2, none⟩ = some v := by rw [cell_row h3']; rfl
  have no : ¬ (0 ≤ x ∧ 0 ≤ y ∧ x < (l.getD 0 dB).size ∧ y < l.length) → hasB l x y = false := fun h => by unfold hasB; rw [decide_eq_false h]; rfl
  by_cases g1 : 0 ≤ x
  case neg =>
    rw [no fun h => g1 h.1]
    simp (disch := omega) only [r_ln, r_pick, r_pickT, r_pickF, r_condT, r_condF, r_gdTT, r_gdFF, r_gdTF, r_gdFT, r_gqTT, r_gqFF, r_gqTF, r_gqFT, r_not, r_lss, r_leq, r_gtr, r_geq, r_eql, r_neq, r_add, r_sub, r_min2, r_max2, r_min3, r_max3, r_fa, r_iaS, r_iaA, r_ex2a, r_ex2b, r_ex3a, r_ex3b, r_ex3c, r_nc, r_keepE, Nat.zero_add, Nat.add_zero, Nat.mul_one, Int.toNat_natCast, toNat_sub1, toNat_add1, decide_true, decide_false, Bool.not_true, Bool.not_false, if_true, if_false, Bool.false_eq_true, reduceCtorEq, r_gdU, g1]
    exact ⟨by first | rfl | trivial, k1⟩
  by_cases g2 : 0 ≤ y
  case neg =>
    rw [no fun h => g2 h.2.1]
    simp (disch := omega) only [r_ln, r_pick, r_pickT, r_pickF, r_condT, r_condF, r_gdTT, r_gdFF, r_gdTF, r_gdFT, r_gqTT, r_gqFF, r_gqTF, r_gqFT, r_not, r_lss, r_leq, r_gtr, r_geq, r_eql, r_neq, r_add, r_sub, r_min2, r_max2, r_min3, r_max3, r_fa, r_iaS, r_iaA, r_ex2a, r_ex2b, r_ex3a, r_ex3b, r_ex3c, r_nc, r_keepE, Nat.zero_add, Nat.add_zero, Nat.mul_one, Int.toNat_natCast, toNat_sub1, toNat_add1, decide_true, decide_false, Bool.not_true, Bool.not_false, if_true, if_false, Bool.false_eq_true, reduceCtorEq, r_gdU, decide_eq_true g1, g2]
    exact ⟨by first | rfl | trivial, k1⟩
  by_cases g3 : x < ((l.getD 0 dB).size : Int)
  case neg =>
    rw [no fun h => g3 h.2.2.1]
    simp (disch := omega) only [r_ln, r_pick, r_pickT, r_pickF, r_condT, r_condF, r_gdTT, r_gdFF, r_gdTF, r_gdFT, r_gqTT, r_gqFF, r_gqTF, r_gqFT, r_not, r_lss, r_leq, r_gtr, r_geq, r_eql, r_neq, r_add, r_sub, r_min2, r_max2, r_min3, r_max3, r_fa, r_iaS, r_iaA, r_ex2a, r_ex2b, r_ex3a, r_ex3b, r_ex3c, r_nc, r_keepE, Nat.zero_add, Nat.add_zero, Nat.mul_one, Int.toNat_natCast, toNat_sub1, toNat_add1, decide_true, decide_false, Bool.not_true, Bool.not_false, if_true, if_false, Bool.false_eq_true, reduceCtorEq, r_gdU, decide_eq_true g1, decide_eq_true g2, r_ld c0, g3]
    exact ⟨by first | rfl | trivial, k1⟩
  by_cases g4 : y < (l.length : Int)
  case neg =>
    rw [no fun h => g4 h.2.2.2]
    simp (disch := omega) only [r_ln, r_pick, r_pickT, r_pickF, r_condT, r_condF, r_gdTT, r_gdFF, r_gdTF, r_gdFT, r_gqTT, r_gqFF, r_gqTF, r_gqFT, r_not, r_lss, r_leq, r_gtr, r_geq, r_eql, r_neq, r_add, r_sub, r_min2, r_max2, r_min3, r_max3, r_fa, r_iaS, r_iaA, r_ex2a, r_ex2b, r_ex3a, r_ex3b, r_ex3c, r_nc, r_keepE, Nat.zero_add, Nat.add_zero, Nat.mul_one, Int.toNat_natCast, toNat_sub1, toNat_add1, decide_true, decide_false, Bool.not_true, Bool.not_false, if_true, if_false, Bool.false_eq_true, reduceCtorEq, r_gdU, decide_eq_true g1, decide_eq_true g2, r_ld c0, r_ld c1, decide_eq_true g3, g4]
    exact ⟨by first | rfl | trivial, k1⟩
  obtain ⟨X, rfl⟩ : ∃ X : Nat, x = X := ⟨x.toNat, by omega⟩
  obtain ⟨Y, rfl⟩ : ∃ Y : Nat, y = Y := ⟨y.toNat, by omega⟩
  have hY : Y < l.length := by omega
  have hsz := (hR.row _ (getD_mem (d := dB) hY)).1
  have hX : X < (l.getD Y dB).size := by omega
  have hat : ∀ K : Value → Prop, (iaS 1 v (.int .i64 Y) fun p => ld1 w1 p K) = K (.string (l.getD Y dB)) := fun K => str_at (hr.kp k1) hY K
  have hb : (((l.getD Y dB)[X]'hX).toNat : Nat) = byteAt l X Y := by
    unfold byteAt
    have : (l.getD Y dB).data.getD X 0 = (l.getD Y dB)[X]'hX := by
      rw [Array.getD_eq_getD_getElem?, Array.getElem?_eq_getElem (by exact hX)]; rfl
    rw [this]
  simp (disch := omega) only [r_ln, r_pick, r_pickT, r_pickF, r_condT, r_condF, r_gdTT, r_gdFF, r_gdTF, r_gdFT, r_gqTT, r_gqFF, r_gqTF, r_gqFT, r_not, r_lss, r_leq, r_gtr, r_geq, r_eql, r_neq, r_add, r_sub, r_min2, r_max2, r_min3, r_max3, r_fa, r_iaS, r_iaA, r_ex2a, r_ex2b, r_ex3a, r_ex3b, r_ex3c, r_nc, r_keepE, Nat.zero_add, Nat.add_zero, Nat.mul_one, Int.toNat_natCast, toNat_sub1, toNat_add1, decide_true, decide_false, Bool.not_true, Bool.not_false, if_true, if_false, Bool.false_eq_true, reduceCtorEq, r_gdU, decide_eq_true g1, decide_eq_true g2, r_ld c0, r_ld c1, r_ld c2, decide_eq_true g3, decide_eq_true g4, hat]
  refine r_ixS hX ?_
  rw [hb, r_eql]
  have hE : hasB l X Y = decide (byteAt l X Y = 35) := by
    unfold hasB
    rw [decide_eq_true (by omega), Bool.true_and]; rfl
  rw [hE]
  refine ⟨ret_bool ?_, k1⟩
  by_cases q : byteAt l X Y = 35
  · rw [decide_eq_true q, decide_eq_true (by omega)]
  · rw [decide_eq_false q, decide_eq_false (by omega)]

end Go.Proofs.YtbekeccfjmoonaaDoor

/- Matchings of black and white cells, plainly: what one try to match a cell does, what is dead, and a set of cells with too few neighbours. No program. -/
namespace Go.Ht

abbrev C2 := Int × Int
def adjC (a b : C2) : Prop := (a.1 = b.1 ∧ (a.2 = b.2 + 1 ∨ b.2 = a.2 + 1)) ∨ (a.2 = b.2 ∧ (a.1 = b.1 + 1 ∨ b.1 = a.1 + 1))
def blackC (c : C2) : Bool := decide ((c.1 + c.2) % 2 = 0)
theorem adjC.symm {a b : C2} (h : adjC a b) : adjC b a := by unfold adjC at h ⊢; omega
theorem adjC.colour {a b : C2} (h : adjC a b) : blackC a = !blackC b := by
  unfold adjC at h
  unfold blackC
  by_cases q : (b.1 + b.2) % 2 = 0
  · rw [decide_eq_true q, decide_eq_false (by omega)]; rfl
  · rw [decide_eq_false q, decide_eq_true (by omega)]; rfl

abbrev Mate := C2 → Option C2
def upC (μ : Mate) (a b : C2) : Mate := fun x => if x = a then some b else μ x
theorem upC_same (μ : Mate) (a b : C2) : upC μ a b a = some b := if_pos rfl
theorem upC_ne {μ : Mate} {a b x : C2} (h : x ≠ a) : upC μ a b x = μ x := if_neg h

def Mt (R : C2 → Prop) (μ : Mate) : Prop := ∀ a b, μ a = some b → R a ∧ R b ∧ adjC a b ∧ μ b = some a
/-- What is dead: blacks whose neighbours are dead, whites that are matched with dead ones. -/
structure Dz (R : C2 → Prop) (μ : Mate) (D : C2 → Prop) : Prop where
  nb : ∀ c n, D c → blackC c = true → R n → adjC c n → D n
  mw : ∀ n, D n → blackC n = false → ∃ m, μ n = some m ∧ D m

/-- A cell was matched. -/
structure TryT (R D : C2 → Prop) (μ : Mate) (seen : C2 → Prop) (c : C2) (μ' : Mate) : Prop where
  keep : ∀ n, blackC n = false → seen n → μ' n = μ n
  dead : ∀ n, blackC n = false → D n → μ' n = μ n
  blk : ∀ b n, blackC b = true → μ' b = some n → R b ∧ R n ∧ adjC b n ∧ μ' n = some b
  wht : ∀ n b, blackC n = false → μ' n = some b → (R n ∧ R b ∧ adjC n b ∧ μ' b = some n) ∨ (b = c ∧ μ n = some c ∧ seen n)
  more : ∀ b, μ b ≠ none → μ' b ≠ none
  own : ∃ n, μ' c = some n ∧ blackC n = false ∧ ¬ seen n
  far : ∀ b, blackC b = true → b ≠ c → (μ b = none ∨ ∃ n, μ b = some n ∧ seen n) → μ' b = μ b
/-- A cell was not matched. -/
structure TryF (R : C2 → Prop) (μ : Mate) (seen : C2 → Prop) (c : C2) (seen' : C2 → Prop) : Prop where
  sub : ∀ n, seen n → seen' n
  near : ∀ n, R n → adjC c n → seen' n
  clo : ∀ n, seen' n → seen n ∨ (R n ∧ blackC n = false ∧ ∃ m, μ n = some m ∧ ∀ n', R n' → adjC m n' → seen' n')

section
variable {R D : C2 → Prop} {μ : Mate} {seen : C2 → Prop} {c n : C2}

theorem try_free (hM : Mt R μ) (hD : Dz R μ D) (hc : R c) (hcb : blackC c = true) (hn : R n) (ha : adjC c n) (hs : ¬ seen n) (hpre : ∀ n0, μ c = some n0 → seen n0) (h0 : μ n = none) : TryT R D μ seen c (upC (upC μ n c) c n) := by
  have hnw : blackC n = false := by have := ha.colour; rw [hcb] at this; simpa using this.symm
  have hcn : c ≠ n := fun e => by rw [e, hnw] at hcb; cases hcb
  have vn : upC (upC μ n c) c n n = some c := by rw [upC_ne (Ne.symm hcn), upC_same]
  have vo : ∀ x, x ≠ c → x ≠ n → upC (upC μ n c) c n x = μ x := fun x h1 h2 => by rw [upC_ne h1, upC_ne h2]
  have ww : ∀ x, blackC x = false → x ≠ c := fun x h e => by rw [e, hcb] at h; cases h
  have wb : ∀ x, blackC x = true → x ≠ n := fun x h e => by rw [e, hnw] at h; cases h
  refine ⟨fun x hx h => ?_, fun x hx h => ?_, fun b x hb h => ?_, fun x b hx h => ?_, fun b h => ?_, ⟨n, upC_same .., hnw, hs⟩, fun b hb hbc h => ?_⟩
  · exact vo x (ww x hx) fun e => hs (by rw [← e]; exact h)
  · refine vo x (ww x hx) fun e => ?_
    obtain ⟨m, hm, _⟩ := hD.mw x h hx
    rw [e, h0] at hm; cases hm
  · by_cases e : b = c
    · subst e
      rw [upC_same] at h
      injection h with h
      subst h
      exact ⟨hc, hn, ha, vn⟩
    · rw [vo b e (wb b hb)] at h
      obtain ⟨h1, h2, h3, h4⟩ := hM b x h
      have hxn : x ≠ n := fun e => by rw [e, h0] at h4; cases h4
      have hxw : blackC x = false := by have := h3.colour; rw [hb] at this; simpa using this.symm
      exact ⟨h1, h2, h3, by rw [vo x (ww x hxw) hxn]; exact h4⟩
  · by_cases e : x = n
    · subst e
      rw [vn] at h
      injection h with h
      subst h
      exact .inl ⟨hn, hc, ha.symm, upC_same ..⟩
    · rw [vo x (ww x hx) e] at h
      obtain ⟨h1, h2, h3, h4⟩ := hM x b h
      have hbb : blackC b = true := by have := h3.colour; rw [hx] at this; simpa using this.symm
      by_cases e2 : b = c
      · subst e2
        exact .inr ⟨rfl, h, hpre x h4⟩
      · exact .inl ⟨h1, h2, h3, by rw [vo b e2 (wb b hbb)]; exact h4⟩
  · by_cases e : b = c
    · rw [e, upC_same]; simp
    · by_cases e2 : b = n
      · rw [e2, h0] at h; exact absurd rfl h
      · rw [vo b e e2]; exact h
  · exact vo b hbc (wb b hb)

theorem try_on {seen1 : C2 → Prop} {m : C2} {μ1 : Mate} (hM : Mt R μ) (hc : R c) (hcb : blackC c = true) (hn : R n) (ha : adjC c n) (hs : ¬ seen n) (hs1 : seen1 n) (hsub : ∀ x, seen x → seen1 x) (hpre : ∀ n0, μ c = some n0 → seen n0) (h0 : μ n = some m) (hDn : ¬ D n)
    (h : TryT R D μ seen1 m μ1) : TryT R D μ seen c (upC (upC μ1 n c) c n) := by
  have hnw : blackC n = false := by have := ha.colour; rw [hcb] at this; simpa using this.symm
  have hcn : c ≠ n := fun e => by rw [e, hnw] at hcb; cases hcb
  obtain ⟨_, hmR, hmn, hmm⟩ := hM n m h0
  have hmb : blackC m = true := by have := hmn.colour; rw [hnw] at this; simpa using this.symm
  have hmc : c ≠ m := fun e => by rw [← e] at hmm; exact hs (hpre n hmm)
  have vn : upC (upC μ1 n c) c n n = some c := by rw [upC_ne (Ne.symm hcn), upC_same]
  have vo : ∀ x, x ≠ c → x ≠ n → upC (upC μ1 n c) c n x = μ1 x := fun x h1 h2 => by rw [upC_ne h1, upC_ne h2]
  have ww : ∀ x, blackC x = false → x ≠ c := fun x h e => by rw [e, hcb] at h; cases h
  have wb : ∀ x, blackC x = true → x ≠ n := fun x h e => by rw [e, hnw] at h; cases h
  have hcc : μ1 c = μ c := h.far c hcb hmc (by
    cases q : μ c with
    | none => exact .inl rfl
    | some n0 => exact .inr ⟨n0, rfl, hsub n0 (hpre n0 q)⟩)
  have hn1 : μ1 n = some m := (h.keep n hnw hs1).trans h0
  refine ⟨fun x hx hq => ?_, fun x hx hq => ?_, fun b x hb hq => ?_, fun x b hx hq => ?_, fun b hq => ?_, ⟨n, upC_same .., hnw, hs⟩, fun b hb hbc hq => ?_⟩
  · rw [vo x (ww x hx) fun e => hs (by rw [← e]; exact hq)]
    exact h.keep x hx (hsub x hq)
  · rw [vo x (ww x hx) fun e => hDn (by rw [← e]; exact hq)]
    exact h.dead x hx hq
  · by_cases e : b = c
    · subst e
      rw [upC_same] at hq
      injection hq with hq
      subst hq
      exact ⟨hc, hn, ha, vn⟩
    · rw [vo b e (wb b hb)] at hq
      obtain ⟨h1, h2, h3, h4⟩ := h.blk b x hb hq
      have hxn : x ≠ n := fun e2 => by
        rw [e2, hn1] at h4
        injection h4 with h4
        obtain ⟨n2, o1, _, o3⟩ := h.own
        rw [h4, hq, e2] at o1
        injection o1 with o1
        exact o3 (by rw [← o1]; exact hs1)
      have hxw : blackC x = false := by have := h3.colour; rw [hb] at this; simpa using this.symm
      exact ⟨h1, h2, h3, by rw [vo x (ww x hxw) hxn]; exact h4⟩
  · by_cases e : x = n
    · subst e
      rw [vn] at hq
      injection hq with hq
      subst hq
      exact .inl ⟨hn, hc, ha.symm, upC_same ..⟩
    · rw [vo x (ww x hx) e] at hq
      rcases h.wht x b hx hq with ⟨h1, h2, h3, h4⟩ | ⟨h1, h2, _⟩
      · have hbb : blackC b = true := by have := h3.colour; rw [hx] at this; simpa using this.symm
        by_cases e2 : b = c
        · subst e2
          rw [hcc] at h4
          exact .inr ⟨rfl, (hM b x h4).2.2.2, hpre x h4⟩
        · exact .inl ⟨h1, h2, h3, by rw [vo b e2 (wb b hbb)]; exact h4⟩
      · have := (hM x m h2).2.2.2
        rw [hmm] at this
        injection this with this
        exact absurd this.symm e
  · by_cases e : b = c
    · rw [e, upC_same]; simp
    · by_cases e2 : b = n
      · rw [e2, vn]; simp
      · rw [vo b e e2]; exact h.more b hq
  · rw [vo b hbc (wb b hb)]
    have hbm : b ≠ m := fun e => by
      rcases hq with hq | ⟨n2, hq, hs2⟩
      · rw [e, hmm] at hq; cases hq
      · rw [e, hmm] at hq
        injection hq with hq
        exact hs (by rw [hq]; exact hs2)
    refine h.far b hb hbm ?_
    rcases hq with hq | ⟨n2, hq, hs2⟩
    · exact .inl hq
    · exact .inr ⟨n2, hq, hsub n2 hs2⟩
end

/-- Where the try began with nothing seen. -/
theorem TryT.mt {R D : C2 → Prop} {μ μ' : Mate} {c : C2} (h : TryT R D μ (fun _ => False) c μ') : Mt R μ' := fun a b hab => by
  cases q : blackC a with
  | true => exact h.blk a b q hab
  | false =>
    rcases h.wht a b q hab with h | h
    · exact h
    · exact h.2.2.elim
theorem TryT.dz {R D : C2 → Prop} {μ μ' : Mate} {seen : C2 → Prop} {c : C2} (h : TryT R D μ seen c μ') (hD : Dz R μ D) : Dz R μ' D :=
  ⟨hD.nb, fun n hn hw => by rw [h.dead n hw hn]; exact hD.mw n hn hw⟩
def deadMore (D : C2 → Prop) (μ : Mate) (c : C2) (seen' : C2 → Prop) : C2 → Prop := fun x => D x ∨ x = c ∨ seen' x ∨ ∃ n, seen' n ∧ μ n = some x
theorem TryF.dz {R D : C2 → Prop} {μ : Mate} {c : C2} {seen' : C2 → Prop} (h : TryF R μ (fun _ => False) c seen') (hM : Mt R μ) (hD : Dz R μ D) (hcb : blackC c = true) : Dz R μ (deadMore D μ c seen') := by
  have clo : ∀ n, seen' n → R n ∧ blackC n = false ∧ ∃ m, μ n = some m ∧ ∀ n', R n' → adjC m n' → seen' n' := fun n hn => (h.clo n hn).resolve_left id
  refine ⟨fun a n ha hb hn hadj => ?_, fun n hn hw => ?_⟩
  · rcases ha with ha | ha | ha | ⟨n1, h1, h2⟩
    · exact .inl (hD.nb a n ha hb hn hadj)
    · rw [ha] at hadj; exact .inr (.inr (.inl (h.near n hn hadj)))
    · have := (clo a ha).2.1; rw [this] at hb; cases hb
    · obtain ⟨_, _, m, hm, hcl⟩ := clo n1 h1
      rw [h2] at hm; injection hm with hm
      exact .inr (.inr (.inl (hcl n hn (by rw [← hm]; exact hadj))))
  · rcases hn with hn | hn | hn | ⟨n1, h1, h2⟩
    · obtain ⟨m, hm, hd⟩ := hD.mw n hn hw
      exact ⟨m, hm, .inl hd⟩
    · rw [hn, hcb] at hw; cases hw
    · obtain ⟨_, _, m, hm, _⟩ := clo n hn
      exact ⟨m, hm, .inr (.inr (.inr ⟨n, hn, hm⟩))⟩
    · have h3 := (clo n1 h1).2.1
      have h4 := (hM n1 n h2).2.2.1.colour
      rw [h3, hw] at h4; cases h4

/-- A set of one colour around a cell alone, all of whose neighbours are matched into it. -/
theorem hall_set {R D : C2 → Prop} {μ : Mate} (hM : Mt R μ) (hD : Dz R μ D) (hall : ∀ b, R b → blackC b = true → μ b ≠ none ∨ D b) {u : C2} (hu : R u) (h0 : μ u = none) :
    ∃ S : C2 → Prop, S u ∧ (∀ c, S c → R c ∧ blackC c = blackC u) ∧ ∀ c n, S c → R n → adjC c n → ∃ m, μ n = some m ∧ S m := by
  cases q : blackC u with
  | true =>
    refine ⟨fun c => R c ∧ blackC c = true ∧ D c, ⟨hu, q, (hall u hu q).resolve_left fun h => h h0⟩, fun c hc => ⟨hc.1, hc.2.1⟩, fun c n hc hn ha => ?_⟩
    have hd := hD.nb c n hc.2.2 hc.2.1 hn ha
    have hnw : blackC n = false := by have := ha.colour; rw [hc.2.1] at this; simpa using this.symm
    obtain ⟨m, hm, hdm⟩ := hD.mw n hd hnw
    obtain ⟨_, h2, h3, _⟩ := hM n m hm
    have hmb : blackC m = true := by have := h3.colour; rw [hnw] at this; simpa using this.symm
    exact ⟨m, hm, h2, hmb, hdm⟩
  | false =>
    have hnd : ∀ x, blackC x = false → (∀ m, μ x = some m → ¬ D m) → ¬ D x := fun x hx h hd => by
      obtain ⟨m, hm, hdm⟩ := hD.mw x hd hx
      exact h m hm hdm
    refine ⟨fun c => R c ∧ blackC c = false ∧ ¬ D c, ⟨hu, q, hnd u q fun m hm => by rw [h0] at hm; cases hm⟩, fun c hc => ⟨hc.1, hc.2.1⟩, fun c n hc hn ha => ?_⟩
    have hnb : blackC n = true := by have := ha.colour; rw [hc.2.1] at this; simpa using this.symm
    have hdn : ¬ D n := fun hd => hc.2.2 (hD.nb n c hd hnb hc.1 ha.symm)
    cases hm : μ n with
    | none => exact absurd hm ((hall n hn hnb).resolve_right hdn)
    | some m =>
      obtain ⟨_, h2, h3, h4⟩ := hM n m hm
      have hmw : blackC m = false := by have := h3.colour; rw [hnb] at this; simpa using this.symm
      exact ⟨m, rfl, h2, hmw, hnd m hmw fun x hx => by rw [h4] at hx; injection hx with hx; rw [← hx]; exact hdn⟩

end Go.Ht
