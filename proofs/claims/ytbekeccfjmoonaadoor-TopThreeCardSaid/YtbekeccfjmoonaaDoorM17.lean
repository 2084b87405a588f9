/- Texts of my own, merged by program: Ti Sb. -/
import Derived.Test.YtbekeccfjmoonaaDoorM10
import Derived.Test.YtbekeccfjmoonaaDoorM11
import Derived.Test.YtbekeccfjmoonaaDoorM16
import Derived.Test.YtbekeccfjmoonaaDoorM07
set_option linter.all false
/- Contract of weight: floored. -/
namespace Go.Proofs.YtbekeccfjmoonaaDoor
open Go.Lf Go.RowKit Go.Ht

/-- The number of a cell in a list. -/
def numF (P : List C2) : C2 → Option Value := fun c => if c ∈ P then some (.int .i64 ((P.idxOf c : Nat) : Int)) else none
theorem numF_push {P : List C2} {c : C2} (h : c ∉ P) : updO (numF P) c (.int .i64 ((P.length : Nat) : Int)) = numF (P ++ [c]) := by
  funext x
  unfold updO numF
  by_cases e : x = c
  · subst e
    rw [if_pos rfl, if_pos (by simp), List.idxOf_append, if_neg h]
    simp
  · rw [if_neg e]
    by_cases hx : x ∈ P
    · rw [if_pos hx, if_pos (by simp [hx]), List.idxOf_append, if_pos hx]
    · rw [if_neg hx, if_neg (by simp [hx, e])]
theorem numF_nil : (fun _ : C2 => (none : Option Value)) = numF [] := by funext x; simp [numF]
theorem cell_new {l : List ByteArray} {y x : Nat} : (((x : Nat) : Int), ((y : Nat) : Int)) ∉ cellsP l y ++ rowP l y x := by
  rw [List.mem_append, not_or]
  constructor
  · intro h
    obtain ⟨y', hy, h⟩ := cellsP_mem.1 h
    obtain ⟨x', _, _, e⟩ := rowP_mem.1 h
    injection e with _ e
    omega
  · intro h
    obtain ⟨x', hx, _, e⟩ := rowP_mem.1 h
    injection e with e _
    omega

/-- A floor in memory. -/
structure FloorAt (base : Nat) (w : World) (bf bm : Nat) (vs : Value) (P : List C2) : Prop where
  box : w.heap[bf]? = some (.cells #[vs, .map (some bm)] 55 (0, 0))
  cl : ClAt base w vs P
  mp : MapO cV okC w bm (numF P)
  fb : base ≤ bf
  mb : base ≤ bm
theorem FloorAt.kp {base : Nat} {w w' : World} {bf bm : Nat} {vs : Value} {P : List C2} (h : FloorAt base w bf bm vs P) (k : Kp w w') : FloorAt base w' bf bm vs P :=
  ⟨block_below h.box k, h.cl.kp k, h.mp.kp k, h.fb, h.mb⟩
theorem FloorAt.ne {base : Nat} {w : World} {bf bm : Nat} {vs : Value} {P : List C2} (h : FloorAt base w bf bm vs P) : bf ≠ bm := fun e => by
  obtain ⟨_, _, h1, _⟩ := h.mp
  have := h.box
  rw [e, h1] at this
  cases this
theorem FloorAt.own {base : Nat} {w : World} {bf bm : Nat} {vs : Value} {P : List C2} (h : FloorAt base w bf bm vs P) {k : Nat} (hk : vs.ownBlock = some k) : k ≠ bf ∧ k ≠ bm ∧ base ≤ k ∧ k < w.heap.size := by
  obtain ⟨cur, hc⟩ := own_type h.cl hk
  refine ⟨fun e => ?_, fun e => ?_, (RecAt.lt h.cl hk).1, (RecAt.lt h.cl hk).2⟩
  · rw [e, h.box] at hc
    injection hc with hc
    injection hc with _ hc _
    exact absurd hc (by decide)
  · obtain ⟨_, _, h1, _⟩ := h.mp
    rw [e, h1] at hc
    cases hc
theorem FloorAt.cells {base : Nat} {w : World} {bf bm : Nat} {vs : Value} {P : List C2} (h : FloorAt base w bf bm vs P) : w.cell? ⟨bf, 0, none⟩ = some vs ∧ w.cell? ⟨bf, 1, none⟩ = some (.map (some bm)) := by
  constructor <;> rw [cell_row h.box] <;> rfl

set_option maxRecDepth 100000 in
theorem bd55 {b : Nat} {K : Value → Prop} : bdQ Tryd.prog 55 [(1, .map (some b))] K = K (.agg #[nilS, .map (some b)]) := by kernel_rfl
theorem st39 {w : World} {a : Addr} {x : Option Addr} {n c : Nat} {v : Value} {K : World → Prop} (hc : w.cell? a = some v) (hf : w.frozen? a = false) : stW Tryd.prog 39 (.pointer (some a)) (.slice x n c) w K = K (w.setCell a (.slice x n c)) := by
  have e : stW Tryd.prog 39 (.pointer (some a)) (.slice x n c) w K = ((w.cell? (a.add 0)).isSome = true ∧ w.frozen? (a.add 0) = false ∧ true = true ∧ K (w.setCell (a.add 0) (.slice x n c))) := by kernel_rfl
  rw [e]
  have ha : a.add 0 = a := rfl
  simp [ha, hc, hf]

set_option maxRecDepth 100000 in
set_option maxHeartbeats 2000000 in
theorem r45_1 {l : List ByteArray} {bf bm y base : Nat} {vs0 : Value} {w0 : World} {next : Value → World → Prop} (hy : y < l.length) (hwid : (l.getD 0 dB).size ≤ 4) (hlen : l.length ≤ 4) (hsz : (l.getD y dB).size = (l.getD 0 dB).size) (hb0 : base ≤ w0.heap.size)
    (hF : FloorAt base w0 bf bm vs0 (cellsP l y))
    (hnext : ∀ vs w', FloorAt base w' bf bm vs (cellsP l (y + 1)) → Chg (fun k => base ≤ k) w0 w' → next (.int .i64 ((y : Int) + 1)) w') :
    S45xL1 (ptrV bf) (.int .i64 y) (.string (l.getD y dB)) (.int .i64 (l.getD y dB).size) next w0 := by
  have hcl := cellsP_le l y
  have hm : y * (l.getD 0 dB).size ≤ 4 * 4 := Nat.mul_le_mul (by omega) (by omega)
  unfold S45xL1
  refine ⟨fun t55 w' => ∃ (x : Nat) (vs : Value), x ≤ (l.getD 0 dB).size ∧ t55 = .int .i64 x ∧ FloorAt base w' bf bm vs (cellsP l y ++ rowP l y x) ∧ Chg (fun k => base ≤ k) w0 w', fun t55 _ => (l.getD 0 dB).size - (intOf t55).toNat, ⟨0, vs0, by omega, rfl, by simpa [rowP] using hF, Chg.refl _ _⟩, ?_⟩
  rintro _ _ wr ⟨x, vs, hx, rfl, hFr, Cr⟩
  rw [hsz]
  by_cases hlt : x < (l.getD 0 dB).size
  case neg =>
    have hlt' : ¬ (x : Int) < ((l.getD 0 dB).size : Int) := by omega
    obtain rfl : x = (l.getD 0 dB).size := by omega
    rw [r_lss, decide_eq_false hlt', r_condF, r_add _ _ (by omega) (by omega)]
    exact hnext vs wr hFr Cr
  have hlt' : (x : Int) < ((l.getD 0 dB).size : Int) := by omega
  rw [r_lss, decide_eq_true hlt', r_condT]
  have hX : x < (l.getD y dB).size := by omega
  refine r_ixS hX ?_
  have hb : (((l.getD y dB)[x]'hX).toNat : Nat) = byteAt l x y := by
    unfold byteAt
    have : (l.getD y dB).data.getD x 0 = (l.getD y dB)[x]'hX := by
      rw [Array.getD_eq_getD_getElem?, Array.getElem?_eq_getElem (by exact hX)]; rfl
    rw [this]
  have hE : hasB l (x : Nat) (y : Nat) = decide (byteAt l x y = 35) := by
    unfold hasB
    rw [decide_eq_true (by omega), Bool.true_and]; rfl
  have hI : decide (((byteAt l x y : Nat) : Int) = 35) = hasB l (x : Nat) (y : Nat) := by
    rw [hE]
    by_cases q : byteAt l x y = 35
    · rw [decide_eq_true q, decide_eq_true (by omega)]
    · rw [decide_eq_false q, decide_eq_false (by omega)]
  rw [hb, r_eql, hI]
  have hrl := rowP_le l y x
  have hrs := rowP_succ l y x
  refine r_joinW (fun w' => ∃ vs : Value, FloorAt base w' bf bm vs (cellsP l y ++ rowP l y (x + 1)) ∧ Chg (fun k => base ≤ k) w0 w') ?_ fun kk hkk => ?_
  · rintro w' ⟨vs', g1, g2⟩
    rw [r_add _ _ (by omega) (by omega)]
    exact ⟨⟨x + 1, vs', by omega, by go_num, g1, g2⟩, by simp only [intOf]; omega⟩
  cases q : hasB l (x : Int) (y : Int) with
  | false =>
    rw [q] at hrs
    rw [r_condF]
    exact hkk _ ⟨vs, by rw [hrs]; simpa using hFr, Cr⟩
  | true =>
  rw [q, if_pos rfl] at hrs
  replace hrs : cellsP l y ++ rowP l y (x + 1) = cellsP l y ++ rowP l y x ++ [((x : Int), (y : Int))] := by rw [hrs, List.append_assoc]
  rw [r_condT, bd43]
  refine r_box fun b8 w1 e8 s8 h8 k1 => ?_
  have h8' : w1.heap[b8]? = some (.cells #[.int .i64 0, .int .i64 0] 43 (0, 0)) := h8
  refine st43 (p := ((x : Int), (y : Int))) h8' fun w2 c2 s2 h82 => ?_
  have kr2 : Kp wr w2 := Kp.of_chg k1 c2 fun q e => by omega
  refine r_drew fun w3 k3 _ => ?_
  have kr3 := Kp.trans kr2 k3
  have F3 := hFr.kp kr3
  have h83 := block_below h82 k3
  obtain ⟨av, capv, evs, _⟩ := RecAt.len F3.cl
  have lnv : ∀ K : Value → Prop, ln1 vs K = K (.int .i64 ((cellsP l y ++ rowP l y x).length : Nat)) := fun K => by rw [evs]; rfl
  rw [r_nc, r_fa, r_ld F3.cells.2, c_box h83, r_nc, r_fa, r_ld F3.cells.1, lnv]
  refine r_muO keyC und53 zero3 F3.mp (k := ((x : Int), (y : Int))) ⟨⟨by omega, by omega⟩, ⟨by omega, by omega⟩⟩ fun w4 hm4 c4 s4 => ?_
  rw [numF_push cell_new] at hm4
  have hne := F3.ne
  have b8r : wr.heap.size ≤ b8 := by omega
  have bml : bm < wr.heap.size := hFr.mp.lt
  have bfl : bf < wr.heap.size := block_lt hFr.box
  have h84 : w4.heap[b8]? = _ := c4.at h83 (by omega)
  have hbox4 : w4.heap[bf]? = _ := c4.at F3.box hne
  have hcl4 : ClAt base w4 vs (cellsP l y ++ rowP l y x) := RecAt.chg F3.cl c4 fun k hk e => (hFr.own hk).2.1 e
  refine r_drew fun w5 k5 _ => ?_
  have h85 := block_below h84 k5
  have hbox5 := block_below hbox4 k5
  have hcl5 := RecAt.kp hcl4 k5
  have hm5 := hm4.kp k5
  have szr := kr3.size
  have sz5 := k5.size
  have bw : base ≤ w5.heap.size := by have := Cr.size; omega
  have cc5 : w5.cell? ⟨bf, 0, none⟩ = some vs := by rw [cell_row hbox5]; rfl
  refine ⟨fun k => vs.ownBlock = some k ∨ w5.heap.size ≤ k, ?_⟩
  have hbfX : ¬ (vs.ownBlock = some bf ∨ w5.heap.size ≤ bf) := by
    rintro (h | h)
    · exact (hFr.own h).1 rfl
    · omega
  simp only [r_tx, r_nc, r_fa]
  rw [r_txl cc5 hbfX, c_box h85, bs39, r_keepXE]
  have k6 : Kp w5 (w5.alloc (.cells (cV ((x : Int), (y : Int))).cells 43)) := below_alloc _
  refine ⟨BX.of_below k6, ?_⟩
  have hone : RecAt 43 2 cC w5.heap.size (w5.alloc (.cells (cV ((x : Int), (y : Int))).cells 43)) (.slice (some ⟨w5.heap.size, 0, none⟩) 1 1) [((x : Int), (y : Int))] := by
    have := rec_alloc (e := 43) cC_len [((x : Int), (y : Int))] (by simp) w5
    simp [recCells, cC] at this
    exact this
  generalize (w5.alloc (.cells (cV ((x : Int), (y : Int))).cells 43)) = w6 at *
  have sz6 := k6.size
  refine r_apRec slt39 cC_len (fun x => cC_one x) (by omega) (RecAt.kp hcl5 k6) (hone.rd cC_len) (by simp only [List.length_append, List.length_cons, List.length_nil]; omega) (by omega) fun vs7 w7 o7 c7 at7 => ?_
  rw [r_keepXE]
  refine ⟨BX.of_chg c7 fun k e => .inl e, ?_⟩
  have hbox7 : w7.heap[bf]? = _ := c7.at (block_below hbox5 k6) fun e => hbfX (.inl e)
  have hm7 := (hm5.kp k6).chg c7 fun e => (hFr.own e).2.1 rfl
  have cc7 : w7.cell? ⟨bf, 0, none⟩ = some vs := by rw [cell_row hbox7]; rfl
  obtain ⟨a7, cap7, e7, _⟩ := RecAt.len o7
  have c70 : vs7 = .slice a7 (cellsP l y ++ rowP l y x ++ [((x : Int), (y : Int))]).length cap7 := e7
  rw [c70, st39 cc7 (frozen_row hbox7), ← c70]
  have c8 : Chg (fun k => k = bf) w7 (w7.setCell ⟨bf, 0, none⟩ vs7) := Chg.setCell w7 vs7 rfl
  have hbox8 := setCell_block (w' := w7.setCell ⟨bf, 0, none⟩ vs7) hbox7 rfl
  have o8 : ClAt base (w7.setCell ⟨bf, 0, none⟩ vs7) vs7 (cellsP l y ++ rowP l y x ++ [((x : Int), (y : Int))]) := RecAt.chg o7 c8 fun k hk e => by
    rcases at7 k hk with h | h
    · exact (hFr.own h).1 e
    · omega
  have hm8 := hm7.chg c8 fun e => hne e.symm
  refine hkk _ ⟨vs7, ⟨hbox8, by rw [hrs]; exact o8, by rw [hrs]; exact hm8, hFr.fb, hFr.mb⟩, ?_⟩
  have b0 := hFr.fb
  have m0 := hFr.mb
  have cA : Chg (fun k => base ≤ k) wr w5 := (Chg.of_kp kr3).trans ((c4.mono fun k _ e => by omega).trans (Chg.of_kp k5))
  refine Cr.trans (cA.trans ((Chg.of_kp k6).trans ((c7.mono fun k _ e => (hFr.own e).2.2.1).trans (c8.mono fun k _ e => by omega))))

/-- Is this a floor for weights? -/
def flB (l : List ByteArray) : Bool := ofB 4 l && !(cellsB l).isEmpty

set_option maxRecDepth 100000 in
set_option maxHeartbeats 2000000 in
theorem floored_calls {v : Value} {l : List ByteArray} (w : World) (hr : RdB w v l) (hs : ∀ s ∈ l, s.size ≤ 9223372036854775807) :
    Calls Tryd.prog 45 #[v] w fun e w' => Kp w w' ∧ ((flB l = true ∧ ∃ bf bm vs, e = .returned (.tuple #[ptrV bf, .bool true]) ∧ FloorAt w.heap.size w' bf bm vs (cellsB l)) ∨ (flB l = false ∧ ∃ x, e = .returned (.tuple #[x, .bool false]))) := by
  obtain ⟨a, cap, ev, _⟩ := hr.len
  have lnv : ∀ K : Value → Prop, ln1 v K = K (.int .i64 l.length) := fun K => by rw [ev]; rfl
  refine lift45x ?_
  unfold S45x
  refine r_mm ?_
  have k1 : Kp w (w.alloc (.map #[] 0)) := below_alloc _
  have hm1 := mapO_new cV okC w
  rw [numF_nil] at hm1
  have sbm : w.heap.size < (w.alloc (.map #[] 0)).heap.size := hm1.lt
  generalize hbm : w.heap.size = bm at *
  generalize w.alloc (.map #[] 0) = w1 at *
  rw [bd55]
  refine r_box fun bf w2 e2 s2 h2 k2 => ?_
  have h2' : w2.heap[bf]? = some (.cells #[nilS, .map (some bm)] 55 (0, 0)) := h2
  have k02 := Kp.trans k1 k2
  have F2 : FloorAt bm w2 bf bm nilS (cellsP l 0) := ⟨h2', RecAt.nil, hm1.kp k2, by omega, Nat.le_refl _⟩
  have hr2 := hr.kp k02
  have none_ : ofB 4 l = false → ∀ w' : World, Kp w2 w' → (Kp w w' ∧ ((flB l = true ∧ ∃ bf' bm' vs, (Ending.returned (.tuple #[.pointer none, .bool false])) = .returned (.tuple #[ptrV bf', .bool true]) ∧ FloorAt bm w' bf' bm' vs (cellsB l)) ∨ (flB l = false ∧ ∃ x, (Ending.returned (.tuple #[.pointer none, .bool false])) = .returned (.tuple #[x, .bool false])))) := fun hf w' k' =>
    ⟨Kp.trans k02 k', .inr ⟨by unfold flB; rw [hf]; rfl, _, rfl⟩⟩
  rw [lnv, r_lss]
  by_cases g1 : (l.length : Int) < 1
  · have hf : ofB 4 l = false := by unfold ofB; rw [decide_eq_false (by omega)]; rfl
    rw [decide_eq_true g1]
    simp only [r_gdTF, r_gdU, r_pickT, r_condT]
    exact none_ hf w2 (Kp.refl _)
  rw [decide_eq_false g1]
  simp only [r_gdFF, lnv, r_gtr, r_pickF]
  by_cases g2 : (4 : Int) < (l.length : Int)
  · have hf : ofB 4 l = false := by unfold ofB; rw [decide_eq_false (by omega)]; rfl
    rw [decide_eq_true g2]
    simp only [r_gdTF, r_gdU, r_pickT, r_condT]
    exact none_ hf w2 (Kp.refl _)
  rw [decide_eq_false g2]
  have h0 : 0 < l.length := by omega
  have h00 : ∀ w' : World, RdB w' v l → ∀ K : Value → Prop, (iaS 1 v (.int .i64 0) fun p => ld1 w' p K) = K (.string (l.getD 0 dB)) := fun w' h K => str_at h h0 K
  simp only [r_gdFF, h00 w2 hr2, r_lnS, r_lss, r_gtr, r_pickF]
  by_cases g3 : ((l.getD 0 dB).size : Int) < 1
  · have hf : ofB 4 l = false := by unfold ofB; rw [decide_eq_false (by omega)]; rfl
    rw [decide_eq_true g3]
    simp only [r_gdTF, r_gdU, r_pickT, r_condT]
    exact none_ hf w2 (Kp.refl _)
  rw [decide_eq_false g3]
  simp only [r_gdFF, h00 w2 hr2, r_lnS, r_gtr, r_pickF]
  by_cases g4 : (4 : Int) < ((l.getD 0 dB).size : Int)
  · have hf : ofB 4 l = false := by unfold ofB; rw [decide_eq_false (by omega)]; rfl
    rw [decide_eq_true g4, r_condT]
    exact none_ hf w2 (Kp.refl _)
  rw [decide_eq_false g4, r_condF]
  unfold S45xL0
  refine ⟨fun t36 w' => ∃ (y : Nat) (vs : Value), y ≤ l.length ∧ t36 = .int .i64 y ∧ FloorAt bm w' bf bm vs (cellsP l y) ∧ (∀ j, j < y → badR (l.getD 0 dB).size (l.getD j dB) = false) ∧ Kp w w', fun t36 _ => l.length - (intOf t36).toNat, ⟨0, nilS, by omega, rfl, F2, fun j hj => by omega, k02⟩, ?_⟩
  rintro _ _ wr ⟨y, vs, hy, rfl, Fr', hall, kr⟩
  by_cases hlt : y < l.length
  case neg =>
    have hlt' : ¬ (y : Int) < (l.length : Int) := by omega
    obtain rfl : y = l.length := by omega
    rw [r_lss, decide_eq_false hlt', r_condF]
    have hT : ofB 4 l = true := by
      unfold ofB
      rw [decide_eq_true (by omega), Bool.true_and]
      have : l.any (badR (l.getD 0 dB).size) = false := by
        rw [List.any_eq_false]
        intro s hs
        obtain ⟨j, hj, rfl⟩ := List.getElem_of_mem hs
        have := hall j (by omega)
        rw [getD_lt l j dB hj] at this
        rw [this]; decide
      rw [this]; rfl
    refine r_drew fun w3 k3 _ => ?_
    have F3 := Fr'.kp k3
    obtain ⟨av, capv, evs, _⟩ := RecAt.len F3.cl
    have lnq : ∀ K : Value → Prop, ln1 vs K = K (.int .i64 ((cellsP l l.length).length : Nat)) := fun K => by rw [evs]; rfl
    rw [r_nc, r_fa, r_ld F3.cells.1, lnq, r_gtr]
    refine ⟨Kp.trans kr k3, ?_⟩
    by_cases he : (cellsP l l.length).length = 0
    · refine .inr ⟨?_, ptrV bf, ?_⟩
      · unfold flB cellsB
        rw [List.length_eq_zero_iff.1 he]; simp
      · rw [decide_eq_false (by omega)]
    · refine .inl ⟨?_, bf, bm, vs, ?_, F3⟩
      · unfold flB cellsB
        rw [hT]
        cases q : cellsP l l.length with
        | nil => rw [q] at he; simp at he
        | cons c t => rfl
      · rw [decide_eq_true (by omega)]
  have hlt' : (y : Int) < (l.length : Int) := by omega
  have hrr := hr.kp kr
  have hss : (l.getD y dB).size ≤ 9223372036854775807 := hs _ (getD_mem hlt)
  rw [r_lss, decide_eq_true hlt', r_condT, str_at hrr hlt, r_lnS, h00 wr hrr, r_lnS, r_neq]
  have k2r : ∀ {w' : World}, Kp wr w' → Kp w w' := fun k => Kp.trans kr k
  have badOf : badR (l.getD 0 dB).size (l.getD y dB) = true → ofB 4 l = false := fun hb => by
    unfold ofB
    rw [List.any_eq_true.2 ⟨_, getD_mem hlt, hb⟩]; simp
  have good : badR (l.getD 0 dB).size (l.getD y dB) = false → (l.getD y dB).size = (l.getD 0 dB).size → ∀ w' : World, Kp wr w' → S45xL1 (ptrV bf) (.int .i64 y) (.string (l.getD y dB)) (.int .i64 (l.getD y dB).size) (fun t86 w_1 => (∃ (y' : Nat) (vs : Value), y' ≤ l.length ∧ t86 = .int .i64 y' ∧ FloorAt bm w_1 bf bm vs (cellsP l y') ∧ (∀ j, j < y' → badR (l.getD 0 dB).size (l.getD j dB) = false) ∧ Kp w w_1) ∧ l.length - (intOf t86).toNat < l.length - (intOf (.int .i64 y)).toNat) w' := fun hb hsz w' k' => by
    refine r45_1 (base := bm) hlt (by omega) (by omega) hsz (by have := k'.size; have := kr.size; omega) (Fr'.kp k') fun vs' w'' F'' c'' => ?_
    refine ⟨⟨y + 1, vs', by omega, by go_num, F'', fun j hj => ?_, Kp.of_chg (k2r k') c'' fun i hi => by omega⟩, by simp only [intOf]; omega⟩
    by_cases e : j = y
    · rw [e]; exact hb
    · exact hall j (by omega)
  by_cases hn : ((l.getD y dB).size : Int) = ((l.getD 0 dB).size : Int)
  · have hn' : (l.getD y dB).size = (l.getD 0 dB).size := by omega
    rw [decide_eq_true hn]
    simp only [Bool.not_true, r_gdFF]
    refine r_use (by kernel_rfl) (trim_calls (l.getD y dB) wr hss) rfl ?_
    rintro _ w3 ⟨k3, r, rfl, hri⟩
    refine ⟨_, rfl, ?_⟩
    refine r_neS ?_
    rw [empty_iff hri, r_pickF]
    cases hp : plainB (l.getD y dB) with
    | true =>
      rw [Bool.not_true, r_condF, r_lnS]
      exact good (by unfold badR; rw [decide_eq_true hn', hp]; rfl) hn' w3 k3
    | false =>
      rw [Bool.not_false, r_condT]
      exact ⟨k2r k3, .inr ⟨by unfold flB; rw [badOf (by unfold badR; rw [hp]; simp)]; rfl, _, rfl⟩⟩
  · have hn' : ¬ (l.getD y dB).size = (l.getD 0 dB).size := by omega
    rw [decide_eq_false hn]
    simp only [Bool.not_false, r_gdTF, r_gdU, r_pickT, r_condT]
    exact ⟨kr, .inr ⟨by unfold flB; rw [badOf (by unfold badR; rw [decide_eq_false hn']; simp)]; rfl, _, rfl⟩⟩

end Go.Proofs.YtbekeccfjmoonaaDoor

/- Lifted texts, printed by program (gen.py): what each function's code asks. The ties are by the kernel. -/
namespace Go.Proofs.YtbekeccfjmoonaaDoor
open Go.Lf Go.RowKit

def S4L2 (t7 t8 t9_2 t10 t11 t41 : Value) (k_2 : Value → World → Prop) (w : World) : Prop :=
  Loop2 (.int .i64 0) (.int .i64 0) w fun _ t12 t13 w next_3 =>
    ln1 t41 fun t76 =>
    binQ Tryd.prog w .lss 3 false t13 t76 fun t77 =>
    condW t77 (
      Drew w fun w =>
      iaS 2 t41 t13 fun t82 =>
      fa1 t82 0 fun t83 =>
      ld1 w t83 fun t84 =>
      binQ Tryd.prog w .sub 3 false t84 t11 fun t86 =>
      iaS 2 t41 t13 fun t89 =>
      fa1 t89 1 fun t90 =>
      ld1 w t90 fun t91 =>
      binQ Tryd.prog w .sub 3 false t91 t10 fun t93 =>
      binQ Tryd.prog w .eql 3 true t86 (.int .i64 0) fun t95 =>
      gd t95 true (fun k => k t93 w) w fun t97 w =>
      gd t95 true (fun k => binQ Tryd.prog w .eql 3 true t97 (.int .i64 0) fun v => k v w) w fun t98 w =>
      pickQ t95 t98 (.bool false) fun t99 =>
      Join (fun (k_4 : Value → World → Prop) =>
        condW t99 (
          k_4 (.int .i64 1) w
        ) (
          k_4 t12 w
        )
      ) fun t12_3 w =>
      binQ Tryd.prog w .mul 3 false t86 t86 fun t102_2 =>
      binQ Tryd.prog w .mul 3 false t93 t93 fun t105_2 =>
      binQ Tryd.prog w .add 3 false t102_2 t105_2 fun t106_2 =>
      binQ Tryd.prog w .eql 3 true t106_2 (.int .i64 1) fun t107_2 =>
      Join (fun (k_5 : Value → World → Prop) =>
        condW t107_2 (
          k_5 (.int .i64 (-1)) w
        ) (
          k_5 t12_3 w
        )
      ) fun t12_4 w =>
      binQ Tryd.prog w .add 3 true t13 (.int .i64 1) fun t79_4 =>
      next_3 t12_4 t79_4 w
    ) (
      fa1 t7 0 fun t108 =>
      ld1 w t108 fun t109 =>
      bsW Tryd.prog 31 1 [(0, t12)] w fun t111 w =>
      semW Tryd.prog (apS [31, 31] 31 [t109, t111]) w fun t112 w =>
      fa1 t7 0 fun t113 =>
      stW Tryd.prog 31 t113 t112 w fun w =>
      binQ Tryd.prog w .add 3 false t11 t10 fun t116 =>
      binQ Tryd.prog w .rem 3 true t116 (.int .i64 2) fun t117 =>
      binQ Tryd.prog w .mul 3 true (.int .i64 2) t117 fun t118 =>
      binQ Tryd.prog w .sub 3 true (.int .i64 1) t118 fun t119 =>
      fa1 t8 0 fun t120 =>
      ld1 w t120 fun t121 =>
      bsW Tryd.prog 31 1 [(0, t119)] w fun t123 w =>
      semW Tryd.prog (apS [31, 31] 31 [t121, t123]) w fun t124 w =>
      fa1 t8 0 fun t125 =>
      stW Tryd.prog 31 t125 t124 w fun w =>
      binQ Tryd.prog w .add 3 false t9_2 t119 fun t128 =>
      k_2 t128 w
    )

def S4L1 (t0 t7 t8 t9 t10 t41 : Value) (next : Value → Value → World → Prop) (w : World) : Prop :=
  Loop2 t9 (.int .i64 0) w fun _ t9_2 t11 w next_2 =>
    iaS 1 t0 t10 fun t61 =>
    ld1 w t61 fun t62 =>
    lnS t62 fun t63 =>
    binQ Tryd.prog w .lss 3 false t11 t63 fun t64 =>
    condW t64 (
      Join (fun (k_2 : Value → World → Prop) =>
        iaS 1 t0 t10 fun t69 =>
        ld1 w t69 fun t70 =>
        semW Tryd.prog (ixS 9 t70 t11) w fun t72 w =>
        binQ Tryd.prog w .neq 5 true t72 (.int .u8 35) fun t73 =>
        condW t73 (
          k_2 t9_2 w
        ) (
          S4L2 t7 t8 t9_2 t10 t11 t41 k_2 w
        )
      ) fun t9_3 w =>
      binQ Tryd.prog w .add 3 true t11 (.int .i64 1) fun t66_2 =>
      next_2 t9_3 t66_2 w
    ) (
      binQ Tryd.prog w .add 3 true t10 (.int .i64 1) fun t57 =>
      next t9_2 t57 w
    )

def S4L0 (t0 t7 t8 t41 : Value) (R : Ending → World → Prop) (w : World) : Prop :=
  Loop2 (.int .i64 0) (.int .i64 0) w fun _ t9 t10 w next =>
    ln1 t0 fun t54 =>
    binQ Tryd.prog w .lss 3 false t10 t54 fun t55 =>
    condW t55 (
      S4L1 t0 t7 t8 t9 t10 t41 next w
    ) (
      Drew w fun w =>
      ldN 2 w t7 fun t132 =>
      callW Tryd.prog (.func (.func 8) #[] #[]) [] w <| keepB w fun t131 w =>
      callW Tryd.prog (.func (.func 15) #[] #[]) [t0, t131, t132] w fun t133 w =>
      exQ t133 0 fun t134 =>
      exQ t133 1 fun t135 =>
      Drew w fun w =>
      ldN 2 w t8 fun t139 =>
      callW Tryd.prog (.func (.func 8) #[] #[]) [] w <| keepB w fun t138 w =>
      callW Tryd.prog (.func (.func 16) #[] #[]) [t0, t138, t139] w fun t140 w =>
      exQ t140 0 fun t141 =>
      exQ t140 1 fun t142 =>
      binQ Tryd.prog w .eql 25 true t135 (.int .i64 0) fun t144 =>
      gd t144 true (fun k => k t134 w) w fun t146 w =>
      pickQ t144 t146 (.bool false) fun t147 =>
      gd t147 true (fun k => k t142 w) w fun t149 w =>
      gd t147 true (fun k => binQ Tryd.prog w .eql 25 true t149 (.int .i64 0) fun v => k v w) w fun t150 w =>
      pickQ t147 t150 (.bool false) fun t151 =>
      gd t151 true (fun k => k t141 w) w fun t153 w =>
      gd t151 true (fun k => k t9 w) w fun t154 w =>
      gd t151 true (fun k => binQ Tryd.prog w .rem 3 true t154 (.int .i64 2) fun v => k v w) w fun t155 w =>
      gd t151 true (fun k => binQ Tryd.prog w .neq 3 true t155 (.int .i64 0) fun v => k v w) w fun t156 w =>
      gd t151 true (fun k => binQ Tryd.prog w .eql 4 false t153 t156 fun v => k v w) w fun t157 w =>
      pickQ t151 t157 (.bool false) fun t158 =>
      gd t158 true (fun k => callW Tryd.prog (.func (.func 6) #[] #[]) [] w k) w fun t160 w =>
      pickQ t158 t160 (.bool false) fun t161 =>
      R (.returned t161) w
    )

def S4 (t0 : Value) (w : World) (R : Ending → World → Prop) : Prop :=
  callW Tryd.prog (.func (.func 5) #[] #[]) [t0] w fun t22 w =>
  unQ .not t22 fun t23 =>
  condW t23 (
    callW Tryd.prog (.func (.func 6) #[] #[]) [] w fun t24 w =>
    R (.returned t24) w
  ) (
    callW Tryd.prog (.func (.func 8) #[] #[]) [] w fun t27 w =>
    callW Tryd.prog (.func (.func 13) #[] #[]) [t0, t27] w fun t28 w =>
    exQ t28 0 fun t29 =>
    exQ t28 1 fun t30 =>
    binQ Tryd.prog w .neq 25 true t30 (.int .i64 0) fun t32 =>
    condW t32 (
      binQ Tryd.prog w .eql 25 true t30 (.int .i64 2) fun t34 =>
      gd t34 true (fun k => callW Tryd.prog (.func (.func 6) #[] #[]) [] w k) w fun t36 w =>
      pickQ t34 t36 (.bool false) fun t37 =>
      R (.returned t37) w
    ) (
      callW Tryd.prog (.func (.func 14) #[] #[]) [t0] w fun t40 w =>
      exQ t40 0 fun t41 =>
      exQ t40 1 fun t42 =>
      binQ Tryd.prog w .neq 25 true t42 (.int .i64 0) fun t44 =>
      condW t44 (
        binQ Tryd.prog w .eql 25 true t42 (.int .i64 10) fun t46 =>
        gd t46 true (fun k => callW Tryd.prog (.func (.func 6) #[] #[]) [] w k) w fun t48 w =>
        pickQ t46 t48 (.bool false) fun t49 =>
        R (.returned t49) w
      ) (
        bdQ Tryd.prog 33 [(1, (.int .i64 1))] fun t50 =>
        bdQ Tryd.prog 33 [(1, (.int .i64 2))] fun t51 =>
        boxW 33 (.agg #[(.slice none 0 0), (.int .i64 0)]) w fun t7 w =>
        boxW 33 (.agg #[(.slice none 0 0), (.int .i64 0)]) w fun t8 w =>
        stW Tryd.prog 33 t7 t50 w fun w =>
        stW Tryd.prog 33 t8 t51 w fun w =>
        S4L0 t0 t7 t8 t41 R w
      )
    )
  )

def A4 : Ann where
  live := fun
    | 0 => [9, 10]
    | 2 => [9, 11]
    | 4 => [12, 13]
    | _ => []
  wr := fun
    | 0 => fun i => (Nat.ble 9 i && Nat.ble i 16) || (Nat.ble 52 i && Nat.ble i 128)
    | 2 => fun i => Nat.beq i 9 || (Nat.ble 11 i && Nat.ble i 16) || (Nat.ble 58 i && Nat.ble i 128)
    | 4 => fun i => (Nat.ble 12 i && Nat.ble i 15) || (Nat.ble 74 i && Nat.ble i 107)
    | _ => fun _ => false
  sched := fun
    | 22 => (.take 0 (.take 1 (.take 2 (.take 3 (.take 4 (.take 5 (.take 6 (.take 7 (.take 8 (.take 9 (.take 10 (.take 11 (.take 12 (.take 13 (.take 14 (.take 15 .done))))))))))))))))
    | 31 => (.take 0 (.take 2 (.eff 1 (.bar 3 (.take 4 (.take 5 (.take 6 (.take 7 (.take 8 .done)))))))))
    | 32 => (.take 0 (.take 2 (.eff 1 (.bar 3 (.take 4 (.take 5 (.take 6 (.take 7 (.take 8 .done)))))))))
    | _ => .done

set_option maxRecDepth 100000 in
theorem ok4 : (codeOk Tryd.f4.ntmps A4 (Tryd.f4.body.getD .skip) 0 && Nat.ble 1 Tryd.f4.ntmps) = true := by kernel_rfl
set_option maxRecDepth 100000 in
theorem lift4 {t0 : Value} {w : World} {R : Ending → World → Prop} (h : S4 t0 w R) : Calls Tryd.prog 4 #[t0] w R :=
  calls_of_cw (fn := Tryd.f4) (c := Tryd.f4.body.getD .skip) A4 mixes Tryd.func4 (by kernel_rfl) ok4
    ((by kernel_rfl : (S4 t0 w R) = cw Tryd.prog A4 (Tryd.f4.body.getD .skip) 0 (bodyQ Tryd.prog Tryd.f4 R) (frOf #[t0]) w).mp h)

def S13 (t0 t1 : Value) (w : World) (R : Ending → World → Prop) : Prop :=
  callW Tryd.prog (.func (.func 17) #[] #[]) [t0, t1] w fun t11 w =>
  exQ t11 0 fun t12 =>
  exQ t11 1 fun t13 =>
  binQ Tryd.prog w .neq 25 true t13 (.int .i64 0) fun t15 =>
  condW t15 (
    R (.returned (.tuple #[(.slice none 0 0), t13])) w
  ) (
    ncQ t12 fun t18 =>
    fa1 t18 2 fun t19 =>
    ld1 w t19 fun t20 =>
    R (.returned (.tuple #[t20, (.int .i64 0)])) w
  )

def A13 : Ann where
  live := fun _ => []
  wr := fun _ _ => false
  sched := fun _ => .done

set_option maxRecDepth 100000 in
theorem ok13 : (codeOk Tryd.f13.ntmps A13 (Tryd.f13.body.getD .skip) 0 && Nat.ble 2 Tryd.f13.ntmps) = true := by kernel_rfl
set_option maxRecDepth 100000 in
theorem lift13 {t0 t1 : Value} {w : World} {R : Ending → World → Prop} (h : S13 t0 t1 w R) : Calls Tryd.prog 13 #[t0, t1] w R :=
  calls_of_cw (fn := Tryd.f13) (c := Tryd.f13.body.getD .skip) A13 mixes Tryd.func13 (by kernel_rfl) ok13
    ((by kernel_rfl : (S13 t0 t1 w R) = cw Tryd.prog A13 (Tryd.f13.body.getD .skip) 0 (bodyQ Tryd.prog Tryd.f13 R) (frOf #[t0, t1]) w).mp h)

def S15 (t0 t1 t2 : Value) (w : World) (R : Ending → World → Prop) : Prop :=
  boxW 33 t2 w fun t5 w =>
  callW Tryd.prog (.func (.func 17) #[] #[]) [t0, t1] w fun t16 w =>
  exQ t16 0 fun t17 =>
  exQ t16 1 fun t18 =>
  binQ Tryd.prog w .neq 25 true t18 (.int .i64 0) fun t20 =>
  condW t20 (
    R (.returned (.tuple #[(.bool false), t18])) w
  ) (
    ldN 2 w t5 fun t24 =>
    callW Tryd.prog (.func (.func 41) #[] #[]) [t17, t24] w fun t25 w =>
    exQ t25 0 fun t26 =>
    exQ t25 1 fun t27 =>
    exQ t25 2 fun t28 =>
    gd t28 true (fun k => k t27 w) w fun t31 w =>
    gd t28 true (fun k => binQ Tryd.prog w .gtr 3 true t31 (.int .i64 0) fun v => k v w) w fun t32 w =>
    pickQ t28 t32 (.bool false) fun t33 =>
    gd t33 true (fun k => k t26 w) w fun t35 w =>
    gd t33 true (fun k => callW Tryd.prog (.func (.func 42) #[] #[]) [t35, (.func (.func 43) #[] #[])] w k) w fun t36 w =>
    gd t33 true (fun k => unQ .not t36 fun v => k v w) w fun t37 w =>
    pickQ t33 t37 (.bool false) fun t38 =>
    R (.returned (.tuple #[t38, (.int .i64 0)])) w
  )

def A15 : Ann where
  live := fun _ => []
  wr := fun _ _ => false
  sched := fun _ => .done

set_option maxRecDepth 100000 in
theorem ok15 : (codeOk Tryd.f15.ntmps A15 (Tryd.f15.body.getD .skip) 0 && Nat.ble 3 Tryd.f15.ntmps) = true := by kernel_rfl
set_option maxRecDepth 100000 in
theorem lift15 {t0 t1 t2 : Value} {w : World} {R : Ending → World → Prop} (h : S15 t0 t1 t2 w R) : Calls Tryd.prog 15 #[t0, t1, t2] w R :=
  calls_of_cw (fn := Tryd.f15) (c := Tryd.f15.body.getD .skip) A15 mixes Tryd.func15 (by kernel_rfl) ok15
    ((by kernel_rfl : (S15 t0 t1 t2 w R) = cw Tryd.prog A15 (Tryd.f15.body.getD .skip) 0 (bodyQ Tryd.prog Tryd.f15 R) (frOf #[t0, t1, t2]) w).mp h)

def S16 (t0 t1 t2 : Value) (w : World) (R : Ending → World → Prop) : Prop :=
  boxW 33 t2 w fun t5 w =>
  callW Tryd.prog (.func (.func 17) #[] #[]) [t0, t1] w fun t16 w =>
  exQ t16 0 fun t17 =>
  exQ t16 1 fun t18 =>
  binQ Tryd.prog w .neq 25 true t18 (.int .i64 0) fun t20 =>
  condW t20 (
    R (.returned (.tuple #[(.bool false), t18])) w
  ) (
    ldN 2 w t5 fun t24 =>
    callW Tryd.prog (.func (.func 41) #[] #[]) [t17, t24] w fun t25 w =>
    exQ t25 0 fun t26 =>
    exQ t25 1 fun t27 =>
    exQ t25 2 fun t28 =>
    gd t28 true (fun k => k t27 w) w fun t31 w =>
    gd t28 true (fun k => fa1 t5 1 fun v => k v w) w fun t32 w =>
    gd t28 true (fun k => ld1 w t32 fun v => k v w) w fun t33 w =>
    gd t28 true (fun k => binQ Tryd.prog w .rem 3 false t31 t33 fun v => k v w) w fun t34 w =>
    gd t28 true (fun k => binQ Tryd.prog w .neq 3 true t34 (.int .i64 0) fun v => k v w) w fun t35 w =>
    pickQ t28 t35 (.bool false) fun t36 =>
    gd t36 true (fun k => k t26 w) w fun t38 w =>
    gd t36 true (fun k => k (.func (.func 44) #[] #[t5]) w) w fun t39 w =>
    gd t36 true (fun k => callW Tryd.prog (.func (.func 42) #[] #[]) [t38, t39] w k) w fun t40 w =>
    gd t36 true (fun k => unQ .not t40 fun v => k v w) w fun t41 w =>
    pickQ t36 t41 (.bool false) fun t42 =>
    R (.returned (.tuple #[t42, (.int .i64 0)])) w
  )

def A16 : Ann where
  live := fun _ => []
  wr := fun _ _ => false
  sched := fun _ => .done

set_option maxRecDepth 100000 in
theorem ok16 : (codeOk Tryd.f16.ntmps A16 (Tryd.f16.body.getD .skip) 0 && Nat.ble 3 Tryd.f16.ntmps) = true := by kernel_rfl
set_option maxRecDepth 100000 in
theorem lift16 {t0 t1 t2 : Value} {w : World} {R : Ending → World → Prop} (h : S16 t0 t1 t2 w R) : Calls Tryd.prog 16 #[t0, t1, t2] w R :=
  calls_of_cw (fn := Tryd.f16) (c := Tryd.f16.body.getD .skip) A16 mixes Tryd.func16 (by kernel_rfl) ok16
    ((by kernel_rfl : (S16 t0 t1 t2 w R) = cw Tryd.prog A16 (Tryd.f16.body.getD .skip) 0 (bodyQ Tryd.prog Tryd.f16 R) (frOf #[t0, t1, t2]) w).mp h)

def S19 (t0 t1 : Value) (w : World) (R : Ending → World → Prop) : Prop :=
  callW Tryd.prog (.func (.func 51) #[] #[]) [t0, t1] w fun t7 w =>
  binQ Tryd.prog w .geq 3 true t7 (.int .i64 0) fun t8 =>
  R (.returned t8) w

def A19 : Ann where
  live := fun _ => []
  wr := fun _ _ => false
  sched := fun _ => .done

set_option maxRecDepth 100000 in
theorem ok19 : (codeOk Tryd.f19.ntmps A19 (Tryd.f19.body.getD .skip) 0 && Nat.ble 2 Tryd.f19.ntmps) = true := by kernel_rfl
set_option maxRecDepth 100000 in
theorem lift19 {t0 t1 : Value} {w : World} {R : Ending → World → Prop} (h : S19 t0 t1 w R) : Calls Tryd.prog 19 #[t0, t1] w R :=
  calls_of_cw (fn := Tryd.f19) (c := Tryd.f19.body.getD .skip) A19 mixes Tryd.func19 (by kernel_rfl) ok19
    ((by kernel_rfl : (S19 t0 t1 w R) = cw Tryd.prog A19 (Tryd.f19.body.getD .skip) 0 (bodyQ Tryd.prog Tryd.f19 R) (frOf #[t0, t1]) w).mp h)

def S20L0 (t0 t7 : Value) (R : Ending → World → Prop) (w : World) : Prop :=
  Loop2 (.int .i64 0) (.int .i64 0) w fun _ t3 t8 w next =>
    binQ Tryd.prog w .lss 3 false t8 t7 fun t9 =>
    condW t9 (
      iaS 1 t0 t8 fun t10 =>
      ld1 w t10 fun t11 =>
      binQ Tryd.prog w .shl 3 true (.int .i64 1) t11 fun t14 =>
      binQ Tryd.prog w .or 3 false t3 t14 fun t15 =>
      binQ Tryd.prog w .add 3 true t8 (.int .i64 1) fun t16 =>
      next t15 t16 w
    ) (
      R (.returned t3) w
    )



def S20 (t0 : Value) (w : World) (R : Ending → World → Prop) : Prop :=
  ln1 t0 fun t7 =>
  S20L0 t0 t7 R w

def A20 : Ann where
  live := fun
    | 0 => [3, 8]
    | _ => []
  wr := fun
    | 0 => fun i => Nat.beq i 3 || Nat.beq i 5 || (Nat.ble 8 i && Nat.ble i 16)
    | _ => fun _ => false
  sched := fun _ => .done

set_option maxRecDepth 100000 in
theorem ok20 : (codeOk Tryd.f20.ntmps A20 (Tryd.f20.body.getD .skip) 0 && Nat.ble 1 Tryd.f20.ntmps) = true := by kernel_rfl
set_option maxRecDepth 100000 in
theorem lift20 {t0 : Value} {w : World} {R : Ending → World → Prop} (h : S20 t0 w R) : Calls Tryd.prog 20 #[t0] w R :=
  calls_of_cw (fn := Tryd.f20) (c := Tryd.f20.body.getD .skip) A20 mixes Tryd.func20 (by kernel_rfl) ok20
    ((by kernel_rfl : (S20 t0 w R) = cw Tryd.prog A20 (Tryd.f20.body.getD .skip) 0 (bodyQ Tryd.prog Tryd.f20 R) (frOf #[t0]) w).mp h)

def S41L1 (t3 t4 t48 t51 t53 : Value) (next : Value → Value → World → Prop) (w : World) : Prop :=
  Loop2 (.int .i64 0) (.int .i64 0) w fun _ t10 t54 w next_2 =>
    binQ Tryd.prog w .lss 3 false t54 t53 fun t55 =>
    condW t55 (
      iaS 1 t51 t54 fun t56 =>
      ld1 w t56 fun t57 =>
      fa1 t3 0 fun t59 =>
      ld1 w t59 fun t60 =>
      iaS 1 t60 t57 fun t62 =>
      ld1 w t62 fun t63 =>
      binQ Tryd.prog w .add 3 false t10 t63 fun t64 =>
      binQ Tryd.prog w .add 3 true t54 (.int .i64 1) fun t65 =>
      next_2 t64 t65 w
    ) (
      bsW Tryd.prog 31 1 [(0, t10)] w fun t68 w =>
      semW Tryd.prog (apS [31, 31] 31 [t4, t68]) w fun t69 w =>
      binQ Tryd.prog w .add 3 true t48 (.int .i64 1) fun t70 =>
      next t69 t70 w
    )

def S41L2 (t4 t72 t73 : Value) (R : Ending → World → Prop) (w : World) : Prop :=
  Loop2 (.int .i64 0) (.int .i64 0) w fun _ t5 t74 w next_3 =>
    binQ Tryd.prog w .lss 3 false t74 t73 fun t75 =>
    condW t75 (
      iaS 1 t72 t74 fun t76 =>
      ld1 w t76 fun t77 =>
      binQ Tryd.prog w .add 3 false t5 t77 fun t80 =>
      binQ Tryd.prog w .add 3 true t74 (.int .i64 1) fun t81 =>
      next_3 t80 t81 w
    ) (
      R (.returned (.tuple #[t4, t5, (.bool true)])) w
    )

def S41L0 (t3 t46 t47 : Value) (R : Ending → World → Prop) (w : World) : Prop :=
  Loop2 (.slice none 0 0) (.int .i64 0) w fun _ t4 t48 w next =>
    binQ Tryd.prog w .lss 3 false t48 t47 fun t49 =>
    condW t49 (
      iaS 1 t46 t48 fun t50 =>
      ld1 w t50 fun t51 =>
      ln1 t51 fun t53 =>
      S41L1 t3 t4 t48 t51 t53 next w
    ) (
      fa1 t3 0 fun t71 =>
      ld1 w t71 fun t72 =>
      ln1 t72 fun t73 =>
      S41L2 t4 t72 t73 R w
    )

def S41 (t0 t1 : Value) (w : World) (R : Ending → World → Prop) : Prop :=
  boxW 33 t1 w fun t3 w =>
  Drew w fun w =>
  fa1 t3 0 fun t15 =>
  ld1 w t15 fun t16 =>
  ln1 t16 fun t17 =>
  ncQ t0 fun t19 =>
  fa1 t19 0 fun t20 =>
  ld1 w t20 fun t21 =>
  ncQ t21 fun t22 =>
  fa1 t22 0 fun t23 =>
  ld1 w t23 fun t24 =>
  ln1 t24 fun t25 =>
  binQ Tryd.prog w .neq 3 false t17 t25 fun t26 =>
  gdQ t26 false (fun k => fa1 t3 1 k) fun t28 =>
  gdQ t26 false (fun k => ld1 w t28 k) fun t29 =>
  gdQ t26 false (fun k => binQ Tryd.prog w .lss 3 true t29 (.int .i64 1) k) fun t30 =>
  pickQ t26 (.bool true) t30 fun t31 =>
  gdQ t31 false (fun k => fa1 t3 1 k) fun t33 =>
  gdQ t31 false (fun k => ld1 w t33 k) fun t34 =>
  gdQ t31 false (fun k => binQ Tryd.prog w .gtr 3 true t34 (.int .i64 1099511627776) k) fun t35 =>
  pickQ t31 (.bool true) t35 fun t36 =>
  gdQ t36 false (fun k => fa1 t3 0 k) fun t38 =>
  gdQ t36 false (fun k => ld1 w t38 k) fun t39 =>
  gdQ t36 false (fun k => k (.func (.func 70) #[] #[])) fun t40 =>
  gd t36 false (fun k => callW Tryd.prog (.func (.func 42) #[] #[]) [t39, t40] w k) w <| keepB w fun t41 w =>
  pickQ t36 (.bool true) t41 fun t42 =>
  condW t42 (
    R (.returned (.tuple #[(.slice none 0 0), (.int .i64 0), (.bool false)])) w
  ) (
    ncQ t0 fun t44 =>
    fa1 t44 3 fun t45 =>
    ld1 w t45 fun t46 =>
    ln1 t46 fun t47 =>
    S41L0 t3 t46 t47 R w
  )

def A41 : Ann where
  live := fun
    | 0 => [4, 48]
    | 2 => [10, 54]
    | 4 => [5, 74]
    | _ => []
  wr := fun
    | 0 => fun i => Nat.beq i 4 || (Nat.ble 9 i && Nat.ble i 10) || Nat.beq i 12 || (Nat.ble 48 i && Nat.ble i 70)
    | 2 => fun i => Nat.beq i 10 || Nat.beq i 12 || (Nat.ble 54 i && Nat.ble i 65)
    | 4 => fun i => Nat.beq i 5 || Nat.beq i 14 || (Nat.ble 74 i && Nat.ble i 81)
    | _ => fun _ => false
  sched := fun
    | 2 => (.take 0 (.take 1 (.take 2 (.take 3 (.take 4 (.take 5 (.take 6 (.take 7 (.take 8 (.take 9 (.take 10 (.take 11 (.take 12 (.take 13 (.take 14 (.take 15 (.take 16 (.take 17 (.take 18 (.take 19 (.take 20 (.take 21 (.take 22 (.take 23 (.take 24 (.take 25 (.eff 26 (.take 27 .done))))))))))))))))))))))))))))
    | _ => .done

set_option maxRecDepth 100000 in
theorem ok41 : (codeOk Tryd.f41.ntmps A41 (Tryd.f41.body.getD .skip) 0 && Nat.ble 2 Tryd.f41.ntmps) = true := by kernel_rfl
set_option maxRecDepth 100000 in
theorem lift41 {t0 t1 : Value} {w : World} {R : Ending → World → Prop} (h : S41 t0 t1 w R) : Calls Tryd.prog 41 #[t0, t1] w R :=
  calls_of_cw (fn := Tryd.f41) (c := Tryd.f41.body.getD .skip) A41 mixes Tryd.func41 (by kernel_rfl) ok41
    ((by kernel_rfl : (S41 t0 t1 w R) = cw Tryd.prog A41 (Tryd.f41.body.getD .skip) 0 (bodyQ Tryd.prog Tryd.f41 R) (frOf #[t0, t1]) w).mp h)

def S42 (t0 t1 : Value) (w : World) (R : Ending → World → Prop) : Prop :=
  callW Tryd.prog (.func (.func 61) #[] #[]) [t0, t1] w fun t7 w =>
  binQ Tryd.prog w .geq 3 true t7 (.int .i64 0) fun t8 =>
  R (.returned t8) w

def A42 : Ann where
  live := fun _ => []
  wr := fun _ _ => false
  sched := fun _ => .done

set_option maxRecDepth 100000 in
theorem ok42 : (codeOk Tryd.f42.ntmps A42 (Tryd.f42.body.getD .skip) 0 && Nat.ble 2 Tryd.f42.ntmps) = true := by kernel_rfl
set_option maxRecDepth 100000 in
theorem lift42 {t0 t1 : Value} {w : World} {R : Ending → World → Prop} (h : S42 t0 t1 w R) : Calls Tryd.prog 42 #[t0, t1] w R :=
  calls_of_cw (fn := Tryd.f42) (c := Tryd.f42.body.getD .skip) A42 mixes Tryd.func42 (by kernel_rfl) ok42
    ((by kernel_rfl : (S42 t0 t1 w R) = cw Tryd.prog A42 (Tryd.f42.body.getD .skip) 0 (bodyQ Tryd.prog Tryd.f42 R) (frOf #[t0, t1]) w).mp h)

def S43 (t0 : Value) (w : World) (R : Ending → World → Prop) : Prop :=
  binQ Tryd.prog w .gtr 3 true t0 (.int .i64 0) fun t4 =>
  R (.returned t4) w

def A43 : Ann where
  live := fun _ => []
  wr := fun _ _ => false
  sched := fun _ => .done

set_option maxRecDepth 100000 in
theorem ok43 : (codeOk Tryd.f43.ntmps A43 (Tryd.f43.body.getD .skip) 0 && Nat.ble 1 Tryd.f43.ntmps) = true := by kernel_rfl
set_option maxRecDepth 100000 in
theorem lift43 {t0 : Value} {w : World} {R : Ending → World → Prop} (h : S43 t0 w R) : Calls Tryd.prog 43 #[t0] w R :=
  calls_of_cw (fn := Tryd.f43) (c := Tryd.f43.body.getD .skip) A43 mixes Tryd.func43 (by kernel_rfl) ok43
    ((by kernel_rfl : (S43 t0 w R) = cw Tryd.prog A43 (Tryd.f43.body.getD .skip) 0 (bodyQ Tryd.prog Tryd.f43 R) (frOf #[t0]) w).mp h)

def S44 (t0 t1 : Value) (w : World) (R : Ending → World → Prop) : Prop :=
  fa1 t1 1 fun t5 =>
  ld1 w t5 fun t6 =>
  binQ Tryd.prog w .rem 3 false t0 t6 fun t7 =>
  binQ Tryd.prog w .neq 3 true t7 (.int .i64 0) fun t8 =>
  R (.returned t8) w

def A44 : Ann where
  live := fun _ => []
  wr := fun _ _ => false
  sched := fun _ => .done

set_option maxRecDepth 100000 in
theorem ok44 : (codeOk Tryd.f44.ntmps A44 (Tryd.f44.body.getD .skip) 0 && Nat.ble 2 Tryd.f44.ntmps) = true := by kernel_rfl
set_option maxRecDepth 100000 in
theorem lift44 {t0 t1 : Value} {w : World} {R : Ending → World → Prop} (h : S44 t0 t1 w R) : Calls Tryd.prog 44 #[t0, t1] w R :=
  calls_of_cw (fn := Tryd.f44) (c := Tryd.f44.body.getD .skip) A44 mixes Tryd.func44 (by kernel_rfl) ok44
    ((by kernel_rfl : (S44 t0 t1 w R) = cw Tryd.prog A44 (Tryd.f44.body.getD .skip) 0 (bodyQ Tryd.prog Tryd.f44 R) (frOf #[t0, t1]) w).mp h)

def S46L0 (t0 t21 : Value) (R : Ending → World → Prop) (w : World) : Prop :=
  Loop1 (.int .i64 0) w fun _ t22 w next =>
    binQ Tryd.prog w .lss 3 false t22 t21 fun t23 =>
    condW t23 (
      iaS 2 t0 t22 fun t25 =>
      ldN 2 w t25 fun t26 =>
      boxW 43 (.agg #[(.int .i64 0), (.int .i64 0)]) w fun t4 w =>
      stW Tryd.prog 43 t4 t26 w fun w =>
      Drew w fun w =>
      fa1 t4 0 fun t27 =>
      ld1 w t27 fun t28 =>
      binQ Tryd.prog w .lss 3 true t28 (.int .i64 (-4)) fun t29 =>
      gdQ t29 false (fun k => fa1 t4 0 k) fun t31 =>
      gdQ t29 false (fun k => ld1 w t31 k) fun t32 =>
      gdQ t29 false (fun k => binQ Tryd.prog w .gtr 3 true t32 (.int .i64 4) k) fun t33 =>
      pickQ t29 (.bool true) t33 fun t34 =>
      gdQ t34 false (fun k => fa1 t4 1 k) fun t36 =>
      gdQ t34 false (fun k => ld1 w t36 k) fun t37 =>
      gdQ t34 false (fun k => binQ Tryd.prog w .lss 3 true t37 (.int .i64 0) k) fun t38 =>
      pickQ t34 (.bool true) t38 fun t39 =>
      gdQ t39 false (fun k => fa1 t4 1 k) fun t41 =>
      gdQ t39 false (fun k => ld1 w t41 k) fun t42 =>
      gdQ t39 false (fun k => binQ Tryd.prog w .gtr 3 true t42 (.int .i64 4) k) fun t43 =>
      pickQ t39 (.bool true) t43 fun t44 =>
      gdQ t44 false (fun k => k t22) fun t46 =>
      gdQ t44 false (fun k => binQ Tryd.prog w .gtr 3 true t46 (.int .i64 0) k) fun t47 =>
      gdQ t44 false (fun k => k t47) fun t48 =>
      gdQ t48 true (fun k => k t0) fun t49 =>
      gdQ t48 true (fun k => k t22) fun t50 =>
      gdQ t48 true (fun k => binQ Tryd.prog w .sub 3 true t50 (.int .i64 1) k) fun t51 =>
      gdQ t48 true (fun k => iaS 2 t49 t51 k) fun t52 =>
      gdQ t48 true (fun k => ldN 2 w t52 k) fun t53 =>
      gdQ t48 true (fun k => ldN 2 w t4 k) fun t54 =>
      gd t48 true (fun k => callW Tryd.prog (.func (.func 71) #[] #[]) [t53, t54] w k) w <| keepB w fun t55 w =>
      gdQ t48 true (fun k => binQ Tryd.prog w .geq 3 true t55 (.int .i64 0) k) fun t56 =>
      gdQ t44 false (fun k => pickQ t48 t56 (.bool false) k) fun t57 =>
      pickQ t44 (.bool true) t57 fun t58 =>
      condW t58 (
        R (.returned (.bool false)) w
      ) (
        binQ Tryd.prog w .add 3 true t22 (.int .i64 1) fun t59 =>
        next t59 w
      )
    ) (
      R (.returned (.bool true)) w
    )

def S46 (t0 : Value) (w : World) (R : Ending → World → Prop) : Prop :=
  ln1 t0 fun t6 =>
  binQ Tryd.prog w .lss 3 true t6 (.int .i64 1) fun t7 =>
  gd t7 false (fun k => k t0 w) w fun t9 w =>
  gd t7 false (fun k => ln1 t9 fun v => k v w) w fun t10 w =>
  gd t7 false (fun k => binQ Tryd.prog w .gtr 3 true t10 (.int .i64 5) fun v => k v w) w fun t11 w =>
  pickQ t7 (.bool true) t11 fun t12 =>
  gd t12 false (fun k => k t0 w) w fun t14 w =>
  gd t12 false (fun k => iaS 2 t14 (.int .i64 0) fun v => k v w) w fun t15 w =>
  gd t12 false (fun k => ldN 2 w t15 fun v => k v w) w fun t16 w =>
  gd t12 false (fun k => bdQ Tryd.prog 43 [] fun v => k v w) w fun t17 w =>
  gd t12 false (fun k => binQ Tryd.prog w .neq 43 false t16 t17 fun v => k v w) w fun t18 w =>
  pickQ t12 (.bool true) t18 fun t19 =>
  condW t19 (
    R (.returned (.bool false)) w
  ) (
    ln1 t0 fun t21 =>
    S46L0 t0 t21 R w
  )

def A46 : Ann where
  live := fun
    | 0 => [22]
    | _ => []
  wr := fun
    | 0 => fun i => (Nat.ble 2 i && Nat.ble i 4) || (Nat.ble 22 i && Nat.ble i 59)
    | _ => fun _ => false
  sched := fun
    | 6 => (.take 0 (.take 1 (.take 2 (.take 3 (.take 4 (.take 5 (.take 6 (.take 7 (.take 8 (.take 9 (.take 10 (.take 11 (.take 12 (.take 13 (.take 14 (.take 15 (.take 16 (.take 17 (.take 18 (.take 19 (.take 20 (.take 21 (.take 22 (.take 23 (.take 24 (.take 25 (.take 26 (.take 27 (.eff 28 (.take 29 (.take 30 (.take 31 .done))))))))))))))))))))))))))))))))
    | _ => .done

set_option maxRecDepth 100000 in
theorem ok46 : (codeOk Tryd.f46.ntmps A46 (Tryd.f46.body.getD .skip) 0 && Nat.ble 1 Tryd.f46.ntmps) = true := by kernel_rfl
set_option maxRecDepth 100000 in
theorem lift46 {t0 : Value} {w : World} {R : Ending → World → Prop} (h : S46 t0 w R) : Calls Tryd.prog 46 #[t0] w R :=
  calls_of_cw (fn := Tryd.f46) (c := Tryd.f46.body.getD .skip) A46 mixes Tryd.func46 (by kernel_rfl) ok46
    ((by kernel_rfl : (S46 t0 w R) = cw Tryd.prog A46 (Tryd.f46.body.getD .skip) 0 (bodyQ Tryd.prog Tryd.f46 R) (frOf #[t0]) w).mp h)

def S47 (t0 t1 : Value) (w : World) (R : Ending → World → Prop) : Prop :=
  callW Tryd.prog (.func (.func 72) #[] #[]) [t0, t1] w fun t7 w =>
  binQ Tryd.prog w .geq 3 true t7 (.int .i64 0) fun t8 =>
  R (.returned t8) w

def A47 : Ann where
  live := fun _ => []
  wr := fun _ _ => false
  sched := fun _ => .done

set_option maxRecDepth 100000 in
theorem ok47 : (codeOk Tryd.f47.ntmps A47 (Tryd.f47.body.getD .skip) 0 && Nat.ble 2 Tryd.f47.ntmps) = true := by kernel_rfl
set_option maxRecDepth 100000 in
theorem lift47 {t0 t1 : Value} {w : World} {R : Ending → World → Prop} (h : S47 t0 t1 w R) : Calls Tryd.prog 47 #[t0, t1] w R :=
  calls_of_cw (fn := Tryd.f47) (c := Tryd.f47.body.getD .skip) A47 mixes Tryd.func47 (by kernel_rfl) ok47
    ((by kernel_rfl : (S47 t0 t1 w R) = cw Tryd.prog A47 (Tryd.f47.body.getD .skip) 0 (bodyQ Tryd.prog Tryd.f47 R) (frOf #[t0, t1]) w).mp h)

def S48 (t0 t1 : Value) (w : World) (R : Ending → World → Prop) : Prop :=
  ld1 w t1 fun t5 =>
  callW Tryd.prog (.func (.func 49) #[] #[]) [t0, t5] w fun t6 w =>
  R (.returned t6) w

def A48 : Ann where
  live := fun _ => []
  wr := fun _ _ => false
  sched := fun _ => .done

set_option maxRecDepth 100000 in
theorem ok48 : (codeOk Tryd.f48.ntmps A48 (Tryd.f48.body.getD .skip) 0 && Nat.ble 2 Tryd.f48.ntmps) = true := by kernel_rfl
set_option maxRecDepth 100000 in
theorem lift48 {t0 t1 : Value} {w : World} {R : Ending → World → Prop} (h : S48 t0 t1 w R) : Calls Tryd.prog 48 #[t0, t1] w R :=
  calls_of_cw (fn := Tryd.f48) (c := Tryd.f48.body.getD .skip) A48 mixes Tryd.func48 (by kernel_rfl) ok48
    ((by kernel_rfl : (S48 t0 t1 w R) = cw Tryd.prog A48 (Tryd.f48.body.getD .skip) 0 (bodyQ Tryd.prog Tryd.f48 R) (frOf #[t0, t1]) w).mp h)

def S49L0 (t0 t1 t12 : Value) (R : Ending → World → Prop) (w : World) : Prop :=
  Loop1 (.int .i64 0) w fun _ t13 w next =>
    binQ Tryd.prog w .lss 3 false t13 t12 fun t14 =>
    condW t14 (
      Drew w fun w =>
      iaS 2 t0 t13 fun t18 =>
      ldN 2 w t18 fun t19 =>
      iaS 2 t1 t13 fun t22 =>
      ldN 2 w t22 fun t23 =>
      binQ Tryd.prog w .neq 43 false t19 t23 fun t24 =>
      condW t24 (
        R (.returned (.bool false)) w
      ) (
        binQ Tryd.prog w .add 3 true t13 (.int .i64 1) fun t25 =>
        next t25 w
      )
    ) (
      R (.returned (.bool true)) w
    )

def S49 (t0 t1 : Value) (w : World) (R : Ending → World → Prop) : Prop :=
  ln1 t0 fun t7 =>
  ln1 t1 fun t9 =>
  binQ Tryd.prog w .neq 3 false t7 t9 fun t10 =>
  condW t10 (
    R (.returned (.bool false)) w
  ) (
    ln1 t0 fun t12 =>
    S49L0 t0 t1 t12 R w
  )

def A49 : Ann where
  live := fun
    | 0 => [13]
    | _ => []
  wr := fun
    | 0 => fun i => (Nat.ble 4 i && Nat.ble i 5) || (Nat.ble 13 i && Nat.ble i 25)
    | _ => fun _ => false
  sched := fun
    | 6 => (.take 0 (.take 1 (.take 2 (.take 3 (.take 4 (.take 5 (.take 6 (.take 7 (.take 8 .done)))))))))
    | _ => .done

set_option maxRecDepth 100000 in
theorem ok49 : (codeOk Tryd.f49.ntmps A49 (Tryd.f49.body.getD .skip) 0 && Nat.ble 2 Tryd.f49.ntmps) = true := by kernel_rfl
set_option maxRecDepth 100000 in
theorem lift49 {t0 t1 : Value} {w : World} {R : Ending → World → Prop} (h : S49 t0 t1 w R) : Calls Tryd.prog 49 #[t0, t1] w R :=
  calls_of_cw (fn := Tryd.f49) (c := Tryd.f49.body.getD .skip) A49 mixes Tryd.func49 (by kernel_rfl) ok49
    ((by kernel_rfl : (S49 t0 t1 w R) = cw Tryd.prog A49 (Tryd.f49.body.getD .skip) 0 (bodyQ Tryd.prog Tryd.f49 R) (frOf #[t0, t1]) w).mp h)

def S50L0 (t0 t1 t5 t14 : Value) (R : Ending → World → Prop) (w : World) : Prop :=
  Loop2 (.slice none 0 0) (.int .i64 0) w fun _ t8 t15 w next =>
    binQ Tryd.prog w .lss 3 false t15 t14 fun t16 =>
    condW t16 (
      iaS 2 t1 t15 fun t17 =>
      ldN 2 w t17 fun t18 =>
      boxW 43 (.agg #[(.int .i64 0), (.int .i64 0)]) w fun t10 w =>
      stW Tryd.prog 43 t10 t18 w fun w =>
      Drew w fun w =>
      ncQ t0 fun t21 =>
      fa1 t21 1 fun t22 =>
      ld1 w t22 fun t23 =>
      fa1 t5 0 fun t24 =>
      ld1 w t24 fun t25 =>
      fa1 t10 0 fun t26 =>
      ld1 w t26 fun t27 =>
      binQ Tryd.prog w .add 3 false t25 t27 fun t28 =>
      fa1 t5 1 fun t29 =>
      ld1 w t29 fun t30 =>
      fa1 t10 1 fun t31 =>
      ld1 w t31 fun t32 =>
      binQ Tryd.prog w .add 3 false t30 t32 fun t33 =>
      bdQ Tryd.prog 43 [(0, t28), (1, t33)] fun t34 =>
      genQ Tryd.prog w (lkS 53 t23 t34 true) fun t35 =>
      exQ t35 0 fun t36 =>
      exQ t35 1 fun t37 =>
      unQ .not t37 fun t39 =>
      condW t39 (
        R (.returned (.tuple #[(.slice none 0 0), (.bool false)])) w
      ) (
        bsW Tryd.prog 31 1 [(0, t36)] w fun t42 w =>
        semW Tryd.prog (apS [31, 31] 31 [t8, t42]) w fun t43 w =>
        binQ Tryd.prog w .add 3 true t15 (.int .i64 1) fun t44 =>
        next t43 t44 w
      )
    ) (
      R (.returned (.tuple #[t8, (.bool true)])) w
    )



def S50 (t0 t1 t2 : Value) (w : World) (R : Ending → World → Prop) : Prop :=
  boxW 43 t2 w fun t5 w =>
  ln1 t1 fun t14 =>
  S50L0 t0 t1 t5 t14 R w

def A50 : Ann where
  live := fun
    | 0 => [8, 15]
    | _ => []
  wr := fun
    | 0 => fun i => (Nat.ble 6 i && Nat.ble i 8) || (Nat.ble 10 i && Nat.ble i 12) || (Nat.ble 15 i && Nat.ble i 44)
    | _ => fun _ => false
  sched := fun
    | 5 => (.take 0 (.take 1 (.take 2 (.take 3 (.take 4 (.take 5 (.take 6 (.take 7 (.take 8 (.take 9 (.take 10 (.take 11 (.take 12 (.take 13 (.take 14 (.take 15 (.take 16 (.take 17 (.take 18 (.take 19 (.take 20 .done)))))))))))))))))))))
    | _ => .done

set_option maxRecDepth 100000 in
theorem ok50 : (codeOk Tryd.f50.ntmps A50 (Tryd.f50.body.getD .skip) 0 && Nat.ble 3 Tryd.f50.ntmps) = true := by kernel_rfl
set_option maxRecDepth 100000 in
theorem lift50 {t0 t1 t2 : Value} {w : World} {R : Ending → World → Prop} (h : S50 t0 t1 t2 w R) : Calls Tryd.prog 50 #[t0, t1, t2] w R :=
  calls_of_cw (fn := Tryd.f50) (c := Tryd.f50.body.getD .skip) A50 mixes Tryd.func50 (by kernel_rfl) ok50
    ((by kernel_rfl : (S50 t0 t1 t2 w R) = cw Tryd.prog A50 (Tryd.f50.body.getD .skip) 0 (bodyQ Tryd.prog Tryd.f50 R) (frOf #[t0, t1, t2]) w).mp h)

def S51L0 (t0 t1 t7 : Value) (R : Ending → World → Prop) (w : World) : Prop :=
  Loop1 (.int .i64 0) w fun _ t8 w next =>
    binQ Tryd.prog w .lss 3 false t8 t7 fun t9 =>
    condW t9 (
      iaS 1 t0 t8 fun t14 =>
      ld1 w t14 fun t15 =>
      binQ Tryd.prog w .eql 3 false t1 t15 fun t16 =>
      condW t16 (
        R (.returned t8) w
      ) (
        binQ Tryd.prog w .add 3 true t8 (.int .i64 1) fun t18 =>
        next t18 w
      )
    ) (
      R (.returned (.int .i64 (-1))) w
    )



def S51 (t0 t1 : Value) (w : World) (R : Ending → World → Prop) : Prop :=
  ln1 t0 fun t7 =>
  S51L0 t0 t1 t7 R w

def A51 : Ann where
  live := fun
    | 0 => [8]
    | _ => []
  wr := fun
    | 0 => fun i => (Nat.ble 4 i && Nat.ble i 5) || (Nat.ble 8 i && Nat.ble i 18)
    | _ => fun _ => false
  sched := fun _ => .done

set_option maxRecDepth 100000 in
theorem ok51 : (codeOk Tryd.f51.ntmps A51 (Tryd.f51.body.getD .skip) 0 && Nat.ble 2 Tryd.f51.ntmps) = true := by kernel_rfl
set_option maxRecDepth 100000 in
theorem lift51 {t0 t1 : Value} {w : World} {R : Ending → World → Prop} (h : S51 t0 t1 w R) : Calls Tryd.prog 51 #[t0, t1] w R :=
  calls_of_cw (fn := Tryd.f51) (c := Tryd.f51.body.getD .skip) A51 mixes Tryd.func51 (by kernel_rfl) ok51
    ((by kernel_rfl : (S51 t0 t1 w R) = cw Tryd.prog A51 (Tryd.f51.body.getD .skip) 0 (bodyQ Tryd.prog Tryd.f51 R) (frOf #[t0, t1]) w).mp h)

def S61L0 (t0 t1 t7 : Value) (R : Ending → World → Prop) (w : World) : Prop :=
  Loop1 (.int .i64 0) w fun _ t8 w next =>
    binQ Tryd.prog w .lss 3 false t8 t7 fun t9 =>
    condW t9 (
      iaS 1 t0 t8 fun t14 =>
      ld1 w t14 fun t15 =>
      callW Tryd.prog t1 [t15] w fun t16 w =>
      condW t16 (
        R (.returned t8) w
      ) (
        binQ Tryd.prog w .add 3 true t8 (.int .i64 1) fun t18 =>
        next t18 w
      )
    ) (
      R (.returned (.int .i64 (-1))) w
    )



def S61 (t0 t1 : Value) (w : World) (R : Ending → World → Prop) : Prop :=
  ln1 t0 fun t7 =>
  S61L0 t0 t1 t7 R w

def A61 : Ann where
  live := fun
    | 0 => [8]
    | _ => []
  wr := fun
    | 0 => fun i => (Nat.ble 4 i && Nat.ble i 5) || (Nat.ble 8 i && Nat.ble i 18)
    | _ => fun _ => false
  sched := fun _ => .done

set_option maxRecDepth 100000 in
theorem ok61 : (codeOk Tryd.f61.ntmps A61 (Tryd.f61.body.getD .skip) 0 && Nat.ble 2 Tryd.f61.ntmps) = true := by kernel_rfl
set_option maxRecDepth 100000 in
theorem lift61 {t0 t1 : Value} {w : World} {R : Ending → World → Prop} (h : S61 t0 t1 w R) : Calls Tryd.prog 61 #[t0, t1] w R :=
  calls_of_cw (fn := Tryd.f61) (c := Tryd.f61.body.getD .skip) A61 mixes Tryd.func61 (by kernel_rfl) ok61
    ((by kernel_rfl : (S61 t0 t1 w R) = cw Tryd.prog A61 (Tryd.f61.body.getD .skip) 0 (bodyQ Tryd.prog Tryd.f61 R) (frOf #[t0, t1]) w).mp h)

def S70 (t0 : Value) (w : World) (R : Ending → World → Prop) : Prop :=
  binQ Tryd.prog w .lss 3 true t0 (.int .i64 (-1099511627776)) fun t4 =>
  gd t4 false (fun k => k t0 w) w fun t6 w =>
  gd t4 false (fun k => binQ Tryd.prog w .gtr 3 true t6 (.int .i64 1099511627776) fun v => k v w) w fun t7 w =>
  pickQ t4 (.bool true) t7 fun t8 =>
  R (.returned t8) w

def A70 : Ann where
  live := fun _ => []
  wr := fun _ _ => false
  sched := fun _ => .done

set_option maxRecDepth 100000 in
theorem ok70 : (codeOk Tryd.f70.ntmps A70 (Tryd.f70.body.getD .skip) 0 && Nat.ble 1 Tryd.f70.ntmps) = true := by kernel_rfl
set_option maxRecDepth 100000 in
theorem lift70 {t0 : Value} {w : World} {R : Ending → World → Prop} (h : S70 t0 w R) : Calls Tryd.prog 70 #[t0] w R :=
  calls_of_cw (fn := Tryd.f70) (c := Tryd.f70.body.getD .skip) A70 mixes Tryd.func70 (by kernel_rfl) ok70
    ((by kernel_rfl : (S70 t0 w R) = cw Tryd.prog A70 (Tryd.f70.body.getD .skip) 0 (bodyQ Tryd.prog Tryd.f70 R) (frOf #[t0]) w).mp h)

def S71 (t0 t1 : Value) (w : World) (R : Ending → World → Prop) : Prop :=
  boxW 43 t0 w fun t2 w =>
  boxW 43 t1 w fun t3 w =>
  Drew w fun w =>
  fa1 t2 1 fun t5 =>
  ld1 w t5 fun t6 =>
  fa1 t3 1 fun t7 =>
  ld1 w t7 fun t8 =>
  fa1 t2 0 fun t10 =>
  ld1 w t10 fun t11 =>
  fa1 t3 0 fun t12 =>
  ld1 w t12 fun t13 =>
  callW Tryd.prog (.func (.func 69) #[] #[]) [t6, t8] w <| keepB w fun t9 w =>
  callW Tryd.prog (.func (.func 69) #[] #[]) [t11, t13] w fun t14 w =>
  bsW Tryd.prog 31 2 [(0, t9), (1, t14)] w fun t15 w =>
  callW Tryd.prog (.func (.func 68) #[] #[]) [t15] w fun t16 w =>
  R (.returned t16) w

def A71 : Ann where
  live := fun _ => []
  wr := fun _ _ => false
  sched := fun
    | 1 => (.take 0 (.take 1 (.take 2 (.take 3 (.take 5 (.take 6 (.take 7 (.take 8 (.eff 4 (.bar 9 (.bar 10 (.bar 11 (.take 12 .done)))))))))))))
    | _ => .done

set_option maxRecDepth 100000 in
theorem ok71 : (codeOk Tryd.f71.ntmps A71 (Tryd.f71.body.getD .skip) 0 && Nat.ble 2 Tryd.f71.ntmps) = true := by kernel_rfl
set_option maxRecDepth 100000 in
theorem lift71 {t0 t1 : Value} {w : World} {R : Ending → World → Prop} (h : S71 t0 t1 w R) : Calls Tryd.prog 71 #[t0, t1] w R :=
  calls_of_cw (fn := Tryd.f71) (c := Tryd.f71.body.getD .skip) A71 mixes Tryd.func71 (by kernel_rfl) ok71
    ((by kernel_rfl : (S71 t0 t1 w R) = cw Tryd.prog A71 (Tryd.f71.body.getD .skip) 0 (bodyQ Tryd.prog Tryd.f71 R) (frOf #[t0, t1]) w).mp h)

def S72L0 (t0 t1 t7 : Value) (R : Ending → World → Prop) (w : World) : Prop :=
  Loop1 (.int .i64 0) w fun _ t8 w next =>
    binQ Tryd.prog w .lss 3 false t8 t7 fun t9 =>
    condW t9 (
      iaS 1 t0 t8 fun t14 =>
      ld1 w t14 fun t15 =>
      callW Tryd.prog t1 [t15] w fun t16 w =>
      condW t16 (
        R (.returned t8) w
      ) (
        binQ Tryd.prog w .add 3 true t8 (.int .i64 1) fun t18 =>
        next t18 w
      )
    ) (
      R (.returned (.int .i64 (-1))) w
    )



def S72 (t0 t1 : Value) (w : World) (R : Ending → World → Prop) : Prop :=
  ln1 t0 fun t7 =>
  S72L0 t0 t1 t7 R w

def A72 : Ann where
  live := fun
    | 0 => [8]
    | _ => []
  wr := fun
    | 0 => fun i => (Nat.ble 4 i && Nat.ble i 5) || (Nat.ble 8 i && Nat.ble i 18)
    | _ => fun _ => false
  sched := fun _ => .done

set_option maxRecDepth 100000 in
theorem ok72 : (codeOk Tryd.f72.ntmps A72 (Tryd.f72.body.getD .skip) 0 && Nat.ble 2 Tryd.f72.ntmps) = true := by kernel_rfl
set_option maxRecDepth 100000 in
theorem lift72 {t0 t1 : Value} {w : World} {R : Ending → World → Prop} (h : S72 t0 t1 w R) : Calls Tryd.prog 72 #[t0, t1] w R :=
  calls_of_cw (fn := Tryd.f72) (c := Tryd.f72.body.getD .skip) A72 mixes Tryd.func72 (by kernel_rfl) ok72
    ((by kernel_rfl : (S72 t0 t1 w R) = cw Tryd.prog A72 (Tryd.f72.body.getD .skip) 0 (bodyQ Tryd.prog Tryd.f72 R) (frOf #[t0, t1]) w).mp h)

theorem fok4 : fnOk Tryd.prog 4 = true := by kernel_rfl
theorem fok13 : fnOk Tryd.prog 13 = true := by kernel_rfl
theorem fok15 : fnOk Tryd.prog 15 = true := by kernel_rfl
theorem fok16 : fnOk Tryd.prog 16 = true := by kernel_rfl
theorem fok19 : fnOk Tryd.prog 19 = true := by kernel_rfl
theorem fok20 : fnOk Tryd.prog 20 = true := by kernel_rfl
theorem fok41 : fnOk Tryd.prog 41 = true := by kernel_rfl
theorem fok42 : fnOk Tryd.prog 42 = true := by kernel_rfl
theorem fok43 : fnOk Tryd.prog 43 = true := by kernel_rfl
theorem fok44 : fnOk Tryd.prog 44 = true := by kernel_rfl
theorem fok46 : fnOk Tryd.prog 46 = true := by kernel_rfl
theorem fok47 : fnOk Tryd.prog 47 = true := by kernel_rfl
theorem fok48 : fnOk Tryd.prog 48 = true := by kernel_rfl
theorem fok49 : fnOk Tryd.prog 49 = true := by kernel_rfl
theorem fok50 : fnOk Tryd.prog 50 = true := by kernel_rfl
theorem fok51 : fnOk Tryd.prog 51 = true := by kernel_rfl
theorem fok61 : fnOk Tryd.prog 61 = true := by kernel_rfl
theorem fok70 : fnOk Tryd.prog 70 = true := by kernel_rfl
theorem fok71 : fnOk Tryd.prog 71 = true := by kernel_rfl
theorem fok72 : fnOk Tryd.prog 72 = true := by kernel_rfl
end Go.Proofs.YtbekeccfjmoonaaDoor
