/- Texts of my own, merged by program: Ti Tj. -/
import Derived.Test.YtfmppkplmfbjpaaGreatDoorM06
import Derived.Test.YtfmppkplmfbjpaaGreatDoorM07
import Derived.Test.YtfmppkplmfbjpaaGreatDoorM11
import Derived.Test.YtfmppkplmfbjpaaGreatDoorM08
set_option linter.all false
/- Contract of weight: floored. -/
namespace Go.Proofs.YtfmppkplmfbjpaaGreatDoor
open Go.Lf Go.RowKit Go.Ht

/-- The number of a cell in a list. -/
def numF (P : List C2) : C2 → Option Value := fun c => if c ∈ P then some (.int .i64 ((P.idxOf c : Nat) : Int)) else none
theorem numF_push {P : List C2} {c : C2} (h : c ∉ P) : updO (numF P) c (.int .i64 ((P.length : Nat) : Int)) = numF (P ++ [c]) := by
  funext x
  unfold updO numF
  by_cases e : x = c
  · subst e
    rw [if_pos rfl, if_pos (by simp), List.idxOf_append, if_neg h]
    simp
  · rw [if_neg e]
    by_cases hx : x ∈ P
    · rw [if_pos hx, if_pos (by simp [hx]), List.idxOf_append, if_pos hx]
    · rw [if_neg hx, if_neg (by simp [hx, e])]
theorem numF_nil : (fun _ : C2 => (none : Option Value)) = numF [] := by funext x; simp [numF]
theorem cell_new {l : List ByteArray} {y x : Nat} : (((x : Nat) : Int), ((y : Nat) : Int)) ∉ cellsP l y ++ rowP l y x := by
  rw [List.mem_append, not_or]
  constructor
  · intro h
    obtain ⟨y', hy, h⟩ := cellsP_mem.1 h
    obtain ⟨x', _, _, e⟩ := rowP_mem.1 h
    injection e with _ e
    omega
  · intro h
    obtain ⟨x', hx, _, e⟩ := rowP_mem.1 h
    injection e with e _
    omega

/-- A floor in memory. -/
structure FloorAt (base : Nat) (w : World) (bf bm : Nat) (vs : Value) (P : List C2) : Prop where
  box : w.heap[bf]? = some (.cells #[vs, .map (some bm)] 136 (0, 0))
  cl : ClAt base w vs P
  mp : MapO cV okC w bm (numF P)
  fb : base ≤ bf
  mb : base ≤ bm
theorem FloorAt.kp {base : Nat} {w w' : World} {bf bm : Nat} {vs : Value} {P : List C2} (h : FloorAt base w bf bm vs P) (k : Kp w w') : FloorAt base w' bf bm vs P :=
  ⟨block_below h.box k, h.cl.kp k, h.mp.kp k, h.fb, h.mb⟩
theorem FloorAt.ne {base : Nat} {w : World} {bf bm : Nat} {vs : Value} {P : List C2} (h : FloorAt base w bf bm vs P) : bf ≠ bm := fun e => by
  obtain ⟨_, _, h1, _⟩ := h.mp
  have := h.box
  rw [e, h1] at this
  cases this
theorem FloorAt.own {base : Nat} {w : World} {bf bm : Nat} {vs : Value} {P : List C2} (h : FloorAt base w bf bm vs P) {k : Nat} (hk : vs.ownBlock = some k) : k ≠ bf ∧ k ≠ bm ∧ base ≤ k ∧ k < w.heap.size := by
  obtain ⟨cur, hc⟩ := own_type h.cl hk
  refine ⟨fun e => ?_, fun e => ?_, (RecAt.lt h.cl hk).1, (RecAt.lt h.cl hk).2⟩
  · rw [e, h.box] at hc
    injection hc with hc
    injection hc with _ hc _
    exact absurd hc (by decide)
  · obtain ⟨_, _, h1, _⟩ := h.mp
    rw [e, h1] at hc
    cases hc
theorem FloorAt.cells {base : Nat} {w : World} {bf bm : Nat} {vs : Value} {P : List C2} (h : FloorAt base w bf bm vs P) : w.cell? ⟨bf, 0, none⟩ = some vs ∧ w.cell? ⟨bf, 1, none⟩ = some (.map (some bm)) := by
  constructor <;> rw [cell_row h.box] <;> rfl

set_option maxRecDepth 100000 in
theorem bd55 {b : Nat} {K : Value → Prop} : bdQ Tryz.prog 136 [(1, .map (some b))] K = K (.agg #[nilS, .map (some b)]) := by kernel_rfl
theorem st39 {w : World} {a : Addr} {x : Option Addr} {n c : Nat} {v : Value} {K : World → Prop} (hc : w.cell? a = some v) (hf : w.frozen? a = false) : stW Tryz.prog 57 (.pointer (some a)) (.slice x n c) w K = K (w.setCell a (.slice x n c)) := by
  have e : stW Tryz.prog 57 (.pointer (some a)) (.slice x n c) w K = ((w.cell? (a.add 0)).isSome = true ∧ w.frozen? (a.add 0) = false ∧ true = true ∧ K (w.setCell (a.add 0) (.slice x n c))) := by kernel_rfl
  rw [e]
  have ha : a.add 0 = a := rfl
  simp [ha, hc, hf]

set_option maxRecDepth 100000 in
set_option maxHeartbeats 2000000 in
theorem r45_1 {l : List ByteArray} {bf bm y base : Nat} {vs0 : Value} {w0 : World} {next : Value → World → Prop} (hy : y < l.length) (hwid : (l.getD 0 dB).size ≤ 4) (hlen : l.length ≤ 4) (hsz : (l.getD y dB).size = (l.getD 0 dB).size) (hb0 : base ≤ w0.heap.size)
    (hF : FloorAt base w0 bf bm vs0 (cellsP l y))
    (hnext : ∀ vs w', FloorAt base w' bf bm vs (cellsP l (y + 1)) → Chg (fun k => base ≤ k) w0 w' → next (.int .i64 ((y : Int) + 1)) w') :
    S82xL1 (ptrV bf) (.int .i64 y) (.string (l.getD y dB)) (.int .i64 (l.getD y dB).size) next w0 := by
  have hcl := cellsP_le l y
  have hm : y * (l.getD 0 dB).size ≤ 4 * 4 := Nat.mul_le_mul (by omega) (by omega)
  unfold S82xL1
  refine ⟨fun t55 w' => ∃ (x : Nat) (vs : Value), x ≤ (l.getD 0 dB).size ∧ t55 = .int .i64 x ∧ FloorAt base w' bf bm vs (cellsP l y ++ rowP l y x) ∧ Chg (fun k => base ≤ k) w0 w', fun t55 _ => (l.getD 0 dB).size - (intOf t55).toNat, ⟨0, vs0, by omega, rfl, by simpa [rowP] using hF, Chg.refl _ _⟩, ?_⟩
  rintro _ _ wr ⟨x, vs, hx, rfl, hFr, Cr⟩
  rw [hsz]
  by_cases hlt : x < (l.getD 0 dB).size
  case neg =>
    have hlt' : ¬ (x : Int) < ((l.getD 0 dB).size : Int) := by omega
    obtain rfl : x = (l.getD 0 dB).size := by omega
    rw [r_lss, decide_eq_false hlt', r_condF, r_add _ _ (by omega) (by omega)]
    exact hnext vs wr hFr Cr
  have hlt' : (x : Int) < ((l.getD 0 dB).size : Int) := by omega
  rw [r_lss, decide_eq_true hlt', r_condT]
  have hX : x < (l.getD y dB).size := by omega
  refine r_ixS hX ?_
  have hb : (((l.getD y dB)[x]'hX).toNat : Nat) = byteAt l x y := by
    unfold byteAt
    have : (l.getD y dB).data.getD x 0 = (l.getD y dB)[x]'hX := by
      rw [Array.getD_eq_getD_getElem?, Array.getElem?_eq_getElem (by exact hX)]; rfl
    rw [this]
  have hE : hasB l (x : Nat) (y : Nat) = decide (byteAt l x y = 35) := by
    unfold hasB
    rw [decide_eq_true (by omega), Bool.true_and]; rfl
  have hI : decide (((byteAt l x y : Nat) : Int) = 35) = hasB l (x : Nat) (y : Nat) := by
    rw [hE]
    by_cases q : byteAt l x y = 35
    · rw [decide_eq_true q, decide_eq_true (by omega)]
    · rw [decide_eq_false q, decide_eq_false (by omega)]
  rw [hb, r_eql, hI]
  have hrl := rowP_le l y x
  have hrs := rowP_succ l y x
  refine r_joinW (fun w' => ∃ vs : Value, FloorAt base w' bf bm vs (cellsP l y ++ rowP l y (x + 1)) ∧ Chg (fun k => base ≤ k) w0 w') ?_ fun kk hkk => ?_
  · rintro w' ⟨vs', g1, g2⟩
    rw [r_add _ _ (by omega) (by omega)]
    exact ⟨⟨x + 1, vs', by omega, by go_num, g1, g2⟩, by simp only [intOf]; omega⟩
  cases q : hasB l (x : Int) (y : Int) with
  | false =>
    rw [q] at hrs
    rw [r_condF]
    exact hkk _ ⟨vs, by rw [hrs]; simpa using hFr, Cr⟩
  | true =>
  rw [q, if_pos rfl] at hrs
  replace hrs : cellsP l y ++ rowP l y (x + 1) = cellsP l y ++ rowP l y x ++ [((x : Int), (y : Int))] := by rw [hrs, List.append_assoc]
  rw [r_condT, bd43]
  refine r_box fun b8 w1 e8 s8 h8 k1 => ?_
  have h8' : w1.heap[b8]? = some (.cells #[.int .i64 0, .int .i64 0] 100 (0, 0)) := h8
  refine st43 (p := ((x : Int), (y : Int))) h8' fun w2 c2 s2 h82 => ?_
  have kr2 : Kp wr w2 := Kp.of_chg k1 c2 fun q e => by omega
  refine r_drew fun w3 k3 _ => ?_
  have kr3 := Kp.trans kr2 k3
  have F3 := hFr.kp kr3
  have h83 := block_below h82 k3
  obtain ⟨av, capv, evs, _⟩ := RecAt.len F3.cl
  have lnv : ∀ K : Value → Prop, ln1 vs K = K (.int .i64 ((cellsP l y ++ rowP l y x).length : Nat)) := fun K => by rw [evs]; rfl
  rw [r_nc, r_fa, r_ld F3.cells.2, c_box h83, r_nc, r_fa, r_ld F3.cells.1, lnv]
  refine r_muO keyC und53 zero3 F3.mp (k := ((x : Int), (y : Int))) ⟨⟨by omega, by omega⟩, ⟨by omega, by omega⟩⟩ fun w4 hm4 c4 s4 => ?_
  rw [numF_push cell_new] at hm4
  have hne := F3.ne
  have b8r : wr.heap.size ≤ b8 := by omega
  have bml : bm < wr.heap.size := hFr.mp.lt
  have bfl : bf < wr.heap.size := block_lt hFr.box
  have h84 : w4.heap[b8]? = _ := c4.at h83 (by omega)
  have hbox4 : w4.heap[bf]? = _ := c4.at F3.box hne
  have hcl4 : ClAt base w4 vs (cellsP l y ++ rowP l y x) := RecAt.chg F3.cl c4 fun k hk e => (hFr.own hk).2.1 e
  refine r_drew fun w5 k5 _ => ?_
  have h85 := block_below h84 k5
  have hbox5 := block_below hbox4 k5
  have hcl5 := RecAt.kp hcl4 k5
  have hm5 := hm4.kp k5
  have szr := kr3.size
  have sz5 := k5.size
  have bw : base ≤ w5.heap.size := by have := Cr.size; omega
  have cc5 : w5.cell? ⟨bf, 0, none⟩ = some vs := by rw [cell_row hbox5]; rfl
  refine ⟨fun k => vs.ownBlock = some k ∨ w5.heap.size ≤ k, ?_⟩
  have hbfX : ¬ (vs.ownBlock = some bf ∨ w5.heap.size ≤ bf) := by
    rintro (h | h)
    · exact (hFr.own h).1 rfl
    · omega
  simp only [r_tx, r_nc, r_fa]
  rw [r_txl cc5 hbfX, c_box h85, bs39, r_keepXE]
  have k6 : Kp w5 (w5.alloc (.cells (cV ((x : Int), (y : Int))).cells 100)) := below_alloc _
  refine ⟨BX.of_below k6, ?_⟩
  have hone : RecAt 100 2 cC w5.heap.size (w5.alloc (.cells (cV ((x : Int), (y : Int))).cells 100)) (.slice (some ⟨w5.heap.size, 0, none⟩) 1 1) [((x : Int), (y : Int))] := by
    have := rec_alloc (e := 100) cC_len [((x : Int), (y : Int))] (by simp) w5
    simp [recCells, cC] at this
    exact this
  generalize (w5.alloc (.cells (cV ((x : Int), (y : Int))).cells 100)) = w6 at *
  have sz6 := k6.size
  refine r_apRec slt39 cC_len (fun x => cC_one x) (by omega) (RecAt.kp hcl5 k6) (hone.rd cC_len) (by simp only [List.length_append, List.length_cons, List.length_nil]; omega) (by omega) fun vs7 w7 o7 c7 at7 => ?_
  rw [r_keepXE]
  refine ⟨BX.of_chg c7 fun k e => .inl e, ?_⟩
  have hbox7 : w7.heap[bf]? = _ := c7.at (block_below hbox5 k6) fun e => hbfX (.inl e)
  have hm7 := (hm5.kp k6).chg c7 fun e => (hFr.own e).2.1 rfl
  have cc7 : w7.cell? ⟨bf, 0, none⟩ = some vs := by rw [cell_row hbox7]; rfl
  obtain ⟨a7, cap7, e7, _⟩ := RecAt.len o7
  have c70 : vs7 = .slice a7 (cellsP l y ++ rowP l y x ++ [((x : Int), (y : Int))]).length cap7 := e7
  rw [c70, st39 cc7 (frozen_row hbox7), ← c70]
  have c8 : Chg (fun k => k = bf) w7 (w7.setCell ⟨bf, 0, none⟩ vs7) := Chg.setCell w7 vs7 rfl
  have hbox8 := setCell_block (w' := w7.setCell ⟨bf, 0, none⟩ vs7) hbox7 rfl
  have o8 : ClAt base (w7.setCell ⟨bf, 0, none⟩ vs7) vs7 (cellsP l y ++ rowP l y x ++ [((x : Int), (y : Int))]) := RecAt.chg o7 c8 fun k hk e => by
    rcases at7 k hk with h | h
    · exact (hFr.own h).1 e
    · omega
  have hm8 := hm7.chg c8 fun e => hne e.symm
  refine hkk _ ⟨vs7, ⟨hbox8, by rw [hrs]; exact o8, by rw [hrs]; exact hm8, hFr.fb, hFr.mb⟩, ?_⟩
  have b0 := hFr.fb
  have m0 := hFr.mb
  have cA : Chg (fun k => base ≤ k) wr w5 := (Chg.of_kp kr3).trans ((c4.mono fun k _ e => by omega).trans (Chg.of_kp k5))
  refine Cr.trans (cA.trans ((Chg.of_kp k6).trans ((c7.mono fun k _ e => (hFr.own e).2.2.1).trans (c8.mono fun k _ e => by omega))))

/-- Is this a floor for weights? -/
def flB (l : List ByteArray) : Bool := ofB 4 l && !(cellsB l).isEmpty

set_option maxRecDepth 100000 in
set_option maxHeartbeats 2000000 in
theorem floored_calls {v : Value} {l : List ByteArray} (w : World) (hr : RdB w v l) (hs : ∀ s ∈ l, s.size ≤ 9223372036854775807) :
    Calls Tryz.prog 82 #[v] w fun e w' => Kp w w' ∧ ((flB l = true ∧ ∃ bf bm vs, e = .returned (.tuple #[ptrV bf, .bool true]) ∧ FloorAt w.heap.size w' bf bm vs (cellsB l)) ∨ (flB l = false ∧ ∃ x, e = .returned (.tuple #[x, .bool false]))) := by
  obtain ⟨a, cap, ev, _⟩ := hr.len
  have lnv : ∀ K : Value → Prop, ln1 v K = K (.int .i64 l.length) := fun K => by rw [ev]; rfl
  refine lift82x ?_
  unfold S82x
  refine r_mm ?_
  have k1 : Kp w (w.alloc (.map #[] 0)) := below_alloc _
  have hm1 := mapO_new cV okC w
  rw [numF_nil] at hm1
  have sbm : w.heap.size < (w.alloc (.map #[] 0)).heap.size := hm1.lt
  generalize hbm : w.heap.size = bm at *
  generalize w.alloc (.map #[] 0) = w1 at *
  rw [bd55]
  refine r_box fun bf w2 e2 s2 h2 k2 => ?_
  have h2' : w2.heap[bf]? = some (.cells #[nilS, .map (some bm)] 136 (0, 0)) := h2
  have k02 := Kp.trans k1 k2
  have F2 : FloorAt bm w2 bf bm nilS (cellsP l 0) := ⟨h2', RecAt.nil, hm1.kp k2, by omega, Nat.le_refl _⟩
  have hr2 := hr.kp k02
  have none_ : ofB 4 l = false → ∀ w' : World, Kp w2 w' → (Kp w w' ∧ ((flB l = true ∧ ∃ bf' bm' vs, (Ending.returned (.tuple #[.pointer none, .bool false])) = .returned (.tuple #[ptrV bf', .bool true]) ∧ FloorAt bm w' bf' bm' vs (cellsB l)) ∨ (flB l = false ∧ ∃ x, (Ending.returned (.tuple #[.pointer none, .bool false])) = .returned (.tuple #[x, .bool false])))) := fun hf w' k' =>
    ⟨Kp.trans k02 k', .inr ⟨by unfold flB; rw [hf]; rfl, _, rfl⟩⟩
  rw [lnv, r_lss]
  by_cases g1 : (l.length : Int) < 1
  · have hf : ofB 4 l = false := by unfold ofB; rw [decide_eq_false (by omega)]; rfl
    rw [decide_eq_true g1]
    simp only [r_gdTF, r_gdU, r_pickT, r_condT]
    exact none_ hf w2 (Kp.refl _)
  rw [decide_eq_false g1]
  simp only [r_gdFF, lnv, r_gtr, r_pickF]
  by_cases g2 : (4 : Int) < (l.length : Int)
  · have hf : ofB 4 l = false := by unfold ofB; rw [decide_eq_false (by omega)]; rfl
    rw [decide_eq_true g2]
    simp only [r_gdTF, r_gdU, r_pickT, r_condT]
    exact none_ hf w2 (Kp.refl _)
  rw [decide_eq_false g2]
  have h0 : 0 < l.length := by omega
  have h00 : ∀ w' : World, RdB w' v l → ∀ K : Value → Prop, (iaS 1 v (.int .i64 0) fun p => ld1 w' p K) = K (.string (l.getD 0 dB)) := fun w' h K => str_at h h0 K
  simp only [r_gdFF, h00 w2 hr2, r_lnS, r_lss, r_gtr, r_pickF]
  by_cases g3 : ((l.getD 0 dB).size : Int) < 1
  · have hf : ofB 4 l = false := by unfold ofB; rw [decide_eq_false (by omega)]; rfl
    rw [decide_eq_true g3]
    simp only [r_gdTF, r_gdU, r_pickT, r_condT]
    exact none_ hf w2 (Kp.refl _)
  rw [decide_eq_false g3]
  simp only [r_gdFF, h00 w2 hr2, r_lnS, r_gtr, r_pickF]
  by_cases g4 : (4 : Int) < ((l.getD 0 dB).size : Int)
  · have hf : ofB 4 l = false := by unfold ofB; rw [decide_eq_false (by omega)]; rfl
    rw [decide_eq_true g4, r_condT]
    exact none_ hf w2 (Kp.refl _)
  rw [decide_eq_false g4, r_condF]
  unfold S82xL0
  refine ⟨fun t36 w' => ∃ (y : Nat) (vs : Value), y ≤ l.length ∧ t36 = .int .i64 y ∧ FloorAt bm w' bf bm vs (cellsP l y) ∧ (∀ j, j < y → badR (l.getD 0 dB).size (l.getD j dB) = false) ∧ Kp w w', fun t36 _ => l.length - (intOf t36).toNat, ⟨0, nilS, by omega, rfl, F2, fun j hj => by omega, k02⟩, ?_⟩
  rintro _ _ wr ⟨y, vs, hy, rfl, Fr', hall, kr⟩
  by_cases hlt : y < l.length
  case neg =>
    have hlt' : ¬ (y : Int) < (l.length : Int) := by omega
    obtain rfl : y = l.length := by omega
    rw [r_lss, decide_eq_false hlt', r_condF]
    have hT : ofB 4 l = true := by
      unfold ofB
      rw [decide_eq_true (by omega), Bool.true_and]
      have : l.any (badR (l.getD 0 dB).size) = false := by
        rw [List.any_eq_false]
        intro s hs
        obtain ⟨j, hj, rfl⟩ := List.getElem_of_mem hs
        have := hall j (by omega)
        rw [getD_lt l j dB hj] at this
        rw [this]; decide
      rw [this]; rfl
    refine r_drew fun w3 k3 _ => ?_
    have F3 := Fr'.kp k3
    obtain ⟨av, capv, evs, _⟩ := RecAt.len F3.cl
    have lnq : ∀ K : Value → Prop, ln1 vs K = K (.int .i64 ((cellsP l l.length).length : Nat)) := fun K => by rw [evs]; rfl
    rw [r_nc, r_fa, r_ld F3.cells.1, lnq, r_gtr]
    refine ⟨Kp.trans kr k3, ?_⟩
    by_cases he : (cellsP l l.length).length = 0
    · refine .inr ⟨?_, ptrV bf, ?_⟩
      · unfold flB cellsB
        rw [List.length_eq_zero_iff.1 he]; simp
      · rw [decide_eq_false (by omega)]
    · refine .inl ⟨?_, bf, bm, vs, ?_, F3⟩
      · unfold flB cellsB
        rw [hT]
        cases q : cellsP l l.length with
        | nil => rw [q] at he; simp at he
        | cons c t => rfl
      · rw [decide_eq_true (by omega)]
  have hlt' : (y : Int) < (l.length : Int) := by omega
  have hrr := hr.kp kr
  have hss : (l.getD y dB).size ≤ 9223372036854775807 := hs _ (getD_mem hlt)
  rw [r_lss, decide_eq_true hlt', r_condT, str_at hrr hlt, r_lnS, h00 wr hrr, r_lnS, r_neq]
  have k2r : ∀ {w' : World}, Kp wr w' → Kp w w' := fun k => Kp.trans kr k
  have badOf : badR (l.getD 0 dB).size (l.getD y dB) = true → ofB 4 l = false := fun hb => by
    unfold ofB
    rw [List.any_eq_true.2 ⟨_, getD_mem hlt, hb⟩]; simp
  have good : badR (l.getD 0 dB).size (l.getD y dB) = false → (l.getD y dB).size = (l.getD 0 dB).size → ∀ w' : World, Kp wr w' → S82xL1 (ptrV bf) (.int .i64 y) (.string (l.getD y dB)) (.int .i64 (l.getD y dB).size) (fun t86 w_1 => (∃ (y' : Nat) (vs : Value), y' ≤ l.length ∧ t86 = .int .i64 y' ∧ FloorAt bm w_1 bf bm vs (cellsP l y') ∧ (∀ j, j < y' → badR (l.getD 0 dB).size (l.getD j dB) = false) ∧ Kp w w_1) ∧ l.length - (intOf t86).toNat < l.length - (intOf (.int .i64 y)).toNat) w' := fun hb hsz w' k' => by
    refine r45_1 (base := bm) hlt (by omega) (by omega) hsz (by have := k'.size; have := kr.size; omega) (Fr'.kp k') fun vs' w'' F'' c'' => ?_
    refine ⟨⟨y + 1, vs', by omega, by go_num, F'', fun j hj => ?_, Kp.of_chg (k2r k') c'' fun i hi => by omega⟩, by simp only [intOf]; omega⟩
    by_cases e : j = y
    · rw [e]; exact hb
    · exact hall j (by omega)
  by_cases hn : ((l.getD y dB).size : Int) = ((l.getD 0 dB).size : Int)
  · have hn' : (l.getD y dB).size = (l.getD 0 dB).size := by omega
    rw [decide_eq_true hn]
    simp only [Bool.not_true, r_gdFF]
    refine r_use (by kernel_rfl) (trim_calls (l.getD y dB) wr hss) rfl ?_
    rintro _ w3 ⟨k3, r, rfl, hri⟩
    refine ⟨_, rfl, ?_⟩
    refine r_neS ?_
    rw [empty_iff hri, r_pickF]
    cases hp : plainB (l.getD y dB) with
    | true =>
      rw [Bool.not_true, r_condF, r_lnS]
      exact good (by unfold badR; rw [decide_eq_true hn', hp]; rfl) hn' w3 k3
    | false =>
      rw [Bool.not_false, r_condT]
      exact ⟨k2r k3, .inr ⟨by unfold flB; rw [badOf (by unfold badR; rw [hp]; simp)]; rfl, _, rfl⟩⟩
  · have hn' : ¬ (l.getD y dB).size = (l.getD 0 dB).size := by omega
    rw [decide_eq_false hn]
    simp only [Bool.not_false, r_gdTF, r_gdU, r_pickT, r_condT]
    exact ⟨kr, .inr ⟨by unfold flB; rw [badOf (by unfold badR; rw [decide_eq_false hn']; simp)]; rfl, _, rfl⟩⟩

end Go.Proofs.YtfmppkplmfbjpaaGreatDoor

/- Contracts of weight: reading, tile, Equal; the two dominoes. -/
namespace Go.Proofs.YtfmppkplmfbjpaaGreatDoor
open Go.Lf Go.RowKit Go.Ht

set_option maxRecDepth 100000 in
theorem r_ne43 {w : World} {lit : Bool} (p q : Int × Int) (K : Value → Prop) : binQ Tryz.prog w .neq 100 lit (cV p) (cV q) K = K (.bool (!decide (p = q))) := by
  have hg : Tryz.prog.eqGuardType Tryz.prog.depth 100 = false := by kernel_rfl
  have hrun : ∀ w, (semBin .neq 100 lit (cV p) (cV q)).run Tryz.prog w = .ok (.value (.bool (!decide (p = q)))) w := fun w => by
    unfold semBin
    have := eqs43 p.1 p.2 q.1 q.2 w
    rw [eqs2_bool] at this
    simp [run_eqGuard_agg w _ _ _ _ _ _ hg, run_neq_struct, this]
  refine propext ⟨?_, fun h => ⟨_, fun w' _ => hrun w', h⟩⟩
  rintro ⟨v, hv, hk⟩
  have h1 := hv w (Below.refl _ _)
  rw [hrun] at h1
  injection h1 with h1 _
  injection h1 with h1
  rw [h1]; exact hk

set_option maxRecDepth 100000 in
theorem readW_calls (x y : C2) (w : World) : Calls Tryz.prog 95 #[cV x, cV y] w fun e w' => e = .returned (.int .i64 (cmpZ x y)) ∧ Kp w w' := by
  refine lift95 ?_
  unfold S95
  refine r_box fun b2 w1 e2 s2 h2 k1 => ?_
  refine r_box fun b3 w2 e3 s3 h3 k2 => ?_
  refine r_drew fun w3 k3 _ => ?_
  obtain ⟨c0, c1⟩ := c_cells (p := x) (block_below h2 (Kp.trans k2 k3))
  obtain ⟨d0, d1⟩ := c_cells (p := y) (block_below h3 k3)
  simp (disch := omega) only [r_ln, r_pick, r_pickT, r_pickF, r_condT, r_condF, r_gdTT, r_gdFF, r_gdTF, r_gdFT, r_gqTT, r_gqFF, r_gqTF, r_gqFT, r_not, r_lss, r_leq, r_gtr, r_geq, r_eql, r_neq, r_add, r_sub, r_min2, r_max2, r_min3, r_max3, r_fa, r_iaS, r_iaA, r_ex2a, r_ex2b, r_ex3a, r_ex3b, r_ex3c, r_nc, r_keepE, Nat.zero_add, Nat.add_zero, Nat.mul_one, Int.toNat_natCast, toNat_sub1, toNat_add1, decide_true, decide_false, Bool.not_true, Bool.not_false, if_true, if_false, Bool.false_eq_true, reduceCtorEq, r_ld c0, r_ld c1, r_ld d0, r_ld d1]
  refine r_use fok101 (cmp_calls _ _ _) rfl ?_
  rintro _ _ ⟨rfl, rfl⟩
  refine ⟨_, rfl, Below.refl _ _, ?_⟩
  refine r_use fok101 (cmp_calls _ _ _) rfl ?_
  rintro _ _ ⟨rfl, rfl⟩
  refine ⟨_, rfl, ?_⟩
  rw [bs31_2]
  have k4 : Kp w3 (w3.alloc (.cells #[.int .i64 (cmpI x.2 y.2), .int .i64 (cmpI x.1 y.1)] 3)) := below_alloc _
  refine r_use fok100 (or_calls _ [cmpI x.2 y.2, cmpI x.1 y.1] _ (rd_two (heap_alloc_new _ _))) rfl ?_
  rintro _ _ ⟨rfl, rfl⟩
  exact ⟨_, rfl, rfl, Kp.trans k1 (Kp.trans k2 (Kp.trans k3 k4))⟩

/-- The second cell of a domino. -/
def domS (k : Nat) : C2 := if k = 0 then (1, 0) else (0, 1)
def domT (k : Nat) : List C2 := [(0, 0), domS k]
theorem domS_or (k : Nat) : domS k = (1, 0) ∨ domS k = (0, 1) := by unfold domS; split <;> simp

set_option maxRecDepth 100000 in
set_option maxHeartbeats 1000000 in
theorem tile_calls {v : Value} {k : Nat} (w : World) (hr : RdC w v (domT k)) : Calls Tryz.prog 83 #[v] w fun e w' => e = .returned (.bool true) ∧ Kp w w' := by
  obtain ⟨a, cap, ev, _⟩ := hr.len
  have lnv : ∀ K : Value → Prop, ln1 v K = K (.int .i64 ((2 : Nat) : Int)) := fun K => by rw [ev]; rfl
  have h0 : ∀ w' : World, Kp w w' → ∀ K : Value → Prop, (iaS 2 v (.int .i64 ((0 : Nat) : Int)) fun p => ldN 2 w' p K) = K (cV (0, 0)) := fun w' k' K => cell_at (hr.kp k') (i := 0) (by show 0 < 2; omega) K
  have h1 : ∀ w' : World, Kp w w' → ∀ K : Value → Prop, (iaS 2 v (.int .i64 ((1 : Nat) : Int)) fun p => ldN 2 w' p K) = K (cV (domS k)) := fun w' k' K => cell_at (hr.kp k') (i := 1) (by show 1 < 2; omega) K
  refine lift83 ?_
  unfold S83
  rw [lnv, r_lss, decide_eq_false (by omega)]
  simp only [r_gdFF, lnv, r_gtr]
  rw [decide_eq_false (by omega), r_pickF]
  simp only [r_gdFF]
  rw [show (0 : Int) = ((0 : Nat) : Int) from rfl, h0 w (Kp.refl _)]
  have bd0 : ∀ K : Value → Prop, bdQ Tryz.prog 100 [] K = K (cV (0, 0)) := fun K => by kernel_rfl
  rw [bd0, r_ne43, decide_eq_true rfl, r_pickF, Bool.not_true, r_condF]
  unfold S83L0
  refine ⟨fun t22 w' => ∃ i : Nat, i ≤ 2 ∧ t22 = .int .i64 i ∧ Kp w w', fun t22 _ => 2 - (intOf t22).toNat, ⟨0, by omega, rfl, Kp.refl _⟩, ?_⟩
  rintro _ _ wr ⟨i, hi, rfl, kr⟩
  by_cases hlt : i < 2
  case neg =>
    have hlt' : ¬ (i : Int) < ((2 : Nat) : Int) := by omega
    rw [r_lss, decide_eq_false hlt', r_condF]
    exact ⟨rfl, kr⟩
  have hlt' : (i : Int) < ((2 : Nat) : Int) := by omega
  rw [r_lss, decide_eq_true hlt', r_condT]
  have hc : ∀ w' : World, Kp w w' → ∀ K : Value → Prop, (iaS 2 v (.int .i64 i) fun p => ldN 2 w' p K) = K (cV ((domT k).getD i (0, 0))) := fun w' k' K => cell_at (hr.kp k') (i := i) hlt K
  rw [hc wr kr]
  have hb : 0 ≤ ((domT k).getD i (0, 0)).1 ∧ ((domT k).getD i (0, 0)).1 ≤ 1 ∧ 0 ≤ ((domT k).getD i (0, 0)).2 ∧ ((domT k).getD i (0, 0)).2 ≤ 1 := by
    unfold domT
    match i, hlt with
    | 0, _ => exact ⟨Int.le_refl 0, Int.zero_le_ofNat 1, Int.le_refl 0, Int.zero_le_ofNat 1⟩
    | 1, _ => show 0 ≤ (domS k).1 ∧ (domS k).1 ≤ 1 ∧ 0 ≤ (domS k).2 ∧ (domS k).2 ≤ 1; rcases domS_or k with e | e <;> rw [e] <;> exact ⟨by decide, by decide, by decide, by decide⟩
  have hlast : i = 1 → (domT k).getD i (0, 0) = domS k := fun e => by rw [e]; rfl
  generalize (domT k).getD i (0, 0) = c at *
  refine r_box fun b4 w1 e4 s4 h4 k4 => ?_
  have h4' : w1.heap[b4]? = some (.cells #[.int .i64 0, .int .i64 0] 100 (0, 0)) := h4
  refine st43 (p := c) h4' fun w2 c2 s2 h42 => ?_
  have kr2 : Kp wr w2 := Kp.of_chg k4 c2 fun q e => by omega
  refine r_drew fun w3 k3 _ => ?_
  have k03 := Kp.trans kr (Kp.trans kr2 k3)
  obtain ⟨c0, c1⟩ := c_cells (p := c) (block_below h42 k3)
  have q1 : ¬ c.1 < -4 := by omega
  have q2 : ¬ (4 : Int) < c.1 := by omega
  have q3 : ¬ c.2 < 0 := by omega
  have q4 : ¬ (4 : Int) < c.2 := by omega
  simp only [r_fa, Nat.zero_add, r_ld c0, r_ld c1, r_lss, r_gtr, decide_eq_false q1, r_gqFF, decide_eq_false q2, r_pickF, decide_eq_false q3, decide_eq_false q4]
  by_cases hi0 : i = 0
  · subst hi0
    have q5 : ¬ (0 : Int) < ((0 : Nat) : Int) := by omega
    simp only [decide_eq_false q5, r_gqFT, r_gdFT, r_gqU, r_gdU, r_keepE]
    refine ⟨Below.refl _ _, ?_⟩
    simp only [r_pickF, r_condF]
    rw [r_add _ _ (by omega) (by omega)]
    exact ⟨⟨1, by omega, rfl, k03⟩, by simp [intOf]⟩
  · have hi1 : i = 1 := by omega
    subst hi1
    have hcs := hlast rfl
    have q5 : (0 : Int) < ((1 : Nat) : Int) := by omega
    simp only [decide_eq_true q5, r_gqTT, r_gdTT]
    rw [r_sub _ _ (by omega) (by omega), show ((1 : Nat) : Int) - 1 = ((0 : Nat) : Int) from rfl, h0 w3 k03, c_box (block_below h42 k3)]
    refine r_use fok95 (readW_calls _ _ w3) rfl ?_
    rintro _ w4 ⟨rfl, k4'⟩
    refine ⟨_, rfl, ?_⟩
    rw [r_keepE]
    refine ⟨k4', ?_⟩
    have hcmp : cmpZ (0, 0) c = -1 := by rw [hcs]; rcases domS_or k with e | e <;> rw [e] <;> decide
    rw [hcmp, r_geq, decide_eq_false (by omega)]
    simp only [r_pickT, r_pickF, r_condF]
    rw [r_add _ _ (by omega) (by omega)]
    exact ⟨⟨2, by omega, rfl, Kp.trans k03 k4'⟩, by simp [intOf]⟩

set_option maxRecDepth 100000 in
set_option maxHeartbeats 1000000 in
/-- The two dominoes are not the same. -/
theorem equal_calls {v u : Value} (w : World) (hr : RdC w v (domT 0)) (hu : RdC w u (domT 1)) : Calls Tryz.prog 86 #[v, u] w fun e w' => e = .returned (.bool false) ∧ Kp w w' := by
  obtain ⟨a, cap, ev, _⟩ := hr.len
  obtain ⟨a', cap', eu, _⟩ := hu.len
  have lnv : ∀ K : Value → Prop, ln1 v K = K (.int .i64 ((2 : Nat) : Int)) := fun K => by rw [ev]; rfl
  have lnu : ∀ K : Value → Prop, ln1 u K = K (.int .i64 ((2 : Nat) : Int)) := fun K => by rw [eu]; rfl
  refine lift86 ?_
  unfold S86
  rw [lnv, lnu, r_neq, decide_eq_true rfl, Bool.not_true, r_condF, lnv]
  unfold S86L0
  refine ⟨fun t13 w' => ∃ i : Nat, i ≤ 1 ∧ t13 = .int .i64 i ∧ Kp w w', fun t13 _ => 2 - (intOf t13).toNat, ⟨0, by omega, rfl, Kp.refl _⟩, ?_⟩
  rintro _ _ wr ⟨i, hi, rfl, kr⟩
  have hlt' : (i : Int) < ((2 : Nat) : Int) := by omega
  rw [r_lss, decide_eq_true hlt', r_condT]
  refine r_drew fun w2 k2 _ => ?_
  have k02 := Kp.trans kr k2
  rw [cell_at (hr.kp k02) (i := i) (by show i < 2; omega), cell_at (hu.kp k02) (i := i) (by show i < 2; omega), r_ne43]
  match i, hi with
  | 0, _ =>
    rw [show (domT 0).getD 0 (0, 0) = (domT 1).getD 0 (0, 0) from rfl, decide_eq_true rfl, Bool.not_true, r_condF, r_add _ _ (by omega) (by omega)]
    exact ⟨⟨1, by omega, rfl, k02⟩, by simp [intOf]⟩
  | 1, _ =>
    rw [decide_eq_false (by decide), Bool.not_false, r_condT]
    exact ⟨rfl, k02⟩

end Go.Proofs.YtfmppkplmfbjpaaGreatDoor
