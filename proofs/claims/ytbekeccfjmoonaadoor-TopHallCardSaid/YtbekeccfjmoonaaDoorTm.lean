/- Contracts of weight: weighs, IsAbove, IsWhole, Puts. -/
import Derived.Test.YtbekeccfjmoonaaDoorTl
set_option linter.all false
namespace Go.Proofs.YtbekeccfjmoonaaDoor
open Go.Lf Go.RowKit Go.Ht

theorem r_tmod {w : World} {K : Value → Prop} {t : TypeId} {lit : Bool} {k : IntKind} (x y : Int) (h1 : 0 < y) : binQ Tryd.prog w .rem t lit (.int k x) (.int k y) K = K (.int k (x.tmod y)) := by
  have hy : y ≠ 0 := by omega
  rw [r_bin (v := .int k (x.tmod y)) (by simp [intBin, hy])]

abbrev RdI (w : World) (v : Value) (l : List Int) : Prop := Rd 1 iC w v l
theorem int_at {w : World} {v : Value} {l : List Int} (h : RdI w v l) {i : Nat} (hi : i < l.length) (K : Value → Prop) : (iaS 1 v (.int .i64 i) fun p => ld1 w p K) = K (.int .i64 (l.getD i 0)) := by
  obtain ⟨b, off, cap, e, _, hc⟩ := h.at (List.getElem?_eq_getElem hi)
  have hii : (i : Int).toNat = i := by omega
  have hA := hc 0 _ rfl
  rw [Nat.add_zero] at hA
  rw [e, r_iaS _ _ _ _ _ _ _ (by omega) (by omega), hii, r_ld hA, getD_lt _ _ _ hi]

/-- A predicate as a function value. -/
def IsPred (w : World) (f : Value) (p : Int → Bool) (L : List Int) : Prop := ∀ n ∈ L, ∀ w', Kp w w' → ∀ K : Value → World → Prop, (∀ w'', Kp w' w'' → K (.bool (p n)) w'') → callW Tryd.prog f [.int .i64 n] w' K

set_option maxRecDepth 100000 in
theorem idx61_calls {v f : Value} {p : Int → Bool} {L : List Int} (w : World) (hv : RdI w v L) (hl : L.length ≤ 1000) (hp : IsPred w f p L) :
    Calls Tryd.prog 61 #[v, f] w fun e w' => Kp w w' ∧ ∃ q : Int, e = .returned (.int .i64 q) ∧ decide (0 ≤ q) = L.any p := by
  obtain ⟨a, cap, ev, _⟩ := hv.len
  have lnv : ∀ K : Value → Prop, ln1 v K = K (.int .i64 L.length) := fun K => by rw [ev]; rfl
  refine lift61 ?_
  unfold S61
  rw [lnv]
  unfold S61L0
  refine ⟨fun t8 wr => ∃ i : Nat, i ≤ L.length ∧ t8 = .int .i64 i ∧ (∀ j, j < i → p (L.getD j 0) = false) ∧ Kp w wr, fun t8 _ => L.length - (intOf t8).toNat, ⟨0, by omega, rfl, fun j hj => by omega, Kp.refl _⟩, ?_⟩
  rintro _ _ wr ⟨i, hi, rfl, hall, kr⟩
  by_cases hlt : i < L.length
  case neg =>
    have hlt' : ¬ (i : Int) < (L.length : Int) := by omega
    rw [r_lss, decide_eq_false hlt', r_condF]
    refine ⟨kr, -1, rfl, ?_⟩
    have : L.any p = false := by
      rw [List.any_eq_false]
      intro s hs
      obtain ⟨j, hj, rfl⟩ := List.getElem_of_mem hs
      have := hall j (by omega)
      rw [getD_lt L j 0 hj] at this
      rw [this]; decide
    rw [this]; rfl
  have hlt' : (i : Int) < (L.length : Int) := by omega
  rw [r_lss, decide_eq_true hlt', r_condT, int_at (hv.kp kr) hlt]
  refine hp _ (getD_mem hlt) wr kr _ fun w2 k2 => ?_
  cases q : p (L.getD i 0) with
  | true =>
    rw [r_condT]
    refine ⟨Kp.trans kr k2, i, rfl, ?_⟩
    rw [decide_eq_true (by omega)]
    exact (List.any_eq_true.2 ⟨_, getD_mem hlt, q⟩).symm
  | false =>
    rw [r_condF, r_add _ _ (by omega) (by omega)]
    refine ⟨⟨i + 1, by omega, by go_num, fun j hj => ?_, Kp.trans kr k2⟩, by simp only [intOf]; omega⟩
    by_cases e : j = i
    · rw [e]; exact q
    · exact hall j (by omega)

set_option maxRecDepth 100000 in
theorem any_calls {v f : Value} {p : Int → Bool} {L : List Int} (w : World) (hv : RdI w v L) (hl : L.length ≤ 1000) (hp : IsPred w f p L) :
    Calls Tryd.prog 42 #[v, f] w fun e w' => e = .returned (.bool (L.any p)) ∧ Kp w w' := by
  refine lift42 ?_
  unfold S42
  refine r_use fok61 (idx61_calls w hv hl hp) rfl ?_
  rintro _ w1 ⟨k1, q, rfl, hq⟩
  refine ⟨_, rfl, ?_⟩
  rw [r_geq, hq]
  exact ⟨rfl, k1⟩

theorem far_calls (n : Int) (w : World) : Calls Tryd.prog 70 #[.int .i64 n] w fun e w'' => e = .returned (.bool (decide (n < -1099511627776 ∨ 1099511627776 < n))) ∧ w = w'' := by
  refine lift70 ?_
  unfold S70
  rw [r_lss]
  by_cases h : n < -1099511627776
  · rw [decide_eq_true h, decide_eq_true (.inl h)]
    simp only [r_gdTF, r_gdU, r_pickT]
    exact ⟨by first | rfl | trivial, by first | rfl | trivial⟩
  · rw [decide_eq_false h]
    simp only [r_gdFF, r_gtr, r_pickF]
    refine ⟨ret_bool ?_, by first | rfl | trivial⟩
    rw [decide_eq_decide]
    exact ⟨.inr, fun q => q.resolve_left h⟩
theorem pos_calls (n : Int) (w : World) : Calls Tryd.prog 43 #[.int .i64 n] w fun e w'' => e = .returned (.bool (decide (0 < n))) ∧ w = w'' := by
  refine lift43 ?_
  unfold S43
  rw [r_gtr]
  exact ⟨rfl, rfl⟩
theorem mod_calls {b : Nat} {d : Int} (n : Int) (w : World) (hb : w.cell? ⟨b, 1, none⟩ = some (.int .i64 d)) (hd : 0 < d) : Calls Tryd.prog 44 #[.int .i64 n, ptrV b] w fun e w'' => e = .returned (.bool (!decide (n.tmod d = 0))) ∧ w = w'' := by
  refine lift44 ?_
  unfold S44
  rw [r_fa, Nat.zero_add, r_ld hb, r_tmod _ _ hd, r_neq]
  exact ⟨rfl, rfl⟩
theorem far_pred (w : World) (L : List Int) : IsPred w (.func (.func 70) #[] #[]) (fun n => decide (n < -1099511627776 ∨ 1099511627776 < n)) L := fun n _ w' _ K hK => by
  refine r_use fok70 (far_calls n w') rfl ?_
  rintro _ _ ⟨rfl, rfl⟩
  exact ⟨_, rfl, hK _ (Kp.refl _)⟩
theorem pos_pred (w : World) (L : List Int) : IsPred w (.func (.func 43) #[] #[]) (fun n => decide (0 < n)) L := fun n _ w' _ K hK => by
  refine r_use fok43 (pos_calls n w') rfl ?_
  rintro _ _ ⟨rfl, rfl⟩
  exact ⟨_, rfl, hK _ (Kp.refl _)⟩
theorem mod_pred {b : Nat} {d : Int} (w : World) (L : List Int) (hb : w.cell? ⟨b, 1, none⟩ = some (.int .i64 d)) (hd : 0 < d) : IsPred w (.func (.func 44) #[] #[ptrV b]) (fun n => !decide (n.tmod d = 0)) L := fun n _ w' k' K hK => by
  refine r_use fok44 (mod_calls n w' (cell_later k' hb) hd) rfl ?_
  rintro _ _ ⟨rfl, rfl⟩
  exact ⟨_, rfl, hK _ (Kp.refl _)⟩

/-- The sum of the weights at the places of a list. -/
def sumC (N : List Int) (L : List Int) : Int := (L.map fun q => N.getD q.toNat 0).sum
def sumsC (N : List Int) (P : List C2) (PU : List Pu) : List Int := PU.map fun r => sumC N (covOf P r)
theorem sum_bound : ∀ {L : List Int}, (∀ n ∈ L, -1 ≤ n ∧ n ≤ 1) → -(L.length : Int) ≤ L.sum ∧ L.sum ≤ L.length
  | [], _ => by simp
  | a :: L, h => by
    have h1 := h a (List.mem_cons_self ..)
    have h2 := sum_bound (L := L) fun n hn => h n (List.mem_cons_of_mem _ hn)
    rw [List.sum_cons, List.length_cons]
    omega
theorem getD_small {N : List Int} (h : ∀ n ∈ N, -1 ≤ n ∧ n ≤ 1) (i : Nat) : -1 ≤ N.getD i 0 ∧ N.getD i 0 ≤ 1 := by
  by_cases hi : i < N.length
  · exact h _ (getD_mem hi)
  · rw [List.getD_eq_getElem?_getD, List.getElem?_eq_none (by omega)]; decide
theorem sum_take_succ {L : List Int} {i : Nat} (hi : i < L.length) : (L.take (i + 1)).sum = (L.take i).sum + L.getD i 0 := by
  rw [take_succ' _ _ hi, List.sum_append, getD_lt L i 0 hi]; simp
theorem sumC_succ (N : List Int) {L : List Int} {i : Nat} (hi : i < L.length) : sumC N (L.take (i + 1)) = sumC N (L.take i) + N.getD (L.getD i 0).toNat 0 := by
  unfold sumC
  rw [take_succ' _ _ hi, List.map_append, List.sum_append, getD_lt L i 0 hi]; simp
theorem sumC_bound {N : List Int} (h : ∀ n ∈ N, -1 ≤ n ∧ n ≤ 1) (L : List Int) : -(L.length : Int) ≤ sumC N L ∧ sumC N L ≤ L.length := by
  have := sum_bound (L := L.map fun q => N.getD q.toNat 0) fun n hn => by
    obtain ⟨q, _, rfl⟩ := List.mem_map.1 hn
    exact getD_small h _
  rw [List.length_map] at this
  exact this
theorem numI_lt {P : List C2} {c : C2} (h : c ∈ P) : 0 ≤ numI P c ∧ numI P c < P.length := by
  unfold numI
  have := List.idxOf_lt_length_iff.2 h
  omega
theorem cov_lt {P : List C2} {r : Pu} (h1 : r.2 ∈ P) (h2 : stepC r.2 (domS r.1) ∈ P) {j : Nat} (hj : j < 2) : 0 ≤ (covOf P r).getD j 0 ∧ (covOf P r).getD j 0 < P.length := by
  match j, hj with
  | 0, _ => exact numI_lt h1
  | 1, _ => exact numI_lt h2

set_option maxRecDepth 100000 in
set_option maxHeartbeats 2000000 in
theorem weighs_calls {base bp bf bm : Nat} {fv tv pv cv nv : Value} {vs : List Value} {P : List C2} {PU : List Pu} {N : List Int} {d : Int} (w : World) (hP : PrAt base w bp bf bm fv tv pv cv vs P PU) (hN : RdI w nv N) (hl : N.length = P.length) (hp : P.length ≤ 1000) (hpu : PU.length ≤ 1000)
    (hd : 1 ≤ d ∧ d ≤ 1000) (hn : ∀ n ∈ N, -1 ≤ n ∧ n ≤ 1) (hm : ∀ r ∈ PU, r.2 ∈ P ∧ stepC r.2 (domS r.1) ∈ P) :
    Calls Tryd.prog 41 #[ptrV bp, .agg #[nv, .int .i64 d]] w fun e w' => Kp w w' ∧ ∃ v', e = .returned (.tuple #[v', .int .i64 N.sum, .bool true]) ∧ IntsAt w.heap.size w' v' (sumsC N P PU) := by
  obtain ⟨na, nc, en, _⟩ := hN.len
  have lnn : ∀ K : Value → Prop, ln1 nv K = K (.int .i64 N.length) := fun K => by rw [en]; rfl
  refine lift41 ?_
  unfold S41
  refine r_box fun b3 w1 e3 s3 h3 k1 => ?_
  have h3' : w1.heap[b3]? = some (.cells #[nv, .int .i64 d] 33 (0, 0)) := by rw [en] at h3 ⊢; exact h3
  refine r_drew fun w2 k2 _ => ?_
  have k02 := Kp.trans k1 k2
  have h32 := block_below h3' k2
  have c0 : ∀ {w' : World}, Kp w2 w' → w'.cell? ⟨b3, 0, none⟩ = some nv := fun k => by rw [cell_row (block_below h32 k)]; rfl
  have c1 : w2.cell? ⟨b3, 1, none⟩ = some (.int .i64 d) := by rw [cell_row h32]; rfl
  have P2 := hP.kp k02
  obtain ⟨fa, fc, ef, _⟩ := RecAt.len P2.fl.cl
  have lnf : ∀ K : Value → Prop, ln1 fv K = K (.int .i64 (P.length : Nat)) := fun K => by rw [ef]; rfl
  obtain ⟨p0, p1, p2, p3⟩ := P2.cells
  rw [r_fa, Nat.zero_add, r_ld (c0 (Kp.refl _)), lnn, r_nc, r_fa, Nat.zero_add, r_ld p0, r_nc, r_fa, Nat.zero_add, r_ld P2.fl.cells.1, lnf, r_neq, decide_eq_true (by omega)]
  simp only [Bool.not_true, r_gqFF, r_fa, Nat.zero_add, r_ld c1, r_lss, r_gtr, r_pickF, decide_eq_false (show ¬ d < 1 by omega), decide_eq_false (show ¬ (1099511627776 : Int) < d by omega), r_ld (c0 (Kp.refl _)), r_gdFF]
  refine r_use fok42 (any_calls w2 (hN.kp k02) (by omega) (far_pred w2 N)) rfl ?_
  rintro _ w3 ⟨rfl, k3⟩
  refine ⟨_, rfl, ?_⟩
  rw [r_keepE]
  refine ⟨k3, ?_⟩
  have hfar : (N.any fun n => decide (n < -1099511627776 ∨ 1099511627776 < n)) = false := by
    rw [List.any_eq_false]
    intro n h
    have := hn n h
    rw [decide_eq_false (by omega)]; decide
  rw [hfar, r_condF]
  have P3 := P2.kp k3
  obtain ⟨q0, q1, q2, q3⟩ := P3.cells
  obtain ⟨ca, cc, ec, _⟩ := RecAt.len P3.co
  have lnc : ∀ K : Value → Prop, ln1 cv K = K (.int .i64 (vs.length : Nat)) := fun K => by rw [ec]; rfl
  rw [r_nc, r_fa, Nat.zero_add, r_ld q3, lnc]
  unfold S41L0
  have k03 := Kp.trans k02 k3
  refine ⟨fun t4 t48 w' => ∃ i : Nat, i ≤ vs.length ∧ t48 = .int .i64 i ∧ IntsAt w3.heap.size w' t4 ((sumsC N P PU).take i) ∧ Kp w3 w', fun _ t48 _ => vs.length - (intOf t48).toNat, ⟨0, by omega, rfl, RecAt.nil, Kp.refl _⟩, ?_⟩
  rintro _ t4 _ wr ⟨i, hi, rfl, hO, kr⟩
  have hlen := hP.len
  have hsl : (sumsC N P PU).length = vs.length := by unfold sumsC; rw [List.length_map, hlen]
  by_cases hlt : i < vs.length
  case neg =>
    have hlt' : ¬ (i : Int) < (vs.length : Int) := by omega
    obtain rfl : i = vs.length := by omega
    rw [r_lss, decide_eq_false hlt', r_condF, r_fa, Nat.zero_add, r_ld (c0 (Kp.trans k3 kr)), lnn]
    unfold S41L2
    refine ⟨fun t5 t74 w' => ∃ j : Nat, j ≤ N.length ∧ t74 = .int .i64 j ∧ t5 = .int .i64 (N.take j).sum ∧ Kp wr w', fun _ t74 _ => N.length - (intOf t74).toNat, ⟨0, by omega, rfl, rfl, Kp.refl _⟩, ?_⟩
    rintro _ _ _ wq ⟨j, hj, rfl, rfl, kq⟩
    by_cases hlj : j < N.length
    case neg =>
      have hlj' : ¬ (j : Int) < (N.length : Int) := by omega
      obtain rfl : j = N.length := by omega
      rw [r_lss, decide_eq_false hlj', r_condF]
      refine ⟨Kp.trans k03 (Kp.trans kr kq), t4, by rw [List.take_length], ?_⟩
      rw [← hsl, List.take_length] at hO
      exact RecAt.down (hO.kp kq) k03.size
    have hlj' : (j : Int) < (N.length : Int) := by omega
    have sb := sum_bound (L := N.take j) fun n h => hn n (List.mem_of_mem_take h)
    rw [List.length_take] at sb
    have sg := getD_small hn j
    have hx : ((min j N.length : Nat) : Int) ≤ 1000 := by omega
    rw [r_lss, decide_eq_true hlj', r_condT, int_at (hN.kp (Kp.trans k03 (Kp.trans kr kq))) hlj, r_add _ _ (by omega) (by omega), r_add _ _ (by omega) (by omega)]
    exact ⟨⟨j + 1, by omega, by go_num, by rw [sum_take_succ hlj], kq⟩, by simp only [intOf]; omega⟩
  have hlt' : (i : Int) < (vs.length : Int) := by omega
  have hli : i < PU.length := by omega
  have hrow := P3.rows i _ _ (List.getElem?_eq_getElem hlt) (List.getElem?_eq_getElem hli)
  obtain ⟨b', off, cap', e2, _, hc⟩ := ((P3.co.kp kr).rd vE_len).at (List.getElem?_eq_getElem hlt)
  have hA := hc 0 _ rfl
  rw [Nat.add_zero] at hA
  have hii : (i : Int).toNat = i := by omega
  rw [r_lss, decide_eq_true hlt', r_condT, e2, r_iaS _ _ _ _ _ _ _ (by omega) (by omega), hii, r_ld hA]
  generalize hrd : PU[i] = r at *
  obtain ⟨m1, m2⟩ := hm r (by rw [← hrd]; exact List.getElem_mem hli)
  generalize vs[i] = rv at *
  obtain ⟨ra, rc, er, _⟩ := RecAt.len hrow
  have lnr : ∀ K : Value → Prop, ln1 rv K = K (.int .i64 ((2 : Nat) : Int)) := fun K => by rw [er]; rfl
  have hcl : (covOf P r).length = 2 := rfl
  rw [lnr]
  unfold S41L1
  refine ⟨fun t10 t54 w' => ∃ j : Nat, j ≤ 2 ∧ t54 = .int .i64 j ∧ t10 = .int .i64 (sumC N ((covOf P r).take j)) ∧ Kp wr w', fun _ t54 _ => 2 - (intOf t54).toNat, ⟨0, by omega, rfl, rfl, Kp.refl _⟩, ?_⟩
  rintro _ _ _ wq ⟨j, hj, rfl, rfl, kq⟩
  have sb := sumC_bound hn ((covOf P r).take j)
  rw [List.length_take, hcl] at sb
  by_cases hlj : j < 2
  case neg =>
    have hlj' : ¬ (j : Int) < ((2 : Nat) : Int) := by omega
    obtain rfl : j = 2 := by omega
    rw [r_lss, decide_eq_false hlj', r_condF]
    refine r_pushRec (x := sumC N ((covOf P r).take 2)) (ty := 31) slt31 iC_len rfl (fun K => bs31 _ _ _ K) (by simp [iC]; rfl) (by omega) (hO.kp kq) (by rw [List.length_take]; omega) (Kp.trans kr kq).size fun v' w' o1 c1' _ => ?_
    rw [r_add _ _ (by omega) (by omega)]
    refine ⟨⟨i + 1, by omega, by go_num, ?_, Kp.of_chg (Kp.trans kr kq) c1' fun k' hk => (RecAt.lt hO hk).1⟩, by simp only [intOf]; omega⟩
    have : (sumsC N P PU).take (i + 1) = (sumsC N P PU).take i ++ [sumC N ((covOf P r).take 2)] := by
      rw [take_succ' _ _ (by omega)]
      congr 2
      simp only [sumsC, List.getElem_map, hrd]
      rfl
    rw [this]; exact o1
  have hlj' : (j : Int) < ((2 : Nat) : Int) := by omega
  have hx : ((min j 2 : Nat) : Int) ≤ 2 := by omega
  obtain ⟨z0, z1⟩ := cov_lt m1 m2 hlj
  rw [r_lss, decide_eq_true hlj', r_condT, int_at ((hrow.kp (Kp.trans kr kq)).rd iC_len) (by rw [hcl]; exact hlj), r_fa, Nat.zero_add, r_ld (c0 (Kp.trans k3 (Kp.trans kr kq)))]
  have sc := sumC_succ N (L := covOf P r) (i := j) (by rw [hcl]; exact hlj)
  generalize (covOf P r).getD j 0 = z at *
  obtain ⟨Z, rfl⟩ : ∃ Z : Nat, z = Z := ⟨z.toNat, by omega⟩
  have sg := getD_small hn Z
  rw [int_at (hN.kp (Kp.trans k03 (Kp.trans kr kq))) (i := Z) (by omega), r_add _ _ (by omega) (by omega), r_add _ _ (by omega) (by omega)]
  rw [Int.toNat_natCast] at sc
  exact ⟨⟨j + 1, by omega, by go_num, by rw [sc], kq⟩, by simp only [intOf]; omega⟩

/-- Of a list of cells: the sums at the puts. -/
def putS (N : List Int) (P : List C2) : List Int := sumsC N P (putsU P)
theorem fl_small {l : List ByteArray} (hf : flB l = true) : (cellsB l).length ≤ 16 ∧ RegOk l 4 := by
  unfold flB at hf
  have hR := reg_ok (Bool.and_eq_true _ _ ▸ hf).1
  have h1 := cellsP_le l l.length
  have h2 : l.length * (l.getD 0 dB).size ≤ 4 * 4 := Nat.mul_le_mul hR.len.2 hR.wid.2
  exact ⟨by show (cellsP l l.length).length ≤ 16; omega, hR⟩

set_option maxRecDepth 100000 in
theorem Puts_calls {v tv : Value} {l : List ByteArray} (w : World) (hr : RdB w v l) (hs : ∀ s ∈ l, s.size ≤ 9223372036854775807) (hT : TilesAt w tv) :
    Calls Tryd.prog 13 #[v, tv] w fun e w' => Kp w w' ∧ ∃ x, e = .returned (.tuple #[x, .int .i64 (if flB l = true then 0 else 2)]) := by
  refine lift13 ?_
  unfold S13
  refine r_use fok17 (of_calls w hr hs hT) rfl ?_
  rintro _ w1 ⟨k1, ⟨hf, bp, bf, bm, fv, pv, cv, vs, rfl, hP⟩ | ⟨hf, rfl⟩⟩
  · refine ⟨_, rfl, ?_⟩
    obtain ⟨p0, p1, p2, p3⟩ := hP.cells
    rw [r_ex2a, r_ex2b, r_neq, decide_eq_true rfl, Bool.not_true, r_condF, r_nc, r_fa, Nat.zero_add, r_ld p2]
    exact ⟨k1, pv, by rw [if_pos hf]⟩
  · refine ⟨_, rfl, ?_⟩
    rw [r_ex2a, r_ex2b, r_neq, decide_eq_false (by omega), Bool.not_false, r_condT]
    exact ⟨k1, _, by rw [if_neg (by rw [hf]; simp)]⟩

set_option maxRecDepth 100000 in
set_option maxHeartbeats 1000000 in
theorem IsAbove_calls {v tv nv : Value} {l : List ByteArray} {N : List Int} {d : Int} (w : World) (hr : RdB w v l) (hs : ∀ s ∈ l, s.size ≤ 9223372036854775807) (hT : TilesAt w tv) (hf : flB l = true)
    (hN : RdI w nv N) (hl : N.length = (cellsB l).length) (hd : 1 ≤ d ∧ d ≤ 1000) (hn : ∀ n ∈ N, -1 ≤ n ∧ n ≤ 1) :
    Calls Tryd.prog 15 #[v, tv, .agg #[nv, .int .i64 d]] w fun e w' => e = .returned (.tuple #[.bool (decide (0 < N.sum) && !((putS N (cellsB l)).any fun n => decide (0 < n))), .int .i64 0]) ∧ Kp w w' := by
  obtain ⟨na, nc, en, _⟩ := hN.len
  refine lift15 ?_
  unfold S15
  refine r_box fun b5 w1 e5 s5 h5 k1 => ?_
  have h5' : w1.heap[b5]? = some (.cells #[nv, .int .i64 d] 33 (0, 0)) := by rw [en] at h5 ⊢; exact h5
  refine r_use fok17 (of_calls w1 (hr.kp k1) hs (hT.kp k1)) rfl ?_
  rintro _ w2 ⟨k2, ⟨_, bp, bf, bm, fv, pv, cv, vs, rfl, hP⟩ | ⟨hf', rfl⟩⟩
  case inr => rw [hf] at hf'; cases hf'
  refine ⟨_, rfl, ?_⟩
  have k02 := Kp.trans k1 k2
  obtain ⟨hcl, hR⟩ := fl_small hf
  have hpl := putsP_le (cellsB l) (cellsB l).length (Nat.le_refl _)
  have hpl' : (putsU (cellsB l)).length ≤ 32 := by unfold putsU; omega
  rw [r_ex2a, r_ex2b, r_neq, decide_eq_true rfl, Bool.not_true, r_condF, r_ldRow (n := 2) (block_below h5' k2) rfl]
  refine r_use fok41 (weighs_calls w2 hP (hN.kp k02) hl (by omega) (by omega) hd hn fun r h => ⟨(putsU_mem h).1, (putsU_mem h).2.1⟩) rfl ?_
  rintro _ w3 ⟨k3, v', rfl, hO⟩
  refine ⟨_, rfl, ?_⟩
  have hsl : (sumsC N (cellsB l) (putsU (cellsB l))).length ≤ 1000 := by unfold sumsC; rw [List.length_map]; omega
  simp only [r_ex3a, r_ex3b, r_ex3c, r_gdTT, r_gtr, r_pickT]
  by_cases hp : 0 < N.sum
  · rw [decide_eq_true hp]
    simp only [r_gdTT]
    refine r_use fok42 (any_calls w3 (hO.rd iC_len) hsl (pos_pred w3 _)) rfl ?_
    rintro _ w4 ⟨rfl, k4⟩
    refine ⟨_, rfl, ?_⟩
    rw [r_not, r_pickT]
    exact ⟨by rw [Bool.true_and]; rfl, Kp.trans k02 (Kp.trans k3 k4)⟩
  · rw [decide_eq_false hp]
    simp only [r_gdFT, r_gdU, r_pickF]
    exact ⟨by first | rfl | trivial, Kp.trans k02 k3⟩

set_option maxRecDepth 100000 in
set_option maxHeartbeats 1000000 in
theorem IsWhole_calls {v tv nv : Value} {l : List ByteArray} {N : List Int} {d : Int} (w : World) (hr : RdB w v l) (hs : ∀ s ∈ l, s.size ≤ 9223372036854775807) (hT : TilesAt w tv) (hf : flB l = true)
    (hN : RdI w nv N) (hl : N.length = (cellsB l).length) (hd : 1 ≤ d ∧ d ≤ 1000) (hn : ∀ n ∈ N, -1 ≤ n ∧ n ≤ 1) :
    Calls Tryd.prog 16 #[v, tv, .agg #[nv, .int .i64 d]] w fun e w' => e = .returned (.tuple #[.bool (!decide (N.sum.tmod d = 0) && !((putS N (cellsB l)).any fun n => !decide (n.tmod d = 0))), .int .i64 0]) ∧ Kp w w' := by
  obtain ⟨na, nc, en, _⟩ := hN.len
  refine lift16 ?_
  unfold S16
  refine r_box fun b5 w1 e5 s5 h5 k1 => ?_
  have h5' : w1.heap[b5]? = some (.cells #[nv, .int .i64 d] 33 (0, 0)) := by rw [en] at h5 ⊢; exact h5
  refine r_use fok17 (of_calls w1 (hr.kp k1) hs (hT.kp k1)) rfl ?_
  rintro _ w2 ⟨k2, ⟨_, bp, bf, bm, fv, pv, cv, vs, rfl, hP⟩ | ⟨hf', rfl⟩⟩
  case inr => rw [hf] at hf'; cases hf'
  refine ⟨_, rfl, ?_⟩
  have k02 := Kp.trans k1 k2
  obtain ⟨hcl, hR⟩ := fl_small hf
  have hpl := putsP_le (cellsB l) (cellsB l).length (Nat.le_refl _)
  have hpl' : (putsU (cellsB l)).length ≤ 32 := by unfold putsU; omega
  rw [r_ex2a, r_ex2b, r_neq, decide_eq_true rfl, Bool.not_true, r_condF, r_ldRow (n := 2) (block_below h5' k2) rfl]
  refine r_use fok41 (weighs_calls w2 hP (hN.kp k02) hl (by omega) (by omega) hd hn fun r h => ⟨(putsU_mem h).1, (putsU_mem h).2.1⟩) rfl ?_
  rintro _ w3 ⟨k3, v', rfl, hO⟩
  refine ⟨_, rfl, ?_⟩
  have hsl : (sumsC N (cellsB l) (putsU (cellsB l))).length ≤ 1000 := by unfold sumsC; rw [List.length_map]; omega
  have c1 : w3.cell? ⟨b5, 1, none⟩ = some (.int .i64 d) := by rw [cell_row (block_below h5' (Kp.trans k2 k3))]; rfl
  have hrem : ∀ K : Value → Prop, binQ Tryd.prog w3 .rem 3 false (.int .i64 N.sum) (.int .i64 d) K = K (.int .i64 (N.sum.tmod d)) := fun K => r_tmod _ _ (by omega)
  simp only [r_ex3a, r_ex3b, r_ex3c, r_gdTT, r_fa, Nat.zero_add, r_ld c1, hrem, r_neq, r_pickT]
  by_cases hp : N.sum.tmod d = 0
  · rw [decide_eq_true hp]
    simp only [Bool.not_true, r_gdFT, r_gdU, r_pickF]
    exact ⟨by first | rfl | trivial, Kp.trans k02 k3⟩
  · rw [decide_eq_false hp]
    simp only [Bool.not_false, r_gdTT]
    refine r_use fok42 (any_calls w3 (hO.rd iC_len) hsl (mod_pred w3 _ c1 (by omega))) rfl ?_
    rintro _ w4 ⟨rfl, k4⟩
    refine ⟨_, rfl, ?_⟩
    rw [r_not, r_pickT]
    exact ⟨by rw [Bool.true_and]; rfl, Kp.trans k02 (Kp.trans k3 k4)⟩

end Go.Proofs.YtbekeccfjmoonaaDoor
