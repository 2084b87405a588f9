/- Texts of my own, merged by program: Nd Ne. -/
import Derived.Test.YtbekeccfjmoonaaDoorM25
import Derived.Test.YtbekeccfjmoonaaDoorM15
set_option linter.all false
/- Contract: Kasteleyn. -/
namespace Go.Proofs.YtbekeccfjmoonaaDoor
open Go.Lf Go.RowKit Go.Ht Go.Dt

set_option maxRecDepth 100000 in
theorem index2_calls {v : Value} {L : List C2} {c : C2} (w : World) (hr : RdC w v L) (hl : L.length ≤ 1000) (hc : c ∈ L) : Calls Tryd.prog 27 #[v, cV c] w fun e w' => Kp w w' ∧ ∃ p : Nat, e = .returned (.int .i64 p) ∧ p < L.length ∧ L.getD p (0, 0) = c := by
  obtain ⟨a, cap, ev, _⟩ := hr.len
  have lnv : ∀ K : Value → Prop, ln1 v K = K (.int .i64 L.length) := fun K => by rw [ev]; rfl
  refine lift27 ?_
  unfold S27
  refine r_box fun b3 w1 e3 s3 h3 k1 => ?_
  have h3' : w1.heap[b3]? = some (.cells #[.int .i64 c.1, .int .i64 c.2] 43 (0, 0)) := h3
  rw [lnv]
  unfold S27L0
  refine ⟨fun t8 wr => ∃ i : Nat, i ≤ L.length ∧ t8 = .int .i64 i ∧ (∀ j, j < i → L.getD j (0, 0) ≠ c) ∧ Kp w1 wr, fun t8 _ => L.length - (intOf t8).toNat, ⟨0, by omega, rfl, fun j hj => by omega, Kp.refl _⟩, ?_⟩
  rintro _ _ wr ⟨i, hi, rfl, hall, kr⟩
  by_cases hlt : i < L.length
  case neg =>
    obtain ⟨j, hj, rfl⟩ := List.getElem_of_mem hc
    exact absurd (getD_lt _ _ _ hj) (hall j (by omega))
  have hlt' : (i : Int) < (L.length : Int) := by omega
  rw [r_lss, decide_eq_true hlt', r_condT]
  refine r_drew fun w2 k2 _ => ?_
  have k12 := Kp.trans kr k2
  rw [c_box (block_below h3' k12), cell_at (hr.kp (Kp.trans k1 k12)) hlt, r_eq43]
  by_cases q : c = L.getD i (0, 0)
  · rw [decide_eq_true q, r_condT]
    exact ⟨Kp.trans k1 k12, i, rfl, hlt, q.symm⟩
  · rw [decide_eq_false q, r_condF, r_add _ _ (by omega) (by omega)]
    refine ⟨⟨i + 1, by omega, by go_num, fun j hj => ?_, k12⟩, by simp only [intOf]; omega⟩
    by_cases e : j = i
    · rw [e]; exact fun e => q e.symm
    · exact hall j (by omega)

def bkP (P : List C2) : List C2 := P.filter blackC
def whP (P : List C2) : List C2 := P.filter fun c => !blackC c
/-- What the program puts for two neighbours, the black one first. -/
def kasV (b c : C2) : Int := if c.1 = b.1 ∧ ¬ b.1 % 2 = 0 then 2147483646 else 1
def entT (N wh : List C2) (b : C2) (i : Nat) : List Int := wh.map fun c => if c ∈ N.take i then kasV b c else 0
def kasM (l : List ByteArray) (wh bl : List C2) : List (List Int) := bl.map fun b => entT (nbL l b) wh b (nbL l b).length
theorem entT_length (N wh : List C2) (b : C2) (i : Nat) : (entT N wh b i).length = wh.length := by simp [entT]
theorem entT_zero (N wh : List C2) (b : C2) : entT N wh b 0 = List.replicate wh.length 0 := by
  unfold entT
  refine List.ext_getElem (by simp) fun i h1 h2 => ?_
  simp
theorem entT_succ {N wh : List C2} {b : C2} {i p : Nat} (hi : i < N.length) (hp : p < wh.length) (hw : wh.Pairwise (· ≠ ·)) (he : wh.getD p (0, 0) = N.getD i (0, 0)) : entT N wh b (i + 1) = (entT N wh b i).set p (kasV b (N.getD i (0, 0))) := by
  have ht : N.take (i + 1) = N.take i ++ [N.getD i (0, 0)] := by rw [take_succ' _ _ hi, ← getD_lt N i (0, 0) hi]
  rw [← he] at ht ⊢
  rw [getD_lt _ _ _ hp] at ht ⊢
  unfold entT
  refine List.ext_getElem (by simp) fun j h1 h2 => ?_
  have hj : j < wh.length := by simpa using h1
  rw [List.getElem_set, List.getElem_map, List.getElem_map]
  show (if wh[j] ∈ N.take (i + 1) then kasV b wh[j] else 0) = _
  have hm0 : wh[j] ∈ N.take (i + 1) ↔ wh[j] ∈ N.take i ++ [wh[p]] := by rw [ht]
  by_cases e : p = j
  · subst e
    rw [if_pos rfl, if_pos (hm0.2 (by simp))]
  · rw [if_neg e]
    have hne : wh[j] ≠ wh[p] := fun h => by
      rcases Nat.lt_or_gt_of_ne e with h' | h'
      · exact List.pairwise_iff_getElem.1 hw p j hp hj h' h.symm
      · exact List.pairwise_iff_getElem.1 hw j p hj hp h' h
    by_cases hm : wh[j] ∈ N.take i
    · rw [if_pos hm, if_pos (hm0.2 (by simp [hm]))]
    · rw [if_neg hm, if_neg (fun h => by have := hm0.1 h; simp [hm, hne] at this)]

set_option maxRecDepth 100000 in
set_option maxHeartbeats 2000000 in
theorem r10_2 {l : List ByteArray} {t7 t10 t55 t58 : Value} {b7 i : Nat} {B : Nat} {wh : List C2} {b : C2} {R : List (List Int)} {w0 w1 : World} {next : Value → Value → World → Prop}
    (hwh : RdC w0 t7 wh) (hwl : wh.length ≤ 1000) (hwn : wh.Pairwise (· ≠ ·)) (hb : 0 ≤ b.1 ∧ b.1 ≤ 1000) (hsub : ∀ c ∈ nbL l b, c ∈ wh ∧ 0 ≤ c.1 ∧ c.1 ≤ 1000)
    (hM : IMat B w0 t10 R) (hRl : R.length + 1 ≤ 1000) (hB : B ≤ w0.heap.size) (k1 : Kp w0 w1) (h12 : w1.heap[b7]? = some (.cells #[.int .i64 b.1, .int .i64 b.2] 43 (0, 0)))
    (hrow : IntsAt w0.heap.size w1 t55 (List.replicate wh.length 0)) (hN : ClAt w0.heap.size w1 t58 (nbL l b)) (hNl : (nbL l b).length ≤ 1000) (hi : i ≤ 1000)
    (hnext : ∀ v w', IMat B w' v (R ++ [entT (nbL l b) wh b (nbL l b).length]) → Chg (fun q => t10.ownBlock = some q) w0 w' → next v (.int .i64 ((i : Int) + 1)) w') :
    S10L2 t7 t10 (ptrV b7) (.int .i64 i) t55 t58 (.int .i64 (nbL l b).length) next w1 := by
  generalize nbL l b = N at *
  have hown0 : ∃ g c, t55 = .slice (some ⟨g, 0, none⟩) wh.length c ∨ wh.length = 0 := by
    obtain ⟨a, c, e, _⟩ := hrow.len
    by_cases h : wh.length = 0
    · exact ⟨0, 0, .inr h⟩
    · obtain ⟨g, cap, e, _⟩ := IntsAt.put hrow (q := 0) (by simp; omega) 0
      exact ⟨g, cap, .inl (by rw [e]; simp)⟩
  unfold S10L2
  refine ⟨fun t wr => ∃ j : Nat, j ≤ N.length ∧ t = .int .i64 j ∧ IntsAt w0.heap.size wr t55 (entT N wh b j) ∧ Kp w0 wr ∧ wr.heap[b7]? = some (.cells #[.int .i64 b.1, .int .i64 b.2] 43 (0, 0)) ∧ ClAt w0.heap.size wr t58 N, fun t _ => N.length - (intOf t).toNat,
    ⟨0, by omega, rfl, by rw [entT_zero]; exact hrow, k1, h12, hN⟩, ?_⟩
  rintro _ _ wr ⟨j, hj, rfl, hI, kr, g12, hNr⟩
  have hsz := kr.size
  by_cases hlt : j < N.length
  case neg =>
    have hlt' : ¬ (j : Int) < (N.length : Int) := by omega
    obtain rfl : j = N.length := by omega
    rw [r_lss, decide_eq_false hlt', r_condF]
    obtain ⟨a, c, e, _⟩ := hI.len
    rw [e] at hI ⊢
    refine r_pushMat hM kr hI (Nat.le_refl _) (by omega) hB fun v' w' m1 c1 _ => ?_
    rw [r_add _ _ (by omega) (by omega)]
    exact hnext v' w' m1 ((Chg.of_kp kr).trans c1)
  have hlt' : (j : Int) < (N.length : Int) := by omega
  rw [r_lss, decide_eq_true hlt', r_condT, cell_at (RecAt.rd cC_len hNr) hlt]
  refine r_box fun b15 w2 e15 s15 h15 k2 => ?_
  have h15' : w2.heap[b15]? = some (.cells #[.int .i64 0, .int .i64 0] 43 (0, 0)) := h15
  have hs := hsub _ (getD_mem (d := (0, 0)) hlt)
  have hsucc := fun p hp he => entT_succ (N := N) (wh := wh) (b := b) (p := p) hlt hp hwn he
  generalize N.getD j (0, 0) = c at *
  refine st43 h15' fun w3 c3 s3 h153 => ?_
  have kr3 : Kp wr w3 := Kp.of_chg k2 c3 fun q e => by omega
  have k03 := Kp.trans kr kr3
  obtain ⟨p0, p1⟩ := c_cells (p := c) h153
  obtain ⟨q0, q1⟩ := c_cells (p := b) (block_below g12 kr3)
  rw [r_fa, Nat.zero_add, r_ld p0, r_fa, Nat.zero_add, r_ld q0, r_eql]
  have key : (
      ldN 2 w3 (ptrV b15) fun t77_2 =>
      callW Tryd.prog (.func (.func 27) #[] #[]) [t7, t77_2] w3 fun t78_2 w =>
      iaS 1 t55 t78_2 fun t80_2 =>
      stW Tryd.prog 3 t80_2 (.int .i64 (kasV b c)) w fun w =>
      binQ Tryd.prog w .add 3 true (.int .i64 j) (.int .i64 1) fun t81_2 =>
      (∃ j : Nat, j ≤ N.length ∧ t81_2 = .int .i64 j ∧ IntsAt w0.heap.size w t55 (entT N wh b j) ∧ Kp w0 w ∧ w.heap[b7]? = some (.cells #[.int .i64 b.1, .int .i64 b.2] 43 (0, 0)) ∧ ClAt w0.heap.size w t58 N) ∧ N.length - (intOf t81_2).toNat < N.length - (intOf (.int .i64 (j : Int))).toNat) := by
    rw [c_box h153]
    refine r_use fok27 (index2_calls (c := c) w3 (hwh.kp k03) hwl hs.1) rfl ?_
    rintro _ w4 ⟨k4, p, rfl, hp, he⟩
    refine ⟨_, rfl, ?_⟩
    have kr4 := Kp.trans kr3 k4
    have hI4 := hI.kp kr4
    obtain ⟨g, cap, ev, hbg, hcell, hfr, hput⟩ := IntsAt.put hI4 (q := p) (by rw [entT_length]; exact hp) (kasV b c)
    have hpp : (p : Int).toNat = p := by omega
    rw [entT_length] at ev
    have e55 := ev
    rw [ev, r_iaS _ _ _ _ _ _ _ (by omega) (by omega), hpp, Nat.mul_one, Nat.zero_add, st3 hcell hfr, r_add _ _ (by omega) (by omega)]
    have hch : Chg (fun k => k = g) w4 (w4.setCell ⟨g, p, none⟩ (.int .i64 (kasV b c))) := Chg.setCell _ _ rfl
    rw [ev] at hput
    have hown : t55.ownBlock = some g := by rw [e55]; rfl
    refine ⟨⟨j + 1, by omega, by go_num, by rw [hsucc p hp he]; exact hput, Kp.of_chg (Kp.trans kr kr4) hch fun k e => by omega, hch.at (block_below g12 kr4) fun e => ?_, RecAt.chg (RecAt.kp hNr kr4) hch fun k hk e => rec_ne hI4 (RecAt.kp hNr kr4) (by decide) k (e ▸ hown) hk⟩, by simp only [intOf]; omega⟩
    obtain ⟨cur, h3⟩ := own_type hI4 hown
    have h4 := block_below g12 kr4
    rw [e, h3] at h4
    injection h4 with h4
    injection h4 with _ h4 _
    exact absurd h4 (by decide)
  unfold kasV at key
  by_cases e1 : c.1 = b.1
  · simp only [decide_eq_true e1, r_gdTT, r_pickT, r_fa, Nat.zero_add]
    rw [r_ld q0, r_rem _ _ (by omega) (by omega), r_neq]
    by_cases e2 : b.1 % 2 = 0
    · rw [if_neg (by omega)] at key
      rw [decide_eq_true e2, Bool.not_true]
      simp only [Join, r_condF]
      exact key
    · rw [if_pos ⟨e1, e2⟩] at key
      rw [decide_eq_false e2, Bool.not_false]
      simp only [Join, r_condT]
      exact key
  · rw [if_neg (fun h => e1 h.1)] at key
    simp only [decide_eq_false e1, r_gdFT, r_pickF, Join, r_condF]
    exact key

set_option maxRecDepth 100000 in
set_option maxHeartbeats 2000000 in
theorem r10_1 {v t6 t7 : Value} {l : List ByteArray} {b4 : Nat} {bl wh : List C2} {w1 : World} {Q : Ending → World → Prop} {D : Int} (hf : Wf w1) (hr : RdB w1 v l) (hR : RegOk l 8) (h4 : w1.heap[b4]? = some (.cells #[.int .i64 (l.getD 0 dB).size, .int .i64 l.length, v] 63 (0, 0)))
    (hbl : RdC w1 t6 bl) (hwh : RdC w1 t7 wh) (hbl1 : bl.length ≤ 64) (hwl : bl.length = wh.length) (hwn : wh.Pairwise (· ≠ ·)) (hbs : ∀ b ∈ bl, 0 ≤ b.1 ∧ b.1 ≤ 1000 ∧ 0 ≤ b.2 ∧ b.2 ≤ 1000) (hsub : ∀ b ∈ bl, ∀ c ∈ nbL l b, c ∈ wh ∧ 0 ≤ c.1 ∧ c.1 ≤ 1000)
    (hD : Mo (det bl.length (hat (kasM l wh bl))) D) (hD0 : -1000000 ≤ D) (hD1 : D ≤ 1000000) (hQ : ∀ w', Kp w1 w' → Q (.returned (.tuple #[.int .i64 D, .int .i64 0])) w') :
    S10L1 (ptrV b4) t6 t7 (.int .i64 bl.length) Q w1 := by
  unfold S10L1
  refine ⟨fun t10 t49 wr => ∃ i : Nat, i ≤ bl.length ∧ t49 = .int .i64 i ∧ IMat w1.heap.size wr t10 (kasM l wh (bl.take i)) ∧ Kp w1 wr, fun _ t49 _ => bl.length - (intOf t49).toNat, ⟨0, by omega, rfl, by simpa [kasM] using IMat.nil, Kp.refl _⟩, ?_⟩
  rintro _ t10 _ wr ⟨i, hi, rfl, hM, kr⟩
  have hsz := kr.size
  by_cases hlt : i < bl.length
  case neg =>
    have hlt' : ¬ (i : Int) < (bl.length : Int) := by omega
    obtain rfl : i = bl.length := by omega
    rw [r_lss, decide_eq_false hlt', r_condF]
    rw [List.take_length] at hM
    have hs : Sized bl.length bl.length (kasM l wh bl) := by
      refine ⟨by simp [kasM], fun i hi => ?_⟩
      rw [getD_lt _ _ _ (by simpa [kasM] using hi)]
      simp [kasM, entT, hwl]
    have hg : Rng bl.length (kasM l wh bl) := fun a b ha hb => by
      unfold hat
      rw [getD_lt (kasM l wh bl) a [] (by simpa [kasM] using ha)]
      simp only [kasM, List.getElem_map]
      rw [getD_lt _ _ _ (by rw [entT_length]; omega)]
      unfold entT
      rw [List.getElem_map]
      unfold kasV
      split <;> (try split) <;> omega
    refine r_use fok28 (det28_calls (base := w1.heap.size) wr hM hs (by omega) hg hD hD0 hD1 hsz) rfl ?_
    rintro _ w2 ⟨rfl, k2⟩
    exact ⟨_, rfl, hQ w2 (Below.trans kr k2)⟩
  have hlt' : (i : Int) < (bl.length : Int) := by omega
  rw [r_lss, decide_eq_true hlt', r_condT, cell_at (hbl.kp kr) hlt]
  refine r_box fun b12 w2 e12 s12 h12 k2 => ?_
  have h12' : w2.heap[b12]? = some (.cells #[.int .i64 0, .int .i64 0] 43 (0, 0)) := h12
  have hbm : bl.getD i (0, 0) ∈ bl := getD_mem hlt
  have hb := hbs _ hbm
  have hsb := hsub _ hbm
  have htk : kasM l wh (bl.take (i + 1)) = kasM l wh (bl.take i) ++ [entT (nbL l (bl.getD i (0, 0))) wh (bl.getD i (0, 0)) (nbL l (bl.getD i (0, 0))).length] := by
    unfold kasM
    rw [take_succ' _ _ hlt, List.map_append, ← getD_lt bl i (0, 0) hlt]
    rfl
  generalize bl.getD i (0, 0) = b at *
  refine st43 h12' fun w3 c3 s3 h123 => ?_
  have kr3 : Kp wr w3 := Kp.of_chg k2 c3 fun q e => by omega
  have k13 := Kp.trans kr kr3
  have hsz3 := kr3.size
  obtain ⟨wa, wc, ewh, _⟩ := hwh.len
  have lnw : ∀ K : Value → Prop, ln1 t7 K = K (.int .i64 wh.length) := fun K => by rw [ewh]; rfl
  rw [lnw]
  refine mk31' (by omega) fun t55 w4 hrow k4 hown => ?_
  rw [rg_box (block_below h4 (Kp.trans k13 k4)), c_box (block_below h123 k4)]
  refine r_use fok26 (nb_calls (c := b) w4 (hf.kp (Kp.trans k13 k4)) (hr.kp (Kp.trans k13 k4)) hR hb) rfl ?_
  rintro _ w5 ⟨k5, t58, rfl, hN⟩
  refine ⟨_, rfl, ?_⟩
  have hNl := nbP_le l b 4
  have hsz4 := k4.size
  have hsz5 := k5.size
  obtain ⟨na, nc, en, _⟩ := hN.len
  have lnn : ∀ K : Value → Prop, ln1 t58 K = K (.int .i64 (nbL l b).length) := fun K => by rw [en]; rfl
  rw [lnn]
  have hkl : (kasM l wh (bl.take i)).length = i := by simp [kasM]; omega
  refine r10_2 (B := w1.heap.size) (w0 := w3) (hwh.kp k13) (by omega) hwn ⟨hb.1, hb.2.1⟩ hsb (hM.kp kr3) (by omega) (by omega) (Kp.trans k4 k5) (block_below h123 (Kp.trans k4 k5)) (hrow.kp k5) (RecAt.down hN hsz4) (Nat.le_trans hNl (by omega)) (by omega) fun v' w' m1 c1 => ?_
  · refine ⟨⟨i + 1, by omega, by go_num, by rw [htk]; exact m1, ?_⟩, by simp only [intOf]; omega⟩
    exact Kp.of_chg k13 c1 fun q hq => by
      obtain ⟨vs, h1, _⟩ := hM
      exact (h1.lt hq).1

end Go.Proofs.YtbekeccfjmoonaaDoor

/- Contract: Kasteleyn, whole. -/
namespace Go.Proofs.YtbekeccfjmoonaaDoor
open Go.Lf Go.RowKit Go.Ht Go.Dt

theorem bkP_snoc (P : List C2) (c : C2) : bkP (P ++ [c]) = bkP P ++ if blackC c = true then [c] else [] := by
  unfold bkP
  rw [List.filter_append]
  cases h : blackC c <;> simp [h]
theorem whP_snoc (P : List C2) (c : C2) : whP (P ++ [c]) = whP P ++ if blackC c = true then [] else [c] := by
  unfold whP
  rw [List.filter_append]
  cases h : blackC c <;> simp [h]
theorem bkP_le (P : List C2) : (bkP P).length ≤ P.length := List.length_filter_le _ _
theorem whP_le (P : List C2) : (whP P).length ≤ P.length := List.length_filter_le _ _

set_option maxRecDepth 100000 in
set_option maxHeartbeats 2000000 in
/-- What Kasteleyn's matrix gives. -/
theorem kast_calls {v : Value} {l : List ByteArray} {D : Int} (w : World) (hf : Wf w) (hr : RdB w v l) (hs : ∀ s ∈ l, s.size ≤ 9223372036854775807) (ho : ofB 8 l = true)
    (hD : (bkP (cellsB l)).length = (whP (cellsB l)).length → Mo (det (bkP (cellsB l)).length (hat (kasM l (whP (cellsB l)) (bkP (cellsB l))))) D) (hD2 : (bkP (cellsB l)).length ≠ (whP (cellsB l)).length → D = 0) (hD0 : -1000000 ≤ D) (hD1 : D ≤ 1000000) :
    Calls Tryd.prog 10 #[v] w fun e w' => Kp w w' ∧ e = .returned (.tuple #[.int .i64 D, .int .i64 0]) := by
  obtain ⟨a, cap, ev, _⟩ := hr.len
  refine lift10 ?_
  unfold S10
  refine r_use fok21 (Of_calls w hr hs) rfl ?_
  rintro _ w1 ⟨rfl, k1⟩
  refine ⟨_, rfl, ?_⟩
  rw [r_ex2a, r_ex2b]
  refine r_box fun b4 w2 e2 s2 h2 k2 => ?_
  have h2' : w2.heap[b4]? = some (.cells #[.int .i64 0, .int .i64 0, .slice none 0 0] 63 (0, 0)) := h2
  have sz1 := k1.size
  have e1 : regV v l = rgV (((l.getD 0 dB).size : Nat) : Int) l.length (.slice a l.length cap) := by unfold regV; rw [ho, ev]; rfl
  have hR := reg_ok ho
  rw [e1]
  refine st63 h2' fun w3 c3 s3 h3 => ?_
  have k03 : Kp w w3 := Kp.of_chg (Kp.trans k1 k2) c3 fun q e => by omega
  rw [ho, r_not, Bool.not_true, r_condF, rg_box h3]
  have hr3 := hr.kp k03
  refine r_use fok24 (Cells_calls w3 hr3 hR) (by rw [ev]; rfl) ?_
  rintro _ w4 ⟨k4, t25, rfl, hC⟩
  refine ⟨_, rfl, ?_⟩
  have sz4 := k4.size
  obtain ⟨ca, cc, ec, _⟩ := hC.len
  have lnc : ∀ K : Value → Prop, ln1 t25 K = K (.int .i64 (cellsB l).length) := fun K => by rw [ec]; rfl
  rw [lnc]
  have hcs : ∀ c ∈ cellsB l, 0 ≤ c.1 ∧ c.1 ≤ 1000 ∧ 0 ≤ c.2 ∧ c.2 ≤ 1000 := fun c hc => by
    have := has_small hR (cellsB_mem.1 hc)
    omega
  have hcl : (cellsB l).length ≤ 64 := by
    have h1 := cellsP_le l l.length
    have h2 : l.length * (l.getD 0 dB).size ≤ 8 * 8 := Nat.mul_le_mul hR.len.2 hR.wid.2
    unfold cellsB
    omega
  unfold S10L0
  refine ⟨fun t6 t7 t27 wr => ∃ i : Nat, i ≤ (cellsB l).length ∧ t27 = .int .i64 i ∧ ClAt w4.heap.size wr t6 (bkP ((cellsB l).take i)) ∧ ClAt w4.heap.size wr t7 (whP ((cellsB l).take i)) ∧ (∀ k, t6.ownBlock = some k → t7.ownBlock ≠ some k) ∧ Kp w4 wr, fun _ _ t27 _ => (cellsB l).length - (intOf t27).toNat,
    ⟨0, by omega, rfl, RecAt.nil, RecAt.nil, fun k hk => (by cases hk), Kp.refl _⟩, ?_⟩
  rintro _ t6 t7 _ wr ⟨i, hi, rfl, h6, h7, hne, kr⟩
  have k4r := Kp.trans k4 kr
  have szr := kr.size
  by_cases hlt : i < (cellsB l).length
  case neg =>
    have hlt' : ¬ (i : Int) < ((cellsB l).length : Int) := by omega
    obtain rfl : i = (cellsB l).length := by omega
    rw [r_lss, decide_eq_false hlt', r_condF]
    rw [List.take_length] at h6 h7
    obtain ⟨a6, c6, e6, _⟩ := h6.len
    obtain ⟨a7, c7, e7, _⟩ := h7.len
    have ln6 : ∀ K : Value → Prop, ln1 t6 K = K (.int .i64 (bkP (cellsB l)).length) := fun K => by rw [e6]; rfl
    have ln7 : ∀ K : Value → Prop, ln1 t7 K = K (.int .i64 (whP (cellsB l)).length) := fun K => by rw [e7]; rfl
    rw [ln6, ln7, r_neq]
    by_cases heq : (bkP (cellsB l)).length = (whP (cellsB l)).length
    · rw [decide_eq_true (show ((bkP (cellsB l)).length : Int) = ((whP (cellsB l)).length : Int) by omega), Bool.not_true, r_condF, ln6]
      have hb6 := bkP_le (cellsB l)
      refine r10_1 (hf.kp (Kp.trans k03 k4r)) (hr3.kp k4r) hR (by rw [ev]; exact block_below h3 k4r) (h6.rd cC_len) (h7.rd cC_len) (by omega) heq ((cellsB_nodup l).filter _) (fun b hb => hcs b (List.mem_filter.1 hb).1) (fun b hb c hc => ?_) (hD heq) hD0 hD1 fun w' kw => ⟨Kp.trans (Kp.trans k03 k4r) kw, rfl⟩
      obtain ⟨hc1, hc2⟩ := nbL_mem.1 hc
      have hcm := cellsB_mem.2 hc1
      have hbb := (List.mem_filter.1 hb).2
      refine ⟨List.mem_filter.2 ⟨hcm, ?_⟩, (hcs c hcm).1, (hcs c hcm).2.1⟩
      have := hc2.colour
      rw [hbb] at this
      rw [← this]
    · rw [decide_eq_false (show ¬ ((bkP (cellsB l)).length : Int) = ((whP (cellsB l)).length : Int) by omega), Bool.not_false, r_condT]
      exact ⟨Kp.trans k03 k4r, by rw [hD2 heq]⟩
  have hlt' : (i : Int) < ((cellsB l).length : Int) := by omega
  rw [r_lss, decide_eq_true hlt', r_condT, cell_at ((hC.rd cC_len).kp kr) hlt]
  refine r_box fun b9 w5 e9 s9 h9 k5 => ?_
  have h9' : w5.heap[b9]? = some (.cells #[.int .i64 0, .int .i64 0] 43 (0, 0)) := h9
  have hcm := hcs _ (getD_mem (d := (0, 0)) hlt)
  have htk : (cellsB l).take (i + 1) = (cellsB l).take i ++ [(cellsB l).getD i (0, 0)] := by rw [take_succ' _ _ hlt, ← getD_lt (cellsB l) i (0, 0) hlt]
  have hbs := bkP_snoc ((cellsB l).take i) ((cellsB l).getD i (0, 0))
  have hws := whP_snoc ((cellsB l).take i) ((cellsB l).getD i (0, 0))
  rw [← htk] at hbs hws
  have hb1 := bkP_le ((cellsB l).take i)
  have hw1 := whP_le ((cellsB l).take i)
  rw [List.length_take] at hb1 hw1
  generalize (cellsB l).getD i (0, 0) = c at *
  refine st43 h9' fun w6 c6 s6 h96 => ?_
  have kr6 : Kp wr w6 := Kp.of_chg k5 c6 fun q e => by omega
  rw [c_box h96]
  refine r_use fok25 (black_calls (c := c) w6 hcm.1 hcm.2.2.1 hcm.2.1 hcm.2.2.2) rfl ?_
  rintro _ w7 ⟨rfl, k7⟩
  refine ⟨_, rfl, ?_⟩
  have kr7 := Kp.trans kr6 k7
  have k47 := Kp.trans kr kr7
  have sz7 := k47.size
  have h96' := block_below h96 k7
  have g6 := RecAt.kp h6 kr7
  have g7 := RecAt.kp h7 kr7
  cases hb : blackC c with
  | true =>
    rw [hb, if_pos rfl] at hbs
    rw [hb, if_pos rfl, List.append_nil] at hws
    simp only [Join, r_condT]
    rw [c_box h96']
    refine r_pushRec (x := c) (ty := 39) slt39 cC_len rfl (bs39 _ _) (cC_one _) (by omega) g6 (by omega) k47.size fun v' w' o1 c1 hown => ?_
    rw [r_add _ _ (by omega) (by omega)]
    refine ⟨⟨i + 1, by omega, by go_num, by rw [hbs]; exact o1, by rw [hws]; exact RecAt.chg g7 c1 fun k hk e => hne k e hk, fun k hk => ?_, Kp.of_chg k47 c1 fun k hk => (RecAt.lt g6 hk).1⟩, by simp only [intOf]; omega⟩
    rcases hown k hk with h | h
    · exact hne k h
    · intro hk7
      have := (RecAt.lt g7 hk7).2
      omega
  | false =>
    rw [hb] at hbs hws
    simp only [Bool.false_eq_true, if_false, List.append_nil] at hbs hws
    simp only [Join, r_condF]
    rw [c_box h96']
    refine r_pushRec (x := c) (ty := 39) slt39 cC_len rfl (bs39 _ _) (cC_one _) (by omega) g7 (by omega) k47.size fun v' w' o1 c1 hown => ?_
    rw [r_add _ _ (by omega) (by omega)]
    refine ⟨⟨i + 1, by omega, by go_num, by rw [hbs]; exact RecAt.chg g6 c1 fun k hk e => hne k hk e, by rw [hws]; exact o1, fun k hk hk' => ?_, Kp.of_chg k47 c1 fun k hk => (RecAt.lt g7 hk).1⟩, by simp only [intOf]; omega⟩
    rcases hown k hk' with h | h
    · exact hne k hk h
    · have := (RecAt.lt g6 hk).2
      omega

end Go.Proofs.YtbekeccfjmoonaaDoor
