/- Contract: Network of the program. -/
import Derived.Test.YtkdcldbedbagjaaDoorMd
import Derived.Test.YtkdcldbedbagjaaDoorNa
set_option linter.all false
namespace Go.Proofs.YtkdcldbedbagjaaDoor
open Go.Lf Go.RowKit Go.Dt

def insS (l : T3) : List T3 → List T3
  | [] => [l]
  | a :: t => if lvLt a l = true then a :: insS l t else l :: a :: t
def isortS : List T3 → List T3
  | [] => []
  | a :: t => insS a (isortS t)
theorem insS_perm (l : T3) : ∀ t : List T3, (insS l t).Perm (l :: t)
  | [] => List.Perm.refl _
  | a :: t => by
    unfold insS
    split
    · exact ((insS_perm l t).cons a).trans (List.Perm.swap l a t)
    · exact List.Perm.refl _
theorem isortS_perm : ∀ t : List T3, (isortS t).Perm t
  | [] => List.Perm.refl _
  | a :: t => (insS_perm a _).trans ((isortS_perm t).cons a)
theorem insS_sorted (l : T3) : ∀ t : List T3, LvSorted t → LvSorted (insS l t)
  | [], _ => List.pairwise_singleton _ _
  | a :: t, h => by
    unfold insS
    have h' := List.pairwise_cons.1 h
    split
    · rename_i hal
      refine List.pairwise_cons.2 ⟨fun b hb => ?_, insS_sorted l t h'.2⟩
      rcases List.mem_cons.1 ((insS_perm l t).subset hb) with e | e
      · rw [e, lvLt_not]; rw [lvLt_iff] at hal; omega
      · exact h'.1 b e
    · rename_i hal
      have hal : lvLt a l = false := by simpa using hal
      refine List.pairwise_cons.2 ⟨fun b hb => ?_, h⟩
      rcases List.mem_cons.1 hb with e | e
      · rw [e]; exact hal
      · have := h'.1 b e
        rw [lvLt_not] at this hal ⊢
        omega
theorem isortS_sorted : ∀ t : List T3, LvSorted (isortS t)
  | [] => List.Pairwise.nil
  | a :: t => insS_sorted a _ (isortS_sorted t)
/-- The levels of squares. -/
def lvsL (L : List T3) : List T3 := mergeL (isortS (sidesL L))
theorem mem_sides {L : List T3} {l : T3} : l ∈ sidesL L ↔ ∃ s ∈ L, l = (s.2.1, s.1, s.1 + s.2.2) ∨ l = (s.2.1 + s.2.2, s.1, s.1 + s.2.2) := by
  unfold sidesL
  rw [List.mem_flatMap]
  simp
theorem sides_long {L : List T3} (h : ∀ s ∈ L, 1 ≤ s.2.2) : ∀ l ∈ sidesL L, l.2.1 < l.2.2 := fun l hl => by
  obtain ⟨s, hs, e⟩ := mem_sides.1 hl
  have := h s hs
  rcases e with rfl | rfl <;> dsimp only <;> omega
theorem lvs_lv {L : List T3} (h : ∀ s ∈ L, 1 ≤ s.2.2) : IsLv (sidesL L) (lvsL L) := mergeL_lv (isortS_sorted _) (sides_long h) (isortS_perm _)
theorem lvs_eq {L S : List T3} (h : ∀ s ∈ L, 1 ≤ s.2.2) (hs : LvSorted S) (hp : S.Perm (sidesL L)) : mergeL S = lvsL L := lv_unique (mergeL_lv hs (sides_long h) hp) (lvs_lv h)
theorem lvs_has {L : List T3} (h : ∀ s ∈ L, 1 ≤ s.2.2) {s : T3} (hs : s ∈ L) : (∃ l ∈ lvsL L, covB s.2.1 s.1 l = true) ∧ ∃ l ∈ lvsL L, covB (s.2.1 + s.2.2) s.1 l = true := by
  have hl := lvs_lv h
  have := h s hs
  obtain ⟨o, ho, e1, e2, e3⟩ := hl.cont _ (mem_sides.2 ⟨s, hs, .inl rfl⟩)
  obtain ⟨o', ho', e1', e2', e3'⟩ := hl.cont _ (mem_sides.2 ⟨s, hs, .inr rfl⟩)
  exact ⟨⟨o, ho, decide_eq_true ⟨e1, e2, by dsimp only at e3; omega⟩⟩, o', ho', decide_eq_true ⟨e1', e2', by dsimp only at e3'; omega⟩⟩

/-- The wires of squares. -/
def wiresL (L : List T3) : List (Int × Int) := L.map fun s => ((lvI (lvsL L) s.2.1 s.1 : Int), (lvI (lvsL L) (s.2.1 + s.2.2) s.1 : Int))
def nwE (W H : Int) (L : List T3) : Int := if isE W H L = 0 then (if isB W H L = true then (if 8 < (lvsL L).length then 8 else 0) else 10) else isE W H L
def nwN (W H : Int) (L : List T3) : Int := if nwE W H L = 0 then (lvsL L).length else 0
def nwW (W H : Int) (L : List T3) : List (Int × Int) := if nwE W H L = 0 then wiresL L else []

theorem isB_fits {W H : Int} {L : List T3} (h : isB W H L = true) : ∀ s ∈ L, fitsB W H s = true := fun s hs => by
  obtain ⟨i, hi, rfl⟩ := List.getElem_of_mem hs
  unfold isB at h
  rw [Bool.and_eq_true, List.all_eq_true] at h
  have := step_fits (h.1 i (List.mem_range.2 hi))
  rwa [getD_lt _ _ _ hi] at this
theorem isB_area {W H : Int} {L : List T3} (h : isB W H L = true) : area L = W * H := by
  unfold isB at h
  rw [Bool.and_eq_true] at h
  exact of_decide_eq_true h.2
theorem isE_zero {W H : Int} {L : List T3} (h : isE W H L = 0) : rectB W = true ∧ rectB H = true ∧ L.length ≤ 16 := by
  unfold isE at h
  cases h1 : rectB W with
  | false => rw [h1] at h; cases h
  | true =>
    cases h2 : rectB H with
    | false => rw [h1, h2] at h; cases h
    | true =>
      rw [h1, h2] at h
      by_cases h3 : 16 < L.length
      · simp only [Bool.and_self, if_true, if_pos h3] at h; cases h
      · exact ⟨rfl, rfl, by omega⟩

set_option maxRecDepth 100000 in
theorem slt27 : SlT 27 40 2 16 := SlT.mk' (z := wV 0 0) (by kernel_rfl) (by kernel_rfl) rfl (by decide)
set_option maxRecDepth 100000 in
theorem bd40 {x y : Int} {K : Value → Prop} : bdQ Tryd.prog 40 [(0, .int .i64 x), (1, .int .i64 y)] K = K (wV x y) := by kernel_rfl
set_option maxRecDepth 100000 in
theorem bs27 (x y : Int) (w : World) (K : Value → World → Prop) : bsW Tryd.prog 27 1 [(0, wV x y)] w K = K (.slice (some ⟨w.heap.size, 0, none⟩) 1 1) (w.alloc (.cells (wV x y).cells 40)) := by kernel_rfl
theorem wC_one (e : Int × Int) : ∀ u ∈ wC e, u.oneCell' = true := by
  intro u hu
  simp only [wC, List.mem_cons, List.not_mem_nil, or_false] at hu
  rcases hu with rfl | rfl <;> rfl
abbrev WrAt (base : Nat) (w : World) (v : Value) (P : List (Int × Int)) : Prop := RecAt 40 2 wC base w v P
set_option maxRecDepth 100000 in
/-- append(wires, x) in a region that draws its order -/
theorem r_pushW {base : Nat} {w : World} {v : Value} {P : List (Int × Int)} {x y : Int} {K : Value → World → Prop} (h : WrAt base w v P) (hn : P.length + 1 ≤ 1000000) (hb : base ≤ w.heap.size)
    (hk : ∀ v' w', WrAt base w' v' (P ++ [(x, y)]) → Chg (fun k => v.ownBlock = some k) w w' → K v' w') :
    bsW Tryd.prog 27 1 [(0, wV x y)] w <| keepB w fun s w => semW Tryd.prog (apS [27, 27] 27 [v, s]) w K := by
  have push := r_pushRec (x := (x, y)) (xv := wV x y) (ty := 27) (K := K) slt27 wC_len rfl (bs27 x y _) (wC_one _) (by omega) h hn hb fun v' w' o1 c1 _ => hk v' w' o1 c1
  rw [bs27] at push ⊢
  exact r_keep (below_alloc _) push

set_option maxRecDepth 100000 in
theorem st68 {w : World} {b : Nat} {x : Value} {a : Option Addr} {m c : Nat} {K : World → Prop} (h : w.heap[b]? = some (.cells #[x] 68 (0, 0))) (hk : ∀ w', Chg (fun k => k = b) w w' → w'.heap.size = w.heap.size → w'.heap[b]? = some (.cells #[.slice a m c] 68 (0, 0)) → K w') : stW Tryd.prog 68 (ptrV b) (.slice a m c) w K :=
  r_stAll (n := 1) (by kernel_rfl) rfl (by intro u hu; simp [Value.cells] at hu; rcases hu with rfl; rfl) h rfl fun w' h1 h2 h3 => hk w' h1 h2 h3

set_option maxRecDepth 100000 in
set_option maxHeartbeats 2000000 in
theorem Network_calls {v : Value} {W H : Int} {L : List T3} (w : World) (hr : RdS w v L) :
    Calls Tryd.prog 17 #[.int .i64 W, .int .i64 H, v] w fun e w' => Kp w w' ∧ ∃ v', e = .returned (.tuple #[.int .i64 (nwN W H L), v', .int .i64 (nwE W H L)]) ∧ WrAt w.heap.size w' v' (nwW W H L) := by
  obtain ⟨a, cap, ev, _⟩ := hr.len
  have lnv : ∀ K : Value → Prop, ln1 v K = K (.int .i64 L.length) := fun K => by rw [ev]; rfl
  refine lift17 ?_
  unfold S17
  refine r_use fok15 (Is_calls w hr) rfl ?_
  rintro _ w1 ⟨rfl, k1⟩
  refine ⟨_, rfl, ?_⟩
  rw [r_ex2a, r_ex2b, r_neq]
  have nothing : ∀ (w' : World) (E : Int), nwE W H L = E → E ≠ 0 → Kp w w' → Kp w w' ∧ ∃ v', Ending.returned (.tuple #[.int .i64 0, .slice none 0 0, .int .i64 E]) = .returned (.tuple #[.int .i64 (nwN W H L), v', .int .i64 (nwE W H L)]) ∧ WrAt w.heap.size w' v' (nwW W H L) := fun w' E hE h0 k => by
    unfold nwN nwW
    rw [hE, if_neg h0, if_neg h0]
    exact ⟨k, _, rfl, RecAt.nil⟩
  by_cases h0 : isE W H L = 0
  case neg =>
    rw [decide_eq_false h0, Bool.not_false, r_condT]
    exact nothing w1 _ (if_neg h0) h0 k1
  rw [decide_eq_true h0, Bool.not_true, r_condF, r_not]
  have hV : isV W H L = isB W H L := by unfold isV; rw [decide_eq_true h0, Bool.true_and]
  rw [hV]
  cases hB : isB W H L with
  | false =>
    rw [Bool.not_false, r_condT]
    exact nothing w1 10 (by unfold nwE; rw [if_pos h0, hB]; rfl) (by decide) k1
  | true =>
  rw [Bool.not_true, r_condF]
  obtain ⟨hW, hH, hl⟩ := isE_zero h0
  have hW' := of_decide_eq_true hW
  have hH' := of_decide_eq_true hH
  have hfit := isB_fits hB
  have hf : ∀ s ∈ L, 1 ≤ s.2.2 ∧ s.2.2 ≤ W ∧ s.2.2 ≤ H ∧ 0 ≤ s.1 ∧ 0 ≤ s.2.1 ∧ s.1 ≤ W - s.2.2 ∧ s.2.1 ≤ H - s.2.2 := fun s hs => fits_iff.1 (hfit s hs)
  have hpos : 0 < L.length := by
    refine Nat.pos_of_ne_zero fun hz => ?_
    have : L = [] := List.length_eq_zero_iff.1 hz
    have ha := isB_area hB
    rw [this] at ha
    have : 0 < W * H := Int.mul_pos (by omega) (by omega)
    simp only [area] at ha
    omega
  refine r_use fok46 (levels_calls w1 (hr.kp k1) hpos (by omega) fun s hs => by have := hf s hs; omega) rfl ?_
  rintro _ w2 ⟨k2, v2, S, rfl, hperm, hsort, hO⟩
  refine ⟨_, rfl, ?_⟩
  have hside : ∀ s ∈ L, 1 ≤ s.2.2 := fun s hs => (hf s hs).1
  rw [lvs_eq hside hsort hperm] at hO
  have k02 := Kp.trans k1 k2
  obtain ⟨oa, oc, eo, _⟩ := hO.len
  have ln2 : ∀ K : Value → Prop, ln1 v2 K = K (.int .i64 (lvsL L).length) := fun K => by rw [eo]; rfl
  refine r_box fun b11 w3 e11 s11 h11 k3 => ?_
  have h11' : w3.heap[b11]? = some (.cells #[.slice none 0 0] 68 (0, 0)) := h11
  have hsz2 := k02.size
  rw [eo]
  refine st68 h11' fun w4 c4 s4 h114 => ?_
  rw [← eo] at h114
  have k24 : Kp w2 w4 := Kp.of_chg k3 c4 fun q e => by omega
  have k04 := Kp.trans k02 k24
  have c11 : ∀ {w' : World}, Kp w4 w' → w'.cell? ⟨b11, 0, none⟩ = some v2 := fun k => by rw [cell_row (block_below h114 k)]; rfl
  rw [r_ld (c11 (Kp.refl _)), ln2, r_gtr]
  have hNW : nwE W H L = if 8 < (lvsL L).length then 8 else 0 := by unfold nwE; rw [if_pos h0, if_pos hB]
  by_cases h8 : (8 : Int) < ((lvsL L).length : Int)
  · rw [decide_eq_true h8, r_condT]
    exact nothing w4 8 (by rw [hNW, if_pos (by omega)]) (by decide) k04
  rw [decide_eq_false h8, r_condF, lnv]
  have hE : nwE W H L = 0 := by rw [hNW, if_neg (by omega)]
  have hO4 := hO.kp k24
  have rdV := hO4.rd t3C_len
  unfold S17L0
  refine ⟨fun t13 t38 wr => ∃ i : Nat, i ≤ L.length ∧ t38 = .int .i64 i ∧ WrAt w4.heap.size wr t13 ((wiresL L).take i) ∧ Kp w4 wr, fun _ t38 _ => L.length - (intOf t38).toNat, ⟨0, by omega, rfl, RecAt.nil, Kp.refl _⟩, ?_⟩
  rintro _ t13 _ wr ⟨i, hi, rfl, hC, kr⟩
  have hwl : (wiresL L).length = L.length := by simp [wiresL]
  have k0r := Kp.trans k04 kr
  have hsz4 := k04.size
  by_cases hlt : i < L.length
  case neg =>
    have hlt' : ¬ (i : Int) < (L.length : Int) := by omega
    rw [List.take_of_length_le (by omega)] at hC
    simp only [r_lss, hlt', decide_false, r_condF]
    rw [r_ld (c11 kr), ln2]
    unfold nwN nwW
    rw [hE, if_pos rfl, if_pos rfl]
    exact ⟨k0r, _, rfl, hC.down hsz4⟩
  have hlt' : (i : Int) < (L.length : Int) := by omega
  simp only [r_lss, decide_eq_true hlt', r_condT]
  have hmem : L.getD i (0, 0, 0) ∈ L := getD_mem hlt
  have hsf := hf _ hmem
  have hx := lvs_has hside hmem
  have hwi : (wiresL L).take (i + 1) = (wiresL L).take i ++ [((lvI (lvsL L) (L.getD i (0, 0, 0)).2.1 (L.getD i (0, 0, 0)).1 : Int), (lvI (lvsL L) ((L.getD i (0, 0, 0)).2.1 + (L.getD i (0, 0, 0)).2.2) (L.getD i (0, 0, 0)).1 : Int))] := by
    rw [take_succ' _ _ (by omega)]
    simp only [wiresL, List.getElem_map]
    rw [getD_lt _ _ _ hlt]
  rw [tri_at (hr.kp k0r) hlt]
  generalize L.getD i (0, 0, 0) = s at *
  refine r_box fun b15 w5 e15 s15 h15 k5 => ?_
  have h15' : w5.heap[b15]? = some (.cells #[.int .i64 0, .int .i64 0, .int .i64 0] 44 (0, 0)) := h15
  refine st44 h15' fun w6 c6 s6 h156 => ?_
  have kr6 : Kp wr w6 := Kp.of_chg k5 c6 fun q e => by omega
  refine r_drew fun w7 k7 _ => ?_
  have k47 := Kp.trans kr (Kp.trans kr6 k7)
  obtain ⟨q0, q1, q2⟩ := tri_cells (p := s) (block_below h156 k7)
  rw [r_fa, r_ld q1, r_fa, r_ld q0, r_fa, r_ld q1, r_fa, r_ld q2, r_add _ _ (by omega) (by omega), r_fa, r_ld q0]
  refine r_use fok47 (at_lv_calls w7 (c11 k47) (rdV.kp k47) (by omega) hx.1) rfl ?_
  rintro _ w8 ⟨rfl, k8⟩
  refine ⟨_, rfl, r_keep k8 ?_⟩
  have k48 := Kp.trans k47 k8
  refine r_use fok47 (at_lv_calls w8 (c11 k48) (rdV.kp k48) (by omega) hx.2) rfl ?_
  rintro _ w9 ⟨rfl, k9⟩
  refine ⟨_, rfl, r_keep k9 ?_⟩
  have k49 := Kp.trans k48 k9
  rw [bd40]
  have kr9 := Kp.trans kr6 (Kp.trans k7 (Kp.trans k8 k9))
  refine r_pushW (hC.kp kr9) (by rw [List.length_take]; omega) k49.size fun v' w' o1 c1 => ?_
  rw [r_add _ _ (by omega) (by omega)]
  exact ⟨⟨i + 1, by omega, by go_num, by rw [hwi]; exact o1, Kp.of_chg k49 c1 fun k hk => (hC.lt hk).1⟩, by simp only [intOf]; omega⟩

end Go.Proofs.YtkdcldbedbagjaaDoor
