/- Texts of my own, merged by program: Kk Nf. -/
import Derived.Test.YtbekeccfjmoonaaDoorM03
import Derived.Test.YtbekeccfjmoonaaDoorM22
import Derived.Test.YtbekeccfjmoonaaDoorM26
import Derived.Test.YtbekeccfjmoonaaDoorM15
import Derived.Test.YtbekeccfjmoonaaDoorM16
set_option linter.all false
/- Kasteleyn's determinant is that of the places. -/
namespace Go.Proofs.YtbekeccfjmoonaaDoor
open Go.Lf Go.RowKit Go.Ht Go.Km Go.Dt

theorem blackQ : (List.range 16).filter (blackC ∘ unC) = blacks := by decide +kernel
theorem whiteQ : (List.range 16).filter ((fun c => !blackC c) ∘ unC) = whites := by decide +kernel
theorem bw16 : (∀ q ∈ blacks, q < 16) ∧ ∀ q ∈ whites, q < 16 := by decide
section
variable {l : List ByteArray}
theorem bit_hq (l : List ByteArray) {q : Nat} (h : q < 16) : bit (mk4 l) q = hq l q := by
  rw [bit_eq]
  unfold mk4
  rw [maskOf_bit, decide_eq_true h, Bool.true_and]
theorem bk_eq (hR : RegOk l 4) : bkP (cellsB l) = (blacks.filter (bit (mk4 l))).map unC := by
  unfold bkP
  rw [cells_pl hR, List.filter_map]
  congr 1
  unfold plL
  rw [List.filter_filter, ← blackQ, List.filter_filter]
  refine List.filter_congr fun q hq' => ?_
  rw [bit_hq l (List.mem_range.1 hq'), Bool.and_comm]
theorem wh_eq (hR : RegOk l 4) : whP (cellsB l) = (whites.filter (bit (mk4 l))).map unC := by
  unfold whP
  rw [cells_pl hR, List.filter_map]
  congr 1
  unfold plL
  rw [List.filter_filter, ← whiteQ, List.filter_filter]
  refine List.filter_congr fun q hq' => ?_
  rw [bit_hq l (List.mem_range.1 hq'), Bool.and_comm]
theorem adj_un (a b : Nat) : adjC (unC a) (unC b) ↔ adjB a b = true := by
  unfold adjC unC adjB
  simp only [beq_dec, Bool.or_eq_true, Bool.and_eq_true, decide_eq_true_eq]
  omega
theorem entT_full (N wh : List C2) (b : C2) : entT N wh b N.length = wh.map fun c => if c ∈ N then kasV b c else 0 := by
  unfold entT
  rw [List.take_length]
theorem kas_mo (hR : RegOk l 4) {i j : Nat} (hi : i < (bkP (cellsB l)).length) (hj : j < (whP (cellsB l)).length) :
    Mo (hat (kasM l (whP (cellsB l)) (bkP (cellsB l))) i j) (kas ((blacks.filter (bit (mk4 l))).getD i 0) ((whites.filter (bit (mk4 l))).getD j 0)) := by
  have hi' : i < (blacks.filter (bit (mk4 l))).length := by rw [bk_eq hR, List.length_map] at hi; exact hi
  have hj' : j < (whites.filter (bit (mk4 l))).length := by rw [wh_eq hR, List.length_map] at hj; exact hj
  have eb : (bkP (cellsB l))[i] = unC ((blacks.filter (bit (mk4 l))).getD i 0) := by
    simp only [bk_eq hR, List.getElem_map]
    rw [getD_lt _ _ _ hi']
  have ew : (whP (cellsB l))[j] = unC ((whites.filter (bit (mk4 l))).getD j 0) := by
    simp only [wh_eq hR, List.getElem_map]
    rw [getD_lt _ _ _ hj']
  have ha : (blacks.filter (bit (mk4 l))).getD i 0 < 16 := by
    rw [getD_lt _ _ _ hi']
    exact bw16.1 _ (List.mem_filter.1 (List.getElem_mem hi')).1
  have hwm := List.mem_filter.1 (List.getElem_mem hj')
  have hb : (whites.filter (bit (mk4 l))).getD j 0 < 16 := by
    rw [getD_lt _ _ _ hj']
    exact bw16.2 _ hwm.1
  have hwq : hq l ((whites.filter (bit (mk4 l))).getD j 0) = true := by
    rw [← bit_hq l hb, getD_lt _ _ _ hj']; exact hwm.2
  have hat1 : hat (kasM l (whP (cellsB l)) (bkP (cellsB l))) i j = if (whP (cellsB l))[j] ∈ nbL l (bkP (cellsB l))[i] then kasV (bkP (cellsB l))[i] (whP (cellsB l))[j] else 0 := by
    unfold hat
    rw [getD_lt (kasM l (whP (cellsB l)) (bkP (cellsB l))) i [] (by simpa [kasM] using hi)]
    simp only [kasM, List.getElem_map]
    rw [entT_full, getD_lt _ _ _ (by simpa using hj), List.getElem_map]
  rw [hat1, eb, ew]
  generalize (blacks.filter (bit (mk4 l))).getD i 0 = a at *
  generalize (whites.filter (bit (mk4 l))).getD j 0 = b at *
  rw [kas_eq ha hb]
  have hmem : unC b ∈ nbL l (unC a) ↔ adjB a b = true := by
    rw [nbL_mem, adj_un]
    exact ⟨fun h => h.2, fun h => ⟨hwq, h⟩⟩
  by_cases h : adjB a b = true
  · rw [if_pos (hmem.2 h), if_pos h]
    unfold kasV
    have e1 : ((unC b).1 = (unC a).1 ∧ ¬ (unC a).1 % 2 = 0) ↔ (Nat.beq (b % 4) (a % 4) = true ∧ Nat.beq (a % 2) 1 = true) := by
      simp only [beq_dec, decide_eq_true_eq]
      unfold unC
      dsimp only
      omega
    by_cases e : Nat.beq (b % 4) (a % 4) = true ∧ Nat.beq (a % 2) 1 = true
    · rw [if_pos (e1.2 e), if_pos e]
      exact ⟨1, by omega⟩
    · rw [if_neg (fun h => e (e1.1 h)), if_neg e]
      exact Mo.refl _
  · rw [if_neg (fun hh => h (hmem.1 hh)), if_neg h]
    exact Mo.refl _

theorem mk4_lt (l : List ByteArray) : mk4 l < 65536 := maskOf_lt (hq l) 16
set_option maxRecDepth 100000 in
/-- Kasteleyn gives the determinant of the places. -/
theorem kast2_calls {v : Value} (w : World) (hf : Wf w) (hr : RdB w v l) (hs : ∀ s ∈ l, s.size ≤ 9223372036854775807) (ho : ofB 8 l = true) (hR : RegOk l 4) :
    Calls Tryd.prog 10 #[v] w fun e w' => Kp w w' ∧ e = .returned (.tuple #[.int .i64 (kasD (mk4 l)), .int .i64 0]) := by
  have hle := (kasD_ok (mk4 l) (mk4_lt l)).1
  have h16 := cntM_le 16 (mk4 l)
  have hp : (2 : Nat) ^ 16 = 65536 := rfl
  have lb : (bkP (cellsB l)).length = (blacks.filter (bit (mk4 l))).length := by rw [bk_eq hR, List.length_map]
  have lw : (whP (cellsB l)).length = (whites.filter (bit (mk4 l))).length := by rw [wh_eq hR, List.length_map]
  refine kast_calls w hf hr hs ho (fun he => ?_) (fun hne => ?_) (by omega) (by omega)
  · unfold kasD
    rw [if_pos (by omega), detL_det _ _ (by omega), ← lb]
    exact det_mo fun i j hi hj => kas_mo hR hi (by omega)
  · unfold kasD
    rw [if_neg (by omega)]
end

end Go.Proofs.YtbekeccfjmoonaaDoor

/- Queues in memory: slices that are cut in front and grow behind. Walking through maps. -/
namespace Go.Proofs.YtbekeccfjmoonaaDoor
open Go.Lf Go.RowKit Go.Ht Go.MapKept Go.ChangeMaps

section
variable {P : Program} (w : World)
theorem run_append_roomQ (t ty e : TypeId) (i : TypeInfo) (ht : P.underlying t = some (.slice e)) (hi : P.info? e = some i)
    (g off sLen sCap : Nat) (cur : Array Value) (hg : w.heap[g]? = some (.cells cur e (0, 0)))
    (a : Addr) (m c : Nat) (news : List Value) (hl : news.length = m * i.size) (hnews : ∀ j u, news[j]? = some u → w.cell? (a.add j) = some u) (h1 : ∀ u ∈ news, u.oneCell' = true)
    (hroom : sLen + m ≤ sCap) (hfit : off + sLen * i.size + news.length ≤ cur.size) :
    (Builtin.append_ #[t, t] ty #[.slice (some ⟨g, off, none⟩) sLen sCap, .slice (some a) m c]).run P w =
      .ok (.slice (some ⟨g, off, none⟩) (sLen + m) sCap) (w.setRow g (cur.toList.take (off + sLen * i.size) ++ news ++ cur.toList.drop (off + sLen * i.size + news.length)).toArray) := by
  have hf := run_firstCells_some (P := P) w i.size m a m c news hl hnews
  have hst := run_storeCells_at P g (off + sLen * i.size) e news 0 cur w hg (by simpa using hfit) h1
  simp only [Nat.add_zero] at hst
  simp [Builtin.append_, run_underlying ht, sizeOf, typeInfo, hi, Builtin.lenOf, hroom, hf, r_addr, hst]
end

/-- A queue of cells. -/
def QuAt (base : Nat) (w : World) (v : Value) (P : List C2) : Prop :=
  ∃ g off cap cur, v = .slice (some ⟨g, off, none⟩) P.length cap ∧ base ≤ g ∧ w.heap[g]? = some (.cells cur 43 (0, 0)) ∧ P.length ≤ cap ∧ off + cap * 2 ≤ cur.size ∧ (cur.toList.drop off).take (P.length * 2) = recCells cC P
theorem QuAt.kp {base : Nat} {w w' : World} {v : Value} {P : List C2} (h : QuAt base w v P) (k : Kp w w') : QuAt base w' v P :=
  let ⟨g, off, cap, cur, h1, h2, h3, h4⟩ := h; ⟨g, off, cap, cur, h1, h2, block_below h3 k, h4⟩
theorem QuAt.chg {S : Nat → Prop} {base : Nat} {w w' : World} {v : Value} {P : List C2} (h : QuAt base w v P) (c : Chg S w w') (hs : ∀ k, k < w.heap.size → S k → ∀ cur t fr, w.heap[k]? ≠ some (.cells cur t fr)) : QuAt base w' v P :=
  let ⟨g, off, cap, cur, h1, h2, h3, h4⟩ := h; ⟨g, off, cap, cur, h1, h2, c.at h3 fun hs' => hs g (block_lt h3) hs' _ _ _ h3, h4⟩
theorem QuAt.rd {base : Nat} {w : World} {v : Value} {P : List C2} (h : QuAt base w v P) : RdC w v P := by
  obtain ⟨g, off, cap, cur, rfl, _, hg, hle, hs, ht⟩ := h
  refine ⟨_, cap, rfl, hle, fun h0 => ⟨g, off, rfl, fun i x hi j u hu => ?_⟩⟩
  have hi' : i < P.length := (List.getElem?_eq_some_iff.1 hi).1
  have hj : j < 2 := by rw [← cC_len x]; exact (List.getElem?_eq_some_iff.1 hu).1
  have h1 := recCells_at (m := 2) cC_len P i j x hi hj
  rw [← ht, List.getElem?_take, if_pos (by omega), List.getElem?_drop, hu] at h1
  rw [cell_row hg, Nat.add_assoc]
  simpa using h1
theorem QuAt.one {base : Nat} {w : World} {c : C2} (hb : base ≤ w.heap.size) : QuAt base (w.alloc (.cells (cV c).cells 43)) (.slice (some ⟨w.heap.size, 0, none⟩) 1 1) [c] :=
  ⟨w.heap.size, 0, 1, _, rfl, hb, heap_alloc_new w _, Nat.le_refl _, (by show 0 + 1 * 2 ≤ 2; omega), rfl⟩
/-- Cut in front. -/
theorem QuAt.tail {base : Nat} {w : World} {v : Value} {c : C2} {P : List C2} (h : QuAt base w v (c :: P)) : ∃ v', (∀ K : Value → Prop, slS 2 v (some (.int .i64 1)) none K = K v') ∧ QuAt base w v' P := by
  obtain ⟨g, off, cap, cur, rfl, hb, hg, hle, hs, ht⟩ := h
  rw [List.length_cons] at hle ht
  refine ⟨_, fun K => by rw [r_slFrom (by omega) (by rw [List.length_cons]; omega)], ?_⟩
  have e1 : (1 : Int).toNat = 1 := rfl
  rw [List.length_cons, e1, Nat.add_sub_cancel]
  have hd : ∀ o, o = off + 2 ∨ P = [] → (cur.toList.drop o).take (P.length * 2) = recCells cC P := fun o ho => by
    rcases ho with rfl | rfl
    · have h2 := congrArg (List.drop 2) ht
      rw [List.drop_take, List.drop_drop] at h2
      have e2 : (P.length + 1) * 2 - 2 = P.length * 2 := by omega
      rw [e2] at h2
      rw [h2]
      rfl
    · simp [recCells]
  by_cases hc : cap = 1
  · subst hc
    have : P = [] := List.eq_nil_of_length_eq_zero (by omega)
    subst this
    exact ⟨g, off, 0, cur, rfl, hb, hg, Nat.le_refl _, by omega, hd _ (.inr rfl)⟩
  · rw [if_neg hc]
    exact ⟨g, off + 2, cap - 1, cur, rfl, hb, hg, by omega, by omega, hd _ (.inl rfl)⟩

set_option maxRecDepth 100000 in
/-- Grown behind. -/
theorem r_pushQ {base : Nat} {w : World} {v : Value} {P : List C2} {x : C2} {K : Value → World → Prop} (h : QuAt base w v P) (hn : P.length + 1 ≤ 1000000) (hb : base ≤ w.heap.size)
    (hk : ∀ v' w', QuAt base w' v' (P ++ [x]) → Chg (fun k => base ≤ k ∧ ∃ cur t fr, w.heap[k]? = some (.cells cur t fr)) w w' → K v' w') :
    bsW Tryd.prog 39 1 [(0, cV x)] w fun s w => semW Tryd.prog (apS [39, 39] 39 [v, s]) w K := by
  rw [bs39]
  obtain ⟨g, off, cap, cur, rfl, hbg, hg, hle, hs, ht⟩ := h
  obtain ⟨i, z, i1, i2, i3, i4, i5⟩ := slt39.info
  have hWk : Kp w (w.alloc (.cells (cV x).cells 43)) := below_alloc _
  have hWs : (w.alloc (.cells (cV x).cells 43)).heap.size = w.heap.size + 1 := by show (w.heap.push _).size = _; simp
  have hca : ∀ j u, (cC x)[j]? = some u → (w.alloc (.cells (cV x).cells 43)).cell? ((⟨w.heap.size, 0, none⟩ : Addr).add j) = some u := cells_at_row (heap_alloc_new w (.cells (cV x).cells 43))
  generalize w.alloc (.cells (cV x).cells 43) = W at *
  have hg1 : W.heap[g]? = some (.cells cur 43 (0, 0)) := block_below hg hWk
  have hlen : (recCells cC (P ++ [x])) = recCells cC P ++ cC x := by simp [recCells]
  have hrl := recCells_length (m := 2) cC_len P
  have e8 : (P.length + 1) * 2 = P.length * 2 + 2 := by omega
  by_cases hroom : P.length + 1 ≤ cap
  · have hr := run_append_roomQ (P := Tryd.prog) W 39 39 43 i slt39.und i1 g off P.length cap cur hg1 ⟨w.heap.size, 0, none⟩ 1 1 (cC x) (by rw [i3]; rfl) hca (cC_one x) hroom (by rw [i3]; show off + P.length * 2 + 2 ≤ _; omega)
    rw [i3] at hr
    have hst := setRow_heap W g cur (cur.toList.take (off + P.length * 2) ++ cC x ++ cur.toList.drop (off + P.length * 2 + (cC x).length)).toArray 43 (0, 0) hg1
    refine semW_of_run (v := .slice (some ⟨g, off, none⟩) (P.length + 1) cap) (by simp [apS, hr]) (hk _ _ ⟨g, off, cap, _, by simp, hbg, hst, by simpa using hroom, ?_, ?_⟩ ⟨hWk.os, hWk.tape, hWk.output, by simp [World.setRow]; omega, fun k hk hne => ?_⟩)
    · simp only [List.size_toArray, List.length_append, List.length_take, List.length_drop, Array.length_toList, cC_len]
      omega
    · rw [hlen, List.length_append, List.length_singleton, e8]
      show List.take _ (List.drop off (cur.toList.take (off + P.length * 2) ++ cC x ++ cur.toList.drop (off + P.length * 2 + 2))) = _
      rw [List.append_assoc, List.drop_append_of_le_length (by have : cur.toList.length = cur.size := Array.length_toList; simp only [List.length_take]; omega), List.drop_take, show off + P.length * 2 - off = P.length * 2 by omega, ht, ← List.append_assoc]
      exact List.take_left' (by rw [List.length_append, hrl, cC_len])
    · have hgk : g ≠ k := fun e => hne ⟨e ▸ hbg, cur, 43, (0, 0), e ▸ hg⟩
      rw [setRow_other _ g k _ (Ne.symm hgk)]
      exact hWk.block k hk
  · have holds : ∀ j u, (recCells cC P)[j]? = some u → W.cell? ((⟨g, off, none⟩ : Addr).add j) = some u := fun j u hj => by
      rw [← ht, List.getElem?_take] at hj
      split at hj
      · rw [List.getElem?_drop] at hj
        rw [r_addr, cell_row hg1]
        simpa using hj
      · cases hj
    have hr := run_append_grow (P := Tryd.prog) W 39 39 43 i z slt39.und i1 i2 ⟨g, off, none⟩ P.length cap (recCells cC P) (by rw [i3]; exact hrl) holds ⟨w.heap.size, 0, none⟩ 1 1 (cC x) (by rw [i3]; rfl) hca (by omega) (by omega) (growslice_fits (by omega) (by rw [i4]; omega))
    have hge := grownCap_ge W (P.length + 1) cap 43
    generalize grownCap W (P.length + 1) cap 43 = G at hr hge
    refine semW_of_run (v := .slice (some ⟨W.heap.size, 0, none⟩) (P.length + 1) G) (w' := W.drew.alloc (.cells ((recCells cC P ++ cC x).toArray ++ Builtin.zeroCells z.cells (G - (P.length + 1))) 43)) (by simp [apS, hr]) (hk _ _ ⟨W.heap.size, 0, G, _, by simp, by omega, heap_alloc_new W.drew _, by simpa using hge, ?_, ?_⟩ ⟨hWk.os, hWk.tape, hWk.output, by simp; omega, fun k hk hne => ?_⟩)
    · simp only [Array.size_append, List.size_toArray, List.length_append, size_zeroCells, i5, hrl, cC_len]
      omega
    · rw [hlen, List.length_append, List.length_singleton, e8, List.drop_zero, Array.toList_append]
      exact List.take_left' (by rw [List.length_append, hrl, cC_len])
    · rw [heap_alloc_old W.drew _ (show k < W.heap.size by omega)]
      exact hWk.block k hk

/-! ### walking through a map -/
section
variable {κ : Type} [DecidableEq κ] {enc : κ → Value} {ok : κ → Prop}
/-- Block r walks through the map b. -/
def IterO (enc : κ → Value) (ok : κ → Prop) (w : World) (b r : Nat) (left : Nat) : Prop :=
  ∃ es clock since sn c0 f, w.heap[b]? = some (.map es clock) ∧ EntsO enc ok es clock f ∧ w.heap[r]? = some (.mapIter (some b) since sn c0) ∧ (∀ x ∈ es.toList, x.born < since) ∧ since ≤ c0 ∧ since ≤ clock ∧ (leftOf es sn).size = left
theorem IterO.chg {S : Nat → Prop} {w w' : World} {b r left : Nat} (h : IterO enc ok w b r left) (hc : Chg S w w') (hb : ¬ S b) (hr : ¬ S r) : IterO enc ok w' b r left :=
  let ⟨es, c, s, sn, c0, f, h1, h2, h3, h4⟩ := h; ⟨es, c, s, sn, c0, f, hc.at h1 hb, h2, hc.at h3 hr, h4⟩
set_option maxRecDepth 100000 in
theorem r_rgO {t kt e : TypeId} (ht : Tryd.prog.underlying t = some (.map kt e)) {w : World} {b : Nat} {f : κ → Option Value} {K : Value → World → Prop} (h : MapO enc ok w b f)
    (hK : ∀ w' left, IterO enc ok w' b w.heap.size left → Kp w w' → w'.heap.size = w.heap.size + 1 → K (.pointer (some ⟨w.heap.size, 0, none⟩)) w') : semW Tryd.prog (rgS t (.map (some b))) w K := by
  have hlt := h.lt
  obtain ⟨es, c, hb, hes⟩ := h
  refine semW_of_run (by simp [rgS, run_range_map w t kt e b es c ht hb]) (hK _ _ ⟨es, c, c, #[], c, f, block_below hb (below_alloc _), hes, heap_alloc_new w _, hes.st.1, Nat.le_refl _, Nat.le_refl _, rfl⟩ (below_alloc _) (by show (w.heap.push _).size = _; simp))
set_option maxRecDepth 100000 in
theorem r_nxO {ty : TypeId} {w : World} {b r left : Nat} {K : Value → World → Prop} (h : IterO enc ok w b r left)
    (h0 : K (.tuple #[.bool false]) w)
    (h1 : ∀ k v w' left', ok k → left' < left → IterO enc ok w' b r left' → Chg (fun i => i = r) w w' → w'.heap.size = w.heap.size →
      (∀ K' : Value → World → Prop, semW Tryd.prog (enS (.pointer (some ⟨r, 0, none⟩))) w' K' = K' (.tuple #[enc k, v]) w') → K (.tuple #[.bool true, enc k, v]) w') :
    semW Tryd.prog (Go.Lf.nxS (.pointer (some ⟨r, 0, none⟩)) false ty) w K := by
  obtain ⟨es, clock, since, sn, c0, f, hb, hes, hr, hold, hsc, hsk, hl⟩ := h
  have hne : b ≠ r := fun e => by rw [e, hr] at hb; cases hb
  rcases run_next_at (P := Tryd.prog) w ty r b since c0 sn es clock hr hb hold hsc with ⟨hz0, hrun⟩ | ⟨e, he, w1, hal, hrun⟩
  · exact semW_of_run (by simp [Go.Lf.nxS, hrun]) h0
  · obtain ⟨hem, hes'⟩ := mem_left he
    obtain ⟨k, hk, ek, ev⟩ := hes.val e hem
    have hr1 : w1.heap[r]? = some (.mapIter (some b) since sn c0) := by rcases hal with rfl | rfl <;> exact hr
    have hb1 : w1.heap[b]? = some (.map es clock) := by rcases hal with rfl | rfl <;> exact hb
    have hset := heap_set (o' := .mapIter (some b) since (sn.push e.born) clock) hr1
    have hb' : (setBlock w1 r (.mapIter (some b) since (sn.push e.born) clock)).heap[b]? = some (.map es clock) := (hset.2 b (fun e1 => hne e1)).trans hb1
    rw [ek] at hrun
    have hst := (stamped_iff es clock).1 hes.st
    refine semW_of_run (by simp [Go.Lf.nxS, hrun]) (h1 k e.val _ _ hk (by rw [← hl]; exact left_shrinks es sn e he) ⟨es, clock, since, sn.push e.born, clock, f, hb', hes, hset.1, hold, hsk, hsk, rfl⟩ ?_ ?_ fun K' => ?_)
    · rcases hal with rfl | rfl <;> exact ⟨rfl, rfl, rfl, by simp [setBlock], fun i _ hi => hset.2 i (fun e1 => hi e1)⟩
    · rcases hal with rfl | rfl <;> simp [setBlock]
    · have hen := run_entry_at (P := Tryd.prog) _ r b since sn es clock e hset.1 hb' hem hst.2.1
      rw [ek] at hen
      simp [semW, enS, hen]
end

end Go.Proofs.YtbekeccfjmoonaaDoor
