/- Texts of my own, merged by program: Np Sf. -/
import Derived.Test.YtbekeccfjmoonaaDoorM34
import Derived.Test.YtbekeccfjmoonaaDoorM10
import Derived.Test.YtbekeccfjmoonaaDoorM19
import Derived.Test.YtbekeccfjmoonaaDoorM07
set_option linter.all false
/- Contract: tabled, one row more. -/
namespace Go.Proofs.YtbekeccfjmoonaaDoor
open Go.Lf Go.RowKit Go.Dt Go.Ht

/-- A tableau in memory of which c rows are there. -/
structure TbP (base : Nat) (w : World) (bt N C c : Nat) (rv gv bv : Value) (vs : List Value) (R : List (List Int)) (G B : List Int) : Prop where
  box : w.heap[bt]? = some (.cells #[.int .i64 N, .int .i64 C, rv, gv, bv, .int .i64 1] 84 (0, 0))
  bb : base ≤ bt
  mat : IMatV base w rv vs R
  siz : Sized c (N + C + 1) R
  go : IntsAt base w gv G
  gl : G.length = N + C + 1
  ba : IntsAt base w bv B
  bl : B.length = c
  gb : ∀ k, gv.ownBlock = some k → bv.ownBlock ≠ some k
  gr : ∀ (i : Nat) u k, vs[i]? = some u → u.ownBlock = some k → gv.ownBlock ≠ some k ∧ bv.ownBlock ≠ some k

section
variable {base bt N C c : Nat} {rv gv bv : Value} {vs : List Value} {R : List (List Int)} {G B : List Int}
theorem TbP.kp {w w' : World} (h : TbP base w bt N C c rv gv bv vs R G B) (k : Kp w w') : TbP base w' bt N C c rv gv bv vs R G B :=
  ⟨block_below h.box k, h.bb, h.mat.kp k, h.siz, RecAt.kp h.go k, h.gl, RecAt.kp h.ba k, h.bl, h.gb, h.gr⟩
theorem TbP.cells {w : World} (h : TbP base w bt N C c rv gv bv vs R G B) : w.cell? ⟨bt, 0, none⟩ = some (.int .i64 N) ∧ w.cell? ⟨bt, 1, none⟩ = some (.int .i64 C) ∧ w.cell? ⟨bt, 2, none⟩ = some rv ∧ w.cell? ⟨bt, 3, none⟩ = some gv ∧ w.cell? ⟨bt, 4, none⟩ = some bv := by
  refine ⟨?_, ?_, ?_, ?_, ?_⟩ <;> rw [cell_row h.box] <;> rfl
theorem box_ne {α : Type} {e : TypeId} {m : Nat} {enc : α → List Value} {base2 b : Nat} {w : World} {v : Value} {P : List α} {cs : Array Value} {t : TypeId} (hb : w.heap[b]? = some (.cells cs t (0, 0))) (hv : RecAt e m enc base2 w v P) (hne : t ≠ e) : v.ownBlock ≠ some b := fun hk => by
  obtain ⟨cur, h3⟩ := own_type hv hk
  rw [hb] at h3
  injection h3 with h3
  injection h3 with _ h3 _
  exact hne h3
theorem st31' {w : World} {a : Addr} {v u : Value} {base2 : Nat} {L : List Int} {K : World → Prop} (hu : IntsAt base2 w u L) (hc : w.cell? a = some v) (hf : w.frozen? a = false) : stW Tryd.prog 31 (.pointer (some a)) u w K = K (w.setCell a u) := by
  obtain ⟨g, cap, e, _⟩ := hu.len
  rw [e, st31 hc hf]

set_option maxRecDepth 100000 in
set_option maxHeartbeats 4000000 in
/-- One row more. -/
theorem r32_put {wr : World} {u : Value} {L : List Int} {next : World → Prop} (hP : TbP base wr bt N C c rv gv bv vs R G B) (hu : IntsAt base wr u L) (hL : L.length = N + C + 1) (hc : c ≤ 100) (hN : N ≤ 100) (hb : base ≤ wr.heap.size)
    (hun : ∀ k, u.ownBlock = some k → gv.ownBlock ≠ some k ∧ bv.ownBlock ≠ some k ∧ ∀ (i : Nat) u', vs[i]? = some u' → u'.ownBlock ≠ some k)
    (hnext : ∀ rv' bv' w', TbP base w' bt N C (c + 1) rv' gv bv' (vs ++ [u]) (R ++ [L]) G (B ++ [((N + c : Nat) : Int)]) → Below base wr w' → next w') :
      Drew wr fun w =>
      Join (fun (k_3 : World → Prop) =>
        ∃ X : Nat → Prop,
        takeX X w (fun w k => k (ptrV bt)) fun t82 =>
        takeX topX w (fun w k => k (ptrV bt)) fun t83 =>
        takeX X w (fun w k => k (ptrV bt)) fun t84 =>
        takeX X w (fun w k => ncQ t84 k) fun t85 =>
        takeX X w (fun w k => fa1 t85 2 k) fun t86 =>
        takeX X w (fun w k => ld1 w t86 k) fun t87 =>
        takeX X w (fun w k => k u) fun t88 =>
        takeX X w (fun w k => k (ptrV bt)) fun t91 =>
        takeX X w (fun w k => ncQ t91 k) fun t92 =>
        takeX X w (fun w k => fa1 t92 4 k) fun t93 =>
        takeX X w (fun w k => ld1 w t93 k) fun t94 =>
        takeX X w (fun w k => k (ptrV bt)) fun t95 =>
        takeX X w (fun w k => ncQ t95 k) fun t96 =>
        takeX X w (fun w k => fa1 t96 0 k) fun t97 =>
        takeX X w (fun w k => ld1 w t97 k) fun t98 =>
        takeX X w (fun w kk => kk (.int .i64 c)) fun t99 =>
        takeX X w (fun w k => binQ Tryd.prog w .add 3 false t98 t99 k) fun t100 =>
        And (
          bsW Tryd.prog 50 1 [(0, t88)] w <| keepX X w fun t89 w =>
          And (
            semW Tryd.prog (apS [50, 50] 50 [t87, t89]) w <| keepX X w fun t90 w =>
            bsW Tryd.prog 31 1 [(0, t100)] w <| keepX X w fun t101 w =>
            semW Tryd.prog (apS [31, 31] 31 [t94, t101]) w <| keepX X w fun t102 w =>
            takeX X w (fun w k => ncQ t82 k) fun t103 =>
            takeX X w (fun w k => fa1 t103 2 k) fun t104 =>
            stW Tryd.prog 50 t104 t90 w <| keepW topX w fun w =>
            takeX topX w (fun w k => ncQ t83 k) fun t105 =>
            takeX topX w (fun w k => fa1 t105 4 k) fun t106 =>
            stW Tryd.prog 31 t106 t102 w fun w =>
            k_3  w
          ) <|
          And (
            bsW Tryd.prog 31 1 [(0, t100)] w <| keepX X w fun t101_2 w =>
            semW Tryd.prog (apS [50, 50] 50 [t87, t89]) w <| keepX X w fun t90_2 w =>
            semW Tryd.prog (apS [31, 31] 31 [t94, t101_2]) w <| keepX X w fun t102_2 w =>
            takeX X w (fun w k => ncQ t82 k) fun t103_2 =>
            takeX X w (fun w k => fa1 t103_2 2 k) fun t104_2 =>
            stW Tryd.prog 50 t104_2 t90_2 w <| keepW topX w fun w =>
            takeX topX w (fun w k => ncQ t83 k) fun t105_2 =>
            takeX topX w (fun w k => fa1 t105_2 4 k) fun t106_2 =>
            stW Tryd.prog 31 t106_2 t102_2 w fun w =>
            k_3  w
          ) <|
          True
        ) <|
        And (
          bsW Tryd.prog 31 1 [(0, t100)] w <| keepX X w fun t101_3 w =>
          bsW Tryd.prog 50 1 [(0, t88)] w <| keepX X w fun t89_2 w =>
          semW Tryd.prog (apS [50, 50] 50 [t87, t89_2]) w <| keepX X w fun t90_3 w =>
          semW Tryd.prog (apS [31, 31] 31 [t94, t101_3]) w <| keepX X w fun t102_3 w =>
          takeX X w (fun w k => ncQ t82 k) fun t103_3 =>
          takeX X w (fun w k => fa1 t103_3 2 k) fun t104_3 =>
          stW Tryd.prog 50 t104_3 t90_3 w <| keepW topX w fun w =>
          takeX topX w (fun w k => ncQ t83 k) fun t105_3 =>
          takeX topX w (fun w k => fa1 t105_3 4 k) fun t106_3 =>
          stW Tryd.prog 31 t106_3 t102_3 w fun w =>
          k_3  w
        ) <|
        True
      ) fun  w => next w := by
  refine r_drew fun w2 k2 _ => ?_
  have P2 := hP.kp k2
  have sz2 := k2.size
  have hu2 := RecAt.kp hu k2
  obtain ⟨p0, p1, p2, p3, p4⟩ := P2.cells
  obtain ⟨ua, uc, eu, _⟩ := hu2.len
  refine r_joinW (fun w' => ∃ rv' bv', TbP base w' bt N C (c + 1) rv' gv bv' (vs ++ [u]) (R ++ [L]) G (B ++ [((N + c : Nat) : Int)]) ∧ Below base wr w') ?_ fun kk hkk => ?_
  · rintro w' ⟨rv', bv', g1, g2⟩
    exact hnext rv' bv' w' g1 g2
  let X : Nat → Prop := fun q => rv.ownBlock = some q ∨ bv.ownBlock = some q ∨ w2.heap.size ≤ q
  have hbtl : bt < w2.heap.size := block_lt P2.box
  have hrb : rv.ownBlock ≠ some bt := box_ne P2.box P2.mat.1 (by decide)
  have hbb : bv.ownBlock ≠ some bt := box_ne P2.box P2.ba (by decide)
  have nXp : ¬ X bt := by
    rintro (h | h | h)
    · exact hrb h
    · exact hbb h
    · omega
  have hbw : base ≤ w2.heap.size := by omega
  -- the blocks of integers that X leaves alone
  have keepI : ∀ {w : World} {v : Value} {L : List Int}, Chg X w2 w → IntsAt base w2 v L → (∀ k, v.ownBlock = some k → bv.ownBlock ≠ some k) → IntsAt base w v L := fun C h hne => RecAt.chg h C fun k hk hx => by
    rcases hx with h1 | h1 | h1
    · exact rec_ne h P2.mat.1 (by decide) k hk h1
    · exact hne k hk h1
    · have := (RecAt.lt h hk).2; omega
  have fin : ∀ (w : World) (rv' bv' : Value), Chg X w2 w → RecAt 31 1 vE base w rv' (vs ++ [u]) → IntsAt base w bv' (B ++ [((N + c : Nat) : Int)]) → (∀ k, bv'.ownBlock = some k → bv.ownBlock = some k ∨ w2.heap.size ≤ k) →
      (stW Tryd.prog 50 (.pointer (some ⟨bt, 2, none⟩)) rv' w <| keepW topX w fun w => stW Tryd.prog 31 (.pointer (some ⟨bt, 4, none⟩)) bv' w fun w => kk w) := fun w rv' bv' CX hp hcb hnew => by
    have hbox := CX.at P2.box nXp
    have cp2 : w.cell? ⟨bt, 2, none⟩ = some rv := by rw [cell_row hbox]; rfl
    obtain ⟨pa, pc, ep, _⟩ := RecAt.len hp
    rw [ep, st50 cp2 (frozen_row hbox), ← ep]
    have c1 : Chg (fun q => q = bt) w (w.setCell ⟨bt, 2, none⟩ rv') := Chg.setCell w rv' rfl
    have hbox1 := setCell_block (w' := w.setCell ⟨bt, 2, none⟩ rv') hbox rfl
    refine ⟨BX.of_chg c1 fun q _ => trivial, ?_⟩
    have hrb' : rv'.ownBlock ≠ some bt := box_ne hbox hp (by decide)
    have hbb' : bv'.ownBlock ≠ some bt := box_ne hbox hcb (by decide)
    have hcb1 := RecAt.chg hcb c1 fun k hk e => hbb' (e ▸ hk)
    generalize w.setCell ⟨bt, 2, none⟩ rv' = w3 at *
    have cp4 : w3.cell? ⟨bt, 4, none⟩ = some bv := by rw [cell_row hbox1]; rfl
    show stW Tryd.prog 31 (.pointer (some ⟨bt, 4, none⟩)) bv' w3 kk
    rw [st31' hcb1 cp4 (frozen_row hbox1)]
    have c2 : Chg (fun q => q = bt) w3 (w3.setCell ⟨bt, 4, none⟩ bv') := Chg.setCell w3 bv' rfl
    have hbox2 := setCell_block (w' := w3.setCell ⟨bt, 4, none⟩ bv') hbox1 rfl
    have c12 := c1.trans c2
    generalize w3.setCell ⟨bt, 4, none⟩ bv' = w4 at *
    have keepB : ∀ {v : Value} {L : List Int}, IntsAt base w v L → IntsAt base w4 v L := fun h => RecAt.chg h c12 fun k hk e => box_ne hbox h (by decide) (e ▸ hk)
    have hgb2 : ∀ k, gv.ownBlock = some k → bv.ownBlock ≠ some k := P2.gb
    have oldlt : ∀ {v : Value} {L : List Int} {k : Nat}, IntsAt base w2 v L → v.ownBlock = some k → k < w2.heap.size := fun h hk => (RecAt.lt h hk).2
    have hvsl : vs.length = R.length := P2.mat.2.1
    have spl : ∀ {i : Nat} {x : Value}, (vs ++ [u])[i]? = some x → (i < vs.length ∧ vs[i]? = some x) ∨ (i = vs.length ∧ x = u) := fun {i x} h => by
      by_cases hi : i < vs.length
      · rw [List.getElem?_append_left hi] at h; exact .inl ⟨hi, h⟩
      · rw [List.getElem?_append_right (by omega)] at h
        match e : i - vs.length with
        | 0 => rw [e] at h; cases h; exact .inr ⟨by omega, rfl⟩
        | m + 1 => rw [e] at h; simp at h
    have rowI : ∀ {i : Nat} {x : Value}, i < vs.length → vs[i]? = some x → IntsAt base w2 x (R.getD i []) := fun {i x} hi h => by
      have := P2.mat.2.2.1 i x (R[i]'(by omega)) h (List.getElem?_eq_getElem (by omega))
      rw [getD_lt _ _ _ (by omega)]; exact this
    refine hkk _ ⟨rv', bv', ⟨hbox2, hP.bb, ⟨RecAt.chg hp c12 fun k hk e => hrb' (e ▸ hk), by simp [hvsl], fun i x r h1 h2 => ?_, fun i i' x x' k h1 h2 h3 h4 => ?_⟩, ?_, keepB (keepI CX P2.go hgb2), P2.gl, keepB hcb, by rw [List.length_append, P2.bl]; rfl, fun k hk hk' => ?_, fun i x k h1 h2 => ?_⟩, ?_⟩
    · rcases spl h1 with ⟨hi, hx⟩ | ⟨hi, rfl⟩
      · rw [List.getElem?_append_left (by omega)] at h2
        have := P2.mat.2.2.1 i x r hx h2
        exact keepB (keepI CX this fun k hk => (P2.gr i x k hx hk).2)
      · rw [hi, hvsl, List.getElem?_append_right (Nat.le_refl _), Nat.sub_self] at h2
        cases h2
        exact keepB (keepI CX hu2 fun k hk => (hun k hk).2.1)
    · rcases spl h1 with ⟨hi, hx⟩ | ⟨hi, rfl⟩
      · rcases spl h2 with ⟨hi', hx'⟩ | ⟨hi', rfl⟩
        · exact P2.mat.2.2.2 i i' x x' k hx hx' h3 h4
        · exact absurd h3 ((hun k h4).2.2 i x hx)
      · rcases spl h2 with ⟨hi', hx'⟩ | ⟨hi', rfl⟩
        · exact absurd h4 ((hun k h3).2.2 i' x' hx')
        · omega
    · refine ⟨by rw [List.length_append, P2.siz.1]; rfl, fun i hi => ?_⟩
      by_cases e : i < c
      · rw [List.getD_eq_getElem?_getD, List.getElem?_append_left (by rw [P2.siz.1]; exact e), ← List.getD_eq_getElem?_getD]
        exact P2.siz.2 i e
      · have e2 : i = R.length := by have := P2.siz.1; omega
        rw [e2, List.getD_eq_getElem?_getD, List.getElem?_append_right (Nat.le_refl _), Nat.sub_self]
        exact hL
    · rcases hnew k hk' with h | h
      · exact hgb2 k hk h
      · have := oldlt P2.go hk; omega
    · rcases spl h1 with ⟨hi, hx⟩ | ⟨hi, rfl⟩
      · refine ⟨(P2.gr i x k hx h2).1, fun h => ?_⟩
        rcases hnew k h with h' | h'
        · exact (P2.gr i x k hx h2).2 h'
        · have := oldlt (rowI hi hx) h2; omega
      · refine ⟨(hun k h2).1, fun h => ?_⟩
        rcases hnew k h with h' | h'
        · exact (hun k h2).2.1 h'
        · have := oldlt hu2 h2; omega
    · refine (Below.mono k2 (by omega)).trans ((CX.below (by omega) fun q hq => ?_).trans (c12.below (by have := CX.size; omega) fun q e => by rw [e]; exact hP.bb))
      rcases hq with h | h | h
      · exact (RecAt.lt P2.mat.1 h).1
      · exact (RecAt.lt P2.ba h).1
      · omega
  refine ⟨X, ?_⟩
  simp only [r_nc, r_fa, Nat.zero_add, r_tx]
  rw [r_txl p2 nXp, r_txl p4 nXp, r_txl p0 nXp]
  refine r_txe (v := .int .i64 ((N + c : Nat) : Int)) (fun w' k => by rw [r_add _ _ (by omega) (by omega)]; rfl) ?_
  have alloc1 : ∀ (w : World) (K : Value → World → Prop), (∀ s w', RecAt 31 1 vE w.heap.size w' s [u] → Kp w w' → K s w') → bsW Tryd.prog 50 1 [(0, u)] w K := fun w K hK => by
    rw [eu, bs50, ← eu]
    refine hK _ _ ?_ (below_alloc _)
    exact rec_one (enc := vE) (x := u) (z := u) rfl w
  have alloc2 : ∀ (w : World) (K : Value → World → Prop), (∀ s w', IntsAt w.heap.size w' s [((N + c : Nat) : Int)] → Kp w w' → K s w') → bsW Tryd.prog 31 1 [(0, .int .i64 ((N + c : Nat) : Int))] w K := fun w K hK => by
    rw [bs31]
    refine hK _ _ ?_ (below_alloc _)
    exact rec_one (enc := iC) (x := ((N + c : Nat) : Int)) rfl w
  have push1 : ∀ (w : World) (s : Value) (bs : Nat) (K : Value → World → Prop), Chg X w2 w → RecAt 31 1 vE base w rv vs → RecAt 31 1 vE bs w s [u] → (∀ v' w', RecAt 31 1 vE base w' v' (vs ++ [u]) → Chg X w2 w' → BX X w w' → Chg (fun q => rv.ownBlock = some q) w w' → K v' w') → semW Tryd.prog (apS [50, 50] 50 [rv, s]) w K := fun w s bs K C h hs hK => by
    have hcell : ∀ u' ∈ recCells vE [u], u'.oneCell' = true := by
      intro u' hu'
      simp [recCells] at hu'
      rw [hu', eu]; rfl
    obtain ⟨g, cap, cur, es2, _, hg, _, _, _, ht⟩ := hs.blk (by simp)
    rw [es2]
    have hvl : vs.length = R.length := P2.mat.2.1
    have hRl := P2.siz.1
    refine r_apAt (news := recCells vE [u]) slt50 h (by simp [recCells]) (fun j u' hj => ?_) hcell (by simp only [List.length_cons, List.length_nil]; omega) (by omega) (by have := C.size; omega) fun v' w' ho c1 _ => ?_
    · rw [← ht, List.getElem?_take] at hj
      split at hj
      · rw [r_addr, Nat.zero_add, cell_row hg]; simpa using hj
      · cases hj
    · refine hK v' w' ?_ (C.trans (c1.mono fun q _ e => .inl e)) (BX.of_chg c1 fun q e => .inl e) c1
      unfold RecAt
      rw [recCells_append, List.length_append]
      exact ho
  have push2 : ∀ (w : World) (s : Value) (bs : Nat) (K : Value → World → Prop), Chg X w2 w → IntsAt base w bv B → IntsAt bs w s [((N + c : Nat) : Int)] → (∀ v' w', IntsAt base w' v' (B ++ [((N + c : Nat) : Int)]) → Chg X w2 w' → BX X w w' → Chg (fun q => bv.ownBlock = some q) w w' → (∀ k, v'.ownBlock = some k → bv.ownBlock = some k ∨ w2.heap.size ≤ k) → K v' w') → semW Tryd.prog (apS [31, 31] 31 [bv, s]) w K := fun w s bs K C h hs hK => by
    obtain ⟨g, cap, cur, es2, _, hg, _, _, _, ht⟩ := hs.blk (by simp)
    rw [es2]
    have hBl := P2.bl
    have hcs := C.size
    refine r_apAt (news := recCells iC [((N + c : Nat) : Int)]) slt31 h (by simp [recCells, iC]) (fun j u' hj => ?_) (by intro u' hu'; simp [recCells, iC] at hu'; rw [hu']; rfl) (by simp only [List.length_cons, List.length_nil]; omega) (by omega) (by omega) fun v' w' ho c1 hw => ?_
    · rw [← ht, List.getElem?_take] at hj
      split at hj
      · rw [r_addr, Nat.zero_add, cell_row hg]; simpa using hj
      · cases hj
    · refine hK v' w' ?_ (C.trans (c1.mono fun q _ e => .inr (.inl e))) (BX.of_chg c1 fun q e => .inr (.inl e)) c1 fun k hk => ?_
      · unfold IntsAt RecAt
        rw [recCells_append, List.length_append]
        exact ho
      · rcases hw k hk with h | h
        · exact .inl h
        · exact .inr (by omega)
  have k1X : ∀ {w w' : World}, Chg X w2 w → Kp w w' → Chg X w2 w' := fun C k => C.trans (Chg.of_kp k)
  have keepP : ∀ {w w' : World} {v : Value} {b : Nat} {L : List Int}, RecAt 31 1 vE base w rv vs → Chg (fun q => rv.ownBlock = some q) w w' → IntsAt b w v L → IntsAt b w' v L := fun h c1 hv => RecAt.chg hv c1 fun q hq e' => rec_ne hv h (by decide) q hq e'
  have keepR : ∀ {w w' : World} {v : Value}, IntsAt base w bv B → Chg (fun q => bv.ownBlock = some q) w w' → RecAt 31 1 vE base w v (vs ++ [u]) → RecAt 31 1 vE base w' v (vs ++ [u]) := fun h c1 hv => RecAt.chg hv c1 fun q hq e' => rec_ne hv h (by decide) q hq e'
  refine ⟨?_, ?_, trivial⟩
  · refine alloc1 w2 _ fun s1 w3 hs1 k3 => ⟨BX.of_below k3, ?_, ?_, trivial⟩
    · have C3 := Chg.of_kp (S := X) k3
      refine push1 w3 s1 _ _ C3 (P2.mat.1.kp k3) hs1 fun rv' w4 hp4 C4 b4 c4 => ⟨b4, ?_⟩
      have co4 := keepP (P2.mat.1.kp k3) c4 (RecAt.kp P2.ba k3)
      refine alloc2 w4 _ fun s2 w5 hs2 k5 => ⟨BX.of_below k5, ?_⟩
      refine push2 w5 s2 _ _ (k1X C4 k5) (RecAt.kp co4 k5) hs2 fun bv' w6 hc6 C6 b6 c6 hnew => ⟨b6, ?_⟩
      exact fin w6 rv' bv' C6 (keepR (RecAt.kp co4 k5) c6 (hp4.kp k5)) hc6 hnew
    · have C3 := Chg.of_kp (S := X) k3
      refine alloc2 w3 _ fun s2 w4 hs2 k4 => ⟨BX.of_below k4, ?_⟩
      have k34 := Kp.trans k3 k4
      refine push1 w4 s1 _ _ (k1X C3 k4) (P2.mat.1.kp k34) (hs1.kp k4) fun rv' w5 hp5 C5 b5 c5 => ⟨b5, ?_⟩
      have co5 := keepP (P2.mat.1.kp k34) c5 (RecAt.kp P2.ba k34)
      have hs5 := keepP (P2.mat.1.kp k34) c5 hs2
      refine push2 w5 s2 _ _ C5 co5 hs5 fun bv' w6 hc6 C6 b6 c6 hnew => ⟨b6, ?_⟩
      exact fin w6 rv' bv' C6 (keepR co5 c6 hp5) hc6 hnew
  · refine alloc2 w2 _ fun s2 w3 hs2 k3 => ⟨BX.of_below k3, ?_⟩
    have C3 := Chg.of_kp (S := X) k3
    refine alloc1 w3 _ fun s1 w4 hs1 k4 => ⟨BX.of_below k4, ?_⟩
    have k34 := Kp.trans k3 k4
    refine push1 w4 s1 _ _ (k1X C3 k4) (P2.mat.1.kp k34) hs1 fun rv' w5 hp5 C5 b5 c5 => ⟨b5, ?_⟩
    have co5 := keepP (P2.mat.1.kp k34) c5 (RecAt.kp P2.ba k34)
    have hs5 := keepP (P2.mat.1.kp k34) c5 (RecAt.kp hs2 k4)
    refine push2 w5 s2 _ _ C5 co5 hs5 fun bv' w6 hc6 C6 b6 c6 hnew => ⟨b6, ?_⟩
    exact fin w6 rv' bv' C6 (keepR co5 c6 hp5) hc6 hnew

end
end Go.Proofs.YtbekeccfjmoonaaDoor

/- Lifted texts, printed by program (gen.py): what each function's code asks. The ties are by the kernel. -/
namespace Go.Proofs.YtbekeccfjmoonaaDoor
open Go.Lf Go.RowKit

def S7 (t0 t1 : Value) (w : World) (R : Ending → World → Prop) : Prop :=
  callW Tryd.prog (.func (.func 17) #[] #[]) [t0, t1] w fun t13 w =>
  exQ t13 0 fun t14 =>
  exQ t13 1 fun t15 =>
  boxW 46 (.pointer none) w fun t6 w =>
  stW Tryd.prog 46 t6 t14 w fun w =>
  binQ Tryd.prog w .neq 25 true t15 (.int .i64 0) fun t17 =>
  condW t17 (
    R (.returned (.tuple #[(.int .i64 0), t15])) w
  ) (
    mmW w fun t19 w =>
    ld1 w t6 fun t20 =>
    ncQ t20 fun t21 =>
    fa1 t21 0 fun t22 =>
    ld1 w t22 fun t23 =>
    ncQ t23 fun t24 =>
    fa1 t24 0 fun t25 =>
    ld1 w t25 fun t26 =>
    ln1 t26 fun t27 =>
    binQ Tryd.prog w .shl 3 true (.int .i64 1) t27 fun t28 =>
    binQ Tryd.prog w .sub 3 true t28 (.int .i64 1) fun t29 =>
    semW Tryd.prog (muS 56 t19 t29 (.int .i64 1)) w fun _ w =>
    boxW 56 (.map none) w fun t8 w =>
    stW Tryd.prog 56 t8 t19 w fun w =>
    boxW 57 .nilFunc w fun t9 w =>
    stW Tryd.prog 57 t9 (.func (.func 18) #[] #[t8, t6, t9]) w fun w =>
    ld1 w t9 fun t32 =>
    callW Tryd.prog t32 [(.int .i64 0)] w fun t33 w =>
    R (.returned (.tuple #[t33, (.int .i64 0)])) w
  )

def A7 : Ann where
  live := fun _ => []
  wr := fun _ _ => false
  sched := fun _ => .done

set_option maxRecDepth 100000 in
theorem ok7 : (codeOk Tryd.f7.ntmps A7 (Tryd.f7.body.getD .skip) 0 && Nat.ble 2 Tryd.f7.ntmps) = true := by kernel_rfl
set_option maxRecDepth 100000 in
theorem lift7 {t0 t1 : Value} {w : World} {R : Ending → World → Prop} (h : S7 t0 t1 w R) : Calls Tryd.prog 7 #[t0, t1] w R :=
  calls_of_cw (fn := Tryd.f7) (c := Tryd.f7.body.getD .skip) A7 mixes Tryd.func7 (by kernel_rfl) ok7
    ((by kernel_rfl : (S7 t0 t1 w R) = cw Tryd.prog A7 (Tryd.f7.body.getD .skip) 0 (bodyQ Tryd.prog Tryd.f7 R) (frOf #[t0, t1]) w).mp h)

def S18L1 (t0 t1 t3 t8 t30 t31 : Value) (R : Ending → World → Prop) (w : World) : Prop :=
  Loop2 (.int .i64 0) (.int .i64 0) w fun _ t9 t32 w next_2 =>
    binQ Tryd.prog w .lss 3 false t32 t31 fun t33 =>
    condW t33 (
      iaS 1 t30 t32 fun t34 =>
      ld1 w t34 fun t35 =>
      callW Tryd.prog (.func (.func 19) #[] #[]) [t35, t8] w fun t38 w =>
      gd t38 true (fun k => k t0 w) w fun t40 w =>
      gd t38 true (fun k => k t35 w) w fun t41 w =>
      gd t38 true (fun k => callW Tryd.prog (.func (.func 20) #[] #[]) [t41] w k) w fun t42 w =>
      gd t38 true (fun k => binQ Tryd.prog w .and 3 false t40 t42 fun v => k v w) w fun t43 w =>
      gd t38 true (fun k => binQ Tryd.prog w .eql 3 true t43 (.int .i64 0) fun v => k v w) w fun t44 w =>
      pickQ t38 t44 (.bool false) fun t45 =>
      Join (fun (k_2 : Value → World → Prop) =>
        condW t45 (
          Drew w fun w =>
          ∃ X : Nat → Prop,
          takeX X w (fun w k => k t9) fun t46 =>
          takeX X w (fun w k => ld1 w t3 k) fun t47 =>
          takeX X w (fun w k => k t0) fun t48 =>
          callW Tryd.prog (.func (.func 20) #[] #[]) [t35] w <| keepX X w fun t50 w =>
          takeX X w (fun w k => binQ Tryd.prog w .or 3 false t48 t50 k) fun t51 =>
          callW Tryd.prog t47 [t51] w <| keepX X w fun t52 w =>
          takeX X w (fun w k => binQ Tryd.prog w .add 3 false t46 t52 k) fun t53 =>
          takeX X w (fun w k => k t53) fun t9_3 =>
          k_2 t9_3 w
        ) (
          k_2 t9 w
        )
      ) fun t9_2 w =>
      binQ Tryd.prog w .add 3 true t32 (.int .i64 1) fun t54_2 =>
      next_2 t9_2 t54_2 w
    ) (
      ld1 w t1 fun t55 =>
      semW Tryd.prog (muS 56 t55 t0 t9) w fun _ w =>
      R (.returned t9) w
    )

def S18L0 (t0 t1 t2 t3 : Value) (R : Ending → World → Prop) (w : World) : Prop :=
  Loop1 (.int .i64 0) w fun _ t8 w next =>
    binQ Tryd.prog w .shl 3 true (.int .i64 1) t8 fun t22 =>
    binQ Tryd.prog w .and 3 false t0 t22 fun t23 =>
    binQ Tryd.prog w .neq 3 true t23 (.int .i64 0) fun t24 =>
    condW t24 (
      binQ Tryd.prog w .add 3 true t8 (.int .i64 1) fun t26 =>
      next t26 w
    ) (
      ld1 w t2 fun t27 =>
      ncQ t27 fun t28 =>
      fa1 t28 3 fun t29 =>
      ld1 w t29 fun t30 =>
      ln1 t30 fun t31 =>
      S18L1 t0 t1 t3 t8 t30 t31 R w
    )

def S18 (t0 t1 t2 t3 : Value) (w : World) (R : Ending → World → Prop) : Prop :=
  ld1 w t1 fun t13 =>
  semW Tryd.prog (lkS 56 t13 t0 true) w fun t15 w =>
  exQ t15 0 fun t16 =>
  exQ t15 1 fun t17 =>
  condW t17 (
    R (.returned t16) w
  ) (
    S18L0 t0 t1 t2 t3 R w
  )

def A18 : Ann where
  live := fun
    | 0 => [8]
    | 2 => [9, 32]
    | _ => []
  wr := fun
    | 0 => fun i => Nat.beq i 8 || (Nat.ble 20 i && Nat.ble i 26)
    | 2 => fun i => Nat.beq i 9 || Nat.beq i 11 || (Nat.ble 32 i && Nat.ble i 54)
    | _ => fun _ => false
  sched := fun
    | 12 => (.cls (.take 0 (.take 1 (.take 2 (.take 3 (.eff 4 (.take 5 (.eff 6 (.take 7 (.take 8 .done))))))))))
    | _ => .done

set_option maxRecDepth 100000 in
theorem ok18 : (codeOk Tryd.f18.ntmps A18 (Tryd.f18.body.getD .skip) 0 && Nat.ble 4 Tryd.f18.ntmps) = true := by kernel_rfl
set_option maxRecDepth 100000 in
theorem lift18 {t0 t1 t2 t3 : Value} {w : World} {R : Ending → World → Prop} (h : S18 t0 t1 t2 t3 w R) : Calls Tryd.prog 18 #[t0, t1, t2, t3] w R :=
  calls_of_cw (fn := Tryd.f18) (c := Tryd.f18.body.getD .skip) A18 mixes Tryd.func18 (by kernel_rfl) ok18
    ((by kernel_rfl : (S18 t0 t1 t2 t3 w R) = cw Tryd.prog A18 (Tryd.f18.body.getD .skip) 0 (bodyQ Tryd.prog Tryd.f18 R) (frOf #[t0, t1, t2, t3]) w).mp h)

theorem fok7 : fnOk Tryd.prog 7 = true := by kernel_rfl
theorem fok18 : fnOk Tryd.prog 18 = true := by kernel_rfl
end Go.Proofs.YtbekeccfjmoonaaDoor
