/- Texts of my own, merged by program: Tk Tl. -/
import Derived.Test.YtbekeccfjmoonaaDoorM18
set_option linter.all false
/- Contracts of weight: covered; ContainsFunc at tiles. -/
namespace Go.Proofs.YtbekeccfjmoonaaDoor
open Go.Lf Go.RowKit Go.Ht

/-- The number of a cell. -/
def numI (P : List C2) (c : C2) : Int := ((P.idxOf c : Nat) : Int)
theorem numF_mem {P : List C2} {c : C2} (h : c ∈ P) : numF P c = some (.int .i64 (numI P c)) := by unfold numF numI; rw [if_pos h]
theorem numF_not {P : List C2} {c : C2} (h : c ∉ P) : numF P c = none := by unfold numF; rw [if_neg h]
theorem stepC_zero (c : C2) : stepC c (0, 0) = c := by unfold stepC; simp

set_option maxRecDepth 100000 in
set_option maxHeartbeats 1000000 in
theorem covered_calls {base bf bm k : Nat} {vs v : Value} {P : List C2} {c : C2} (w : World) (hF : FloorAt base w bf bm vs P) (hr : RdC w v (domT k)) (hc : c ∈ P) (h0 : 0 ≤ c.1 ∧ c.1 ≤ 1000 ∧ 0 ≤ c.2 ∧ c.2 ≤ 1000) :
    Calls Tryd.prog 50 #[ptrV bf, v, cV c] w fun e w' => Kp w w' ∧ ((stepC c (domS k) ∈ P ∧ ∃ v', e = .returned (.tuple #[v', .bool true]) ∧ IntsAt w.heap.size w' v' [numI P c, numI P (stepC c (domS k))]) ∨ (stepC c (domS k) ∉ P ∧ ∃ x, e = .returned (.tuple #[x, .bool false]))) := by
  obtain ⟨a, cap, ev, _⟩ := hr.len
  have lnv : ∀ K : Value → Prop, ln1 v K = K (.int .i64 ((2 : Nat) : Int)) := fun K => by rw [ev]; rfl
  refine lift50 ?_
  unfold S50
  refine r_box fun b5 w1 e5 s5 h5 k1 => ?_
  have h5' : w1.heap[b5]? = some (.cells #[.int .i64 c.1, .int .i64 c.2] 43 (0, 0)) := h5
  rw [lnv]
  unfold S50L0
  refine ⟨fun t8 t15 w' => ∃ i : Nat, i ≤ 2 ∧ t15 = .int .i64 i ∧ IntsAt w1.heap.size w' t8 ([numI P c, numI P (stepC c (domS k))].take i) ∧ (∀ j, j < i → stepC c ((domT k).getD j (0, 0)) ∈ P) ∧ Kp w1 w', fun _ t15 _ => 2 - (intOf t15).toNat, ⟨0, by omega, rfl, RecAt.nil, fun j hj => by omega, Kp.refl _⟩, ?_⟩
  rintro _ t8 _ wr ⟨i, hi, rfl, hO, hall, kr⟩
  have k0r := Kp.trans k1 kr
  by_cases hlt : i < 2
  case neg =>
    have hlt' : ¬ (i : Int) < ((2 : Nat) : Int) := by omega
    rw [r_lss, decide_eq_false hlt', r_condF]
    obtain rfl : i = 2 := by omega
    exact ⟨k0r, .inl ⟨hall 1 (by omega), t8, rfl, RecAt.down hO k1.size⟩⟩
  have hlt' : (i : Int) < ((2 : Nat) : Int) := by omega
  rw [r_lss, decide_eq_true hlt', r_condT, cell_at (hr.kp k0r) (i := i) hlt]
  have hb : 0 ≤ ((domT k).getD i (0, 0)).1 ∧ ((domT k).getD i (0, 0)).1 ≤ 1 ∧ 0 ≤ ((domT k).getD i (0, 0)).2 ∧ ((domT k).getD i (0, 0)).2 ≤ 1 := by
    match i, hlt with
    | 0, _ => exact ⟨Int.le_refl 0, Int.zero_le_ofNat 1, Int.le_refl 0, Int.zero_le_ofNat 1⟩
    | 1, _ => show 0 ≤ (domS k).1 ∧ (domS k).1 ≤ 1 ∧ 0 ≤ (domS k).2 ∧ (domS k).2 ≤ 1; rcases domS_or k with e | e <;> rw [e] <;> exact ⟨by decide, by decide, by decide, by decide⟩
  have hq : [numI P c, numI P (stepC c (domS k))].take (i + 1) = [numI P c, numI P (stepC c (domS k))].take i ++ [numI P (stepC c ((domT k).getD i (0, 0)))] := by
    match i, hlt with
    | 0, _ => show [numI P c] = [numI P (stepC c (0, 0))]; rw [stepC_zero]
    | 1, _ => rfl
  have hlast : stepC c ((domT k).getD i (0, 0)) ∉ P → i = 1 := fun h => by
    match i, hlt with
    | 0, _ => exact absurd (by show stepC c (0, 0) ∈ P; rw [stepC_zero]; exact hc) h
    | 1, _ => rfl
  have hs1 : i = 1 → (domT k).getD i (0, 0) = domS k := fun e => by rw [e]; rfl
  generalize hqd : (domT k).getD i (0, 0) = q at *
  refine r_box fun b10 w2 e10 s10 h10 k2 => ?_
  have h10' : w2.heap[b10]? = some (.cells #[.int .i64 0, .int .i64 0] 43 (0, 0)) := h10
  refine st43 (p := q) h10' fun w3 c3 s3 h103 => ?_
  have kr3 : Kp wr w3 := Kp.of_chg k2 c3 fun q e => by omega
  refine r_drew fun w4 k4 _ => ?_
  have kr4 := Kp.trans kr3 k4
  have F4 := hF.kp (Kp.trans k0r kr4)
  obtain ⟨c0, c1⟩ := c_cells (p := c) (block_below h5' (Kp.trans kr kr4))
  obtain ⟨d0, d1⟩ := c_cells (p := q) (block_below h103 k4)
  rw [r_nc, r_fa, r_ld F4.cells.2]
  simp only [r_fa, Nat.zero_add, r_ld c0, r_ld c1, r_ld d0, r_ld d1]
  rw [r_add _ _ (by omega) (by omega), r_add _ _ (by omega) (by omega), bd43]
  refine r_lkOG2 keyC und53 zero3 F4.mp (k := stepC c q) ⟨⟨by unfold stepC; dsimp only; omega, by unfold stepC; dsimp only; omega⟩, ⟨by unfold stepC; dsimp only; omega, by unfold stepC; dsimp only; omega⟩⟩ ?_
  rw [r_ex2a, r_ex2b, r_not]
  by_cases hm : stepC c q ∈ P
  · rw [numF_mem hm]
    show condW (.bool false) _ _
    rw [r_condF]
    show bsW Tryd.prog 31 1 [(0, .int .i64 (numI P (stepC c q)))] w4 _
    refine r_pushRec (x := numI P (stepC c q)) (ty := 31) slt31 iC_len rfl (fun K => bs31 _ _ _ K) (by simp [iC]; rfl) (by omega) (RecAt.kp hO kr4) (by simp; omega) (Kp.trans kr kr4).size fun v' w' o1 c1' _ => ?_
    rw [r_add _ _ (by omega) (by omega)]
    refine ⟨⟨i + 1, by omega, by go_num, by rw [hq]; exact o1, fun j hj => ?_, Kp.of_chg (Kp.trans kr kr4) c1' fun k' hk => (RecAt.lt hO hk).1⟩, by simp only [intOf]; omega⟩
    by_cases e : j = i
    · rw [e, hqd]; exact hm
    · exact hall j (by omega)
  · rw [numF_not hm]
    show condW (.bool true) _ _
    rw [r_condT]
    refine ⟨Kp.trans k0r kr4, .inr ⟨?_, _, rfl⟩⟩
    rw [← hs1 (hlast hm)]; exact hm

set_option maxRecDepth 100000 in
theorem same_calls {v u : Value} {b : Nat} (w : World) (hb : w.cell? ⟨b, 0, none⟩ = some u) (hr : RdC w v (domT 0)) (hu : RdC w u (domT 1)) : Calls Tryd.prog 48 #[v, ptrV b] w fun e w' => e = .returned (.bool false) ∧ Kp w w' := by
  refine lift48 ?_
  unfold S48
  rw [r_ld hb]
  refine r_use fok49 (equal_calls w hr hu) rfl ?_
  rintro _ w1 ⟨rfl, k1⟩
  exact ⟨_, rfl, rfl, k1⟩

set_option maxRecDepth 100000 in
theorem idx72_calls {v u : Value} {L : List Value} {b : Nat} (w : World) (hv : Rd 1 vE w v L) (hl : L.length ≤ 1000) (hb : w.cell? ⟨b, 0, none⟩ = some u) (hL : ∀ x ∈ L, RdC w x (domT 0) ∧ RdC w u (domT 1)) :
    Calls Tryd.prog 72 #[v, .func (.func 48) #[] #[ptrV b]] w fun e w' => e = .returned (.int .i64 (-1)) ∧ Kp w w' := by
  obtain ⟨a, cap, ev, _⟩ := hv.len
  have lnv : ∀ K : Value → Prop, ln1 v K = K (.int .i64 L.length) := fun K => by rw [ev]; rfl
  refine lift72 ?_
  unfold S72
  rw [lnv]
  unfold S72L0
  refine ⟨fun t8 wr => ∃ i : Nat, i ≤ L.length ∧ t8 = .int .i64 i ∧ Kp w wr, fun t8 _ => L.length - (intOf t8).toNat, ⟨0, by omega, rfl, Kp.refl _⟩, ?_⟩
  rintro _ _ wr ⟨i, hi, rfl, kr⟩
  by_cases hlt : i < L.length
  case neg =>
    have hlt' : ¬ (i : Int) < (L.length : Int) := by omega
    rw [r_lss, decide_eq_false hlt', r_condF]
    exact ⟨rfl, kr⟩
  have hlt' : (i : Int) < (L.length : Int) := by omega
  obtain ⟨b', off, cap', e2, _, hc⟩ := (hv.kp kr).at (List.getElem?_eq_getElem hlt)
  have hA := hc 0 _ rfl
  rw [Nat.add_zero] at hA
  have hii : (i : Int).toNat = i := by omega
  rw [r_lss, decide_eq_true hlt', r_condT, e2, r_iaS _ _ _ _ _ _ _ (by omega) (by omega), hii, r_ld hA]
  obtain ⟨g1, g2⟩ := hL L[i] (List.getElem_mem hlt)
  refine r_use fok48 (same_calls wr (cell_later kr hb) (g1.kp kr) (g2.kp kr)) rfl ?_
  rintro _ w2 ⟨rfl, k2⟩
  refine ⟨_, rfl, ?_⟩
  rw [r_condF, r_add _ _ (by omega) (by omega)]
  exact ⟨⟨i + 1, by omega, by go_num, Kp.trans kr k2⟩, by simp only [intOf]; omega⟩

set_option maxRecDepth 100000 in
theorem twice_calls {v u : Value} {L : List Value} {b : Nat} (w : World) (hv : Rd 1 vE w v L) (hl : L.length ≤ 1000) (hb : w.cell? ⟨b, 0, none⟩ = some u) (hL : ∀ x ∈ L, RdC w x (domT 0) ∧ RdC w u (domT 1)) :
    Calls Tryd.prog 47 #[v, .func (.func 48) #[] #[ptrV b]] w fun e w' => e = .returned (.bool false) ∧ Kp w w' := by
  refine lift47 ?_
  unfold S47
  refine r_use fok72 (idx72_calls w hv hl hb hL) rfl ?_
  rintro _ w1 ⟨rfl, k1⟩
  refine ⟨_, rfl, ?_⟩
  rw [r_geq, decide_eq_false (by omega)]
  exact ⟨rfl, k1⟩

end Go.Proofs.YtbekeccfjmoonaaDoor

/- Contract of weight: of. -/
namespace Go.Proofs.YtbekeccfjmoonaaDoor
open Go.Lf Go.RowKit Go.Ht

abbrev Pu := Nat × C2
def pC (p : Pu) : List Value := [.int .i64 p.1, .int .i64 p.2.1, .int .i64 p.2.2]
theorem pC_len (p : Pu) : (pC p).length = 3 := rfl
theorem pC_one (p : Pu) : ∀ u ∈ pC p, u.oneCell' = true := by
  intro u hu
  simp only [pC, List.mem_cons, List.not_mem_nil, or_false] at hu
  rcases hu with rfl | rfl | rfl <;> rfl
abbrev pV (p : Pu) : Value := .agg #[.int .i64 p.1, .int .i64 p.2.1, .int .i64 p.2.2]
set_option maxRecDepth 100000 in
theorem slt36 : SlT 36 106 3 24 := SlT.mk' (z := pV (0, (0, 0))) (by kernel_rfl) (by kernel_rfl) rfl (by decide)
set_option maxRecDepth 100000 in
theorem bd106 {a x y : Int} {K : Value → Prop} : bdQ Tryd.prog 106 [(0, .int .i64 a), (1, .int .i64 x), (2, .int .i64 y)] K = K (.agg #[.int .i64 a, .int .i64 x, .int .i64 y]) := by kernel_rfl
set_option maxRecDepth 100000 in
theorem bs36 (p : Pu) (w : World) (K : Value → World → Prop) : bsW Tryd.prog 36 1 [(0, pV p)] w K = K (.slice (some ⟨w.heap.size, 0, none⟩) 1 1) (w.alloc (.cells (pV p).cells 106)) := by kernel_rfl
theorem st36 {w : World} {a : Addr} {x : Option Addr} {n c : Nat} {v : Value} {K : World → Prop} (hc : w.cell? a = some v) (hf : w.frozen? a = false) : stW Tryd.prog 36 (.pointer (some a)) (.slice x n c) w K = K (w.setCell a (.slice x n c)) := by
  have e : stW Tryd.prog 36 (.pointer (some a)) (.slice x n c) w K = ((w.cell? (a.add 0)).isSome = true ∧ w.frozen? (a.add 0) = false ∧ true = true ∧ K (w.setCell (a.add 0) (.slice x n c))) := by kernel_rfl
  rw [e]
  have ha : a.add 0 = a := rfl
  simp [ha, hc, hf]
set_option maxRecDepth 100000 in
theorem bd52 {b : Nat} {a : Option Addr} {n c : Nat} {K : Value → Prop} : bdQ Tryd.prog 52 [(0, ptrV b), (1, .slice a n c)] K = K (.agg #[ptrV b, .slice a n c, nilS, nilS]) := by kernel_rfl
set_option maxRecDepth 100000 in
theorem st61 {w : World} {b : Nat} {x : Value} {a : Option Addr} {n c : Nat} {K : World → Prop} (h : w.heap[b]? = some (.cells #[x] 61 (0, 0))) (hk : ∀ w', Chg (fun k => k = b) w w' → w'.heap.size = w.heap.size → w'.heap[b]? = some (.cells #[.slice a n c] 61 (0, 0)) → K w') : stW Tryd.prog 61 (ptrV b) (.slice a n c) w K :=
  r_stAll (n := 1) (by kernel_rfl) rfl (by intro u hu; simp [Value.cells] at hu; rcases hu with rfl; rfl) h rfl fun w' h1 h2 h3 => hk w' h1 h2 h3

/-- The puts of the dominoes at a cell, and at all cells. -/
def putJ (P : List C2) (c : C2) (j : Nat) : List Pu := ((List.range j).filter fun k => decide (stepC c (domS k) ∈ P)).map fun k => (k, c)
def putsP (P : List C2) (i : Nat) : List Pu := (P.take i).flatMap fun c => putJ P c 2
def putsU (P : List C2) : List Pu := putsP P P.length
theorem putJ_succ (P : List C2) (c : C2) (j : Nat) : putJ P c (j + 1) = putJ P c j ++ if stepC c (domS j) ∈ P then [(j, c)] else [] := by
  unfold putJ
  rw [List.range_succ, List.filter_append, List.map_append]
  congr 1
  by_cases h : stepC c (domS j) ∈ P <;> simp [h]
theorem putJ_le (P : List C2) (c : C2) (j : Nat) : (putJ P c j).length ≤ j := by
  unfold putJ
  rw [List.length_map]
  exact Nat.le_trans (List.length_filter_le _ _) (by simp)
theorem putsP_succ {P : List C2} {i : Nat} (hi : i < P.length) : putsP P (i + 1) = putsP P i ++ putJ P (P.getD i (0, 0)) 2 := by
  unfold putsP
  rw [take_succ' _ _ hi, List.flatMap_append, ← getD_lt P i (0, 0) hi]
  simp
theorem putsP_le (P : List C2) : ∀ i, i ≤ P.length → (putsP P i).length ≤ 2 * i
  | 0, _ => by simp [putsP]
  | i + 1, h => by
    have := putsP_le P i (by omega)
    have := putJ_le P (P.getD i (0, 0)) 2
    rw [putsP_succ (by omega), List.length_append]; omega
theorem putsU_mem {P : List C2} {p : Pu} (h : p ∈ putsU P) : p.2 ∈ P ∧ stepC p.2 (domS p.1) ∈ P ∧ p.1 < 2 := by
  unfold putsU putsP at h
  rw [List.take_length] at h
  obtain ⟨c, hc, hp⟩ := List.mem_flatMap.1 h
  unfold putJ at hp
  obtain ⟨k, hk, rfl⟩ := List.mem_map.1 hp
  obtain ⟨h1, h2⟩ := List.mem_filter.1 hk
  exact ⟨hc, by simpa using h2, List.mem_range.1 h1⟩
/-- The numbers of the cells that a put covers. -/
def covOf (P : List C2) (p : Pu) : List Int := [numI P p.2, numI P (stepC p.2 (domS p.1))]

/-- A problem in memory. -/
structure PrAt (base : Nat) (w : World) (bp bf bm : Nat) (fv tv pv cv : Value) (vs : List Value) (P : List C2) (PU : List Pu) : Prop where
  fl : FloorAt base w bf bm fv P
  box : w.heap[bp]? = some (.cells #[ptrV bf, tv, pv, cv] 52 (0, 0))
  pb : base ≤ bp
  pu : RecAt 106 3 pC base w pv PU
  co : RecAt 31 1 vE base w cv vs
  len : vs.length = PU.length
  rows : ∀ (i : Nat) (u : Value) (r : Pu), vs[i]? = some u → PU[i]? = some r → IntsAt base w u (covOf P r)

/-- What changes is but blocks of puts and of covers. -/
def TyS (S : Nat → Prop) (w : World) (T : TypeId → Prop) : Prop := ∀ k, S k → k < w.heap.size → ∃ cur t fr, w.heap[k]? = some (.cells cur t fr) ∧ T t
theorem ty_rec {α : Type} {e : TypeId} {m : Nat} {enc : α → List Value} {base : Nat} {w w' : World} {v : Value} {P : List α} {S : Nat → Prop} {T : TypeId → Prop} (h : RecAt e m enc base w v P) (c : Chg S w w') (hS : TyS S w T) (he : ¬ T e) : RecAt e m enc base w' v P :=
  RecAt.chg h c fun k hk hs => by
    obtain ⟨cur, h1⟩ := own_type h hk
    obtain ⟨cur', t, fr, h2, h3⟩ := hS k hs (block_lt h1)
    rw [h1] at h2
    injection h2 with h2
    injection h2 with _ h2 _
    exact he (h2 ▸ h3)
theorem ty_blk {w w' : World} {b : Nat} {cs : Array Value} {t : TypeId} {fr : Nat × Nat} {S : Nat → Prop} {T : TypeId → Prop} (h : w.heap[b]? = some (.cells cs t fr)) (c : Chg S w w') (hS : TyS S w T) (he : ¬ T t) : w'.heap[b]? = some (.cells cs t fr) :=
  c.at h fun hs => by
    obtain ⟨cur', t', fr', h2, h3⟩ := hS b hs (block_lt h)
    rw [h] at h2
    injection h2 with h2
    injection h2 with _ h2 _
    exact he (h2 ▸ h3)
theorem ty_map {w w' : World} {b : Nat} {f : C2 → Option Value} {S : Nat → Prop} {T : TypeId → Prop} (h : MapO cV okC w b f) (c : Chg S w w') (hS : TyS S w T) : MapO cV okC w' b f :=
  h.chg c fun hs => by
    obtain ⟨_, _, h1, _⟩ := h
    obtain ⟨cur', t', fr', h2, _⟩ := hS b hs (block_lt h1)
    rw [h1] at h2
    cases h2
theorem ty_floor {base : Nat} {w w' : World} {bf bm : Nat} {vs : Value} {P : List C2} {S : Nat → Prop} {T : TypeId → Prop} (h : FloorAt base w bf bm vs P) (c : Chg S w w') (hS : TyS S w T) (h1 : ¬ T 55) (h2 : ¬ T 43) : FloorAt base w' bf bm vs P :=
  ⟨ty_blk h.box c hS h1, ty_rec h.cl c hS h2, ty_map h.mp c hS, h.fb, h.mb⟩
theorem tyS_own {α : Type} {e : TypeId} {m : Nat} {enc : α → List Value} {base : Nat} {w : World} {v : Value} {P : List α} {T : TypeId → Prop} (h : RecAt e m enc base w v P) (hT : T e) : TyS (fun k => v.ownBlock = some k) w T := fun k hk _ => by
  obtain ⟨cur, h1⟩ := own_type h hk
  exact ⟨cur, e, _, h1, hT⟩
theorem PrAt.kp {base : Nat} {w w' : World} {bp bf bm : Nat} {fv tv pv cv : Value} {vs : List Value} {P : List C2} {PU : List Pu} (h : PrAt base w bp bf bm fv tv pv cv vs P PU) (k : Kp w w') : PrAt base w' bp bf bm fv tv pv cv vs P PU :=
  ⟨h.fl.kp k, block_below h.box k, h.pb, h.pu.kp k, h.co.kp k, h.len, fun i u r h1 h2 => (h.rows i u r h1 h2).kp k⟩
theorem PrAt.cells {base : Nat} {w : World} {bp bf bm : Nat} {fv tv pv cv : Value} {vs : List Value} {P : List C2} {PU : List Pu} (h : PrAt base w bp bf bm fv tv pv cv vs P PU) :
    w.cell? ⟨bp, 0, none⟩ = some (ptrV bf) ∧ w.cell? ⟨bp, 1, none⟩ = some tv ∧ w.cell? ⟨bp, 2, none⟩ = some pv ∧ w.cell? ⟨bp, 3, none⟩ = some cv := by
  refine ⟨?_, ?_, ?_, ?_⟩ <;> rw [cell_row h.box] <;> rfl

/-- The two dominoes as tiles in memory. -/
def TilesAt (w : World) (tv : Value) : Prop := ∃ v0 v1, Rd 1 vE w tv [v0, v1] ∧ RdC w v0 (domT 0) ∧ RdC w v1 (domT 1)
theorem TilesAt.kp {w w' : World} {tv : Value} (h : TilesAt w tv) (k : Kp w w') : TilesAt w' tv := let ⟨a, b, h1, h2, h3⟩ := h; ⟨a, b, h1.kp k, h2.kp k, h3.kp k⟩
theorem tile_at {w : World} {tv : Value} (h : TilesAt w tv) {i : Nat} (hi : i < 2) : ∃ a n c, RdC w (.slice a n c) (domT i) ∧ ∀ w', Kp w w' → ∀ K : Value → Prop, (iaS 1 tv (.int .i64 i) fun p => ld1 w' p K) = K (.slice a n c) := by
  obtain ⟨v0, v1, h1, h2, h3⟩ := h
  have hx : RdC w (([v0, v1] : List Value).getD i nilS) (domT i) := by
    match i, hi with
    | 0, _ => exact h2
    | 1, _ => exact h3
  obtain ⟨a, c, e, _⟩ := hx.len
  refine ⟨a, (domT i).length, c, e ▸ hx, fun w' k K => ?_⟩
  have hlt : i < ([v0, v1] : List Value).length := hi
  obtain ⟨b', off, cap', e2, _, hc⟩ := (h1.kp k).at (List.getElem?_eq_getElem hlt)
  have hA := hc 0 _ rfl
  rw [Nat.add_zero] at hA
  have hii : (i : Int).toNat = i := by omega
  rw [e2, r_iaS _ _ _ _ _ _ _ (by omega) (by omega), hii, r_ld hA, ← e, getD_lt _ _ _ hlt]

set_option maxRecDepth 100000 in
set_option maxHeartbeats 4000000 in
/-- One put more. -/
theorem r17_put {base : Nat} {wr : World} {bp bf bm b12 k : Nat} {fv tv pv cv rv : Value} {c : C2} {vs : List Value} {P : List C2} {PU : List Pu} {next_2 : World → Prop}
    (hP : PrAt base wr bp bf bm fv tv pv cv vs P PU) (hrow : IntsAt base wr rv (covOf P (k, c))) (h12 : wr.heap[b12]? = some (.cells #[.int .i64 c.1, .int .i64 c.2] 43 (0, 0))) (hb12 : base ≤ b12) (hn : PU.length + 1 ≤ 1000) (hb : base ≤ wr.heap.size)
    (hnext : ∀ (pv' cv' : Value) (w' : World), PrAt base w' bp bf bm fv tv pv' cv' (vs ++ [rv]) P (PU ++ [(k, c)]) → Chg (fun q => base ≤ q) wr w' → w'.heap[b12]? = some (.cells #[.int .i64 c.1, .int .i64 c.2] 43 (0, 0)) → next_2 w') :
          Drew wr fun w =>
          Join (fun (k_3 : World → Prop) =>
            ∃ X : Nat → Prop,
            takeX X w (fun w k => k (ptrV bp)) fun t80 =>
            takeX topX w (fun w k => k (ptrV bp)) fun t81 =>
            takeX X w (fun w k => k (ptrV bp)) fun t82 =>
            takeX X w (fun w k => ncQ t82 k) fun t83 =>
            takeX X w (fun w k => fa1 t83 2 k) fun t84 =>
            takeX X w (fun w k => ld1 w t84 k) fun t85 =>
            takeX X w (fun w kk => kk (.int .i64 k)) fun t86 =>
            takeX X w (fun w k => fa1 (ptrV b12) 0 k) fun t87 =>
            takeX X w (fun w k => ld1 w t87 k) fun t88 =>
            takeX X w (fun w k => fa1 (ptrV b12) 1 k) fun t89 =>
            takeX X w (fun w k => ld1 w t89 k) fun t90 =>
            takeX X w (fun w k => bdQ Tryd.prog 106 [(0, t86), (1, t88), (2, t90)] k) fun t91 =>
            takeX X w (fun w k => k (ptrV bp)) fun t94 =>
            takeX X w (fun w k => ncQ t94 k) fun t95 =>
            takeX X w (fun w k => fa1 t95 3 k) fun t96 =>
            takeX X w (fun w k => ld1 w t96 k) fun t97 =>
            takeX X w (fun w k => k rv) fun t98 =>
            And (
              bsW Tryd.prog 36 1 [(0, t91)] w <| keepX X w fun t92 w =>
              And (
                semW Tryd.prog (apS [36, 36] 36 [t85, t92]) w <| keepX X w fun t93 w =>
                bsW Tryd.prog 50 1 [(0, t98)] w <| keepX X w fun t99 w =>
                semW Tryd.prog (apS [50, 50] 50 [t97, t99]) w <| keepX X w fun t100 w =>
                takeX X w (fun w k => ncQ t80 k) fun t101 =>
                takeX X w (fun w k => fa1 t101 2 k) fun t102 =>
                stW Tryd.prog 36 t102 t93 w <| keepW topX w fun w =>
                takeX topX w (fun w k => ncQ t81 k) fun t103 =>
                takeX topX w (fun w k => fa1 t103 3 k) fun t104 =>
                stW Tryd.prog 50 t104 t100 w fun w =>
                k_3  w
              ) <|
              And (
                bsW Tryd.prog 50 1 [(0, t98)] w <| keepX X w fun t99_2 w =>
                semW Tryd.prog (apS [36, 36] 36 [t85, t92]) w <| keepX X w fun t93_2 w =>
                semW Tryd.prog (apS [50, 50] 50 [t97, t99_2]) w <| keepX X w fun t100_2 w =>
                takeX X w (fun w k => ncQ t80 k) fun t101_2 =>
                takeX X w (fun w k => fa1 t101_2 2 k) fun t102_2 =>
                stW Tryd.prog 36 t102_2 t93_2 w <| keepW topX w fun w =>
                takeX topX w (fun w k => ncQ t81 k) fun t103_2 =>
                takeX topX w (fun w k => fa1 t103_2 3 k) fun t104_2 =>
                stW Tryd.prog 50 t104_2 t100_2 w fun w =>
                k_3  w
              ) <|
              True
            ) <|
            And (
              bsW Tryd.prog 50 1 [(0, t98)] w <| keepX X w fun t99_3 w =>
              bsW Tryd.prog 36 1 [(0, t91)] w <| keepX X w fun t92_2 w =>
              semW Tryd.prog (apS [36, 36] 36 [t85, t92_2]) w <| keepX X w fun t93_3 w =>
              semW Tryd.prog (apS [50, 50] 50 [t97, t99_3]) w <| keepX X w fun t100_3 w =>
              takeX X w (fun w k => ncQ t80 k) fun t101_3 =>
              takeX X w (fun w k => fa1 t101_3 2 k) fun t102_3 =>
              stW Tryd.prog 36 t102_3 t93_3 w <| keepW topX w fun w =>
              takeX topX w (fun w k => ncQ t81 k) fun t103_3 =>
              takeX topX w (fun w k => fa1 t103_3 3 k) fun t104_3 =>
              stW Tryd.prog 50 t104_3 t100_3 w fun w =>
              k_3  w
            ) <|
            True
          ) fun  w => next_2 w := by
  refine r_drew fun w2 k2 _ => ?_
  have P2 := hP.kp k2
  have sz2 := k2.size
  have h122 := block_below h12 k2
  have hrow2 := RecAt.kp hrow k2
  obtain ⟨d0, d1⟩ := c_cells (p := c) h122
  obtain ⟨p0, p1, p2, p3⟩ := P2.cells
  obtain ⟨ra, rc, er, _⟩ := RecAt.len hrow2
  have bpl : bp < wr.heap.size := block_lt hP.box
  have b12l : b12 < wr.heap.size := block_lt h12
  refine r_joinW (fun w' => ∃ pv' cv', PrAt base w' bp bf bm fv tv pv' cv' (vs ++ [rv]) P (PU ++ [(k, c)]) ∧ Chg (fun q => base ≤ q) wr w' ∧ w'.heap[b12]? = some (.cells #[.int .i64 c.1, .int .i64 c.2] 43 (0, 0))) ?_ fun kk hkk => ?_
  · rintro w' ⟨pv', cv', g1, g2, g3⟩
    exact hnext pv' cv' w' g1 g2 g3
  let T : TypeId → Prop := fun t => t = 106 ∨ t = 31
  have nT52 : ¬ T 52 := by rintro (h | h) <;> exact absurd h (by decide)
  have nT43 : ¬ T 43 := by rintro (h | h) <;> exact absurd h (by decide)
  have nT55 : ¬ T 55 := by rintro (h | h) <;> exact absurd h (by decide)
  have nT3 : ¬ T 3 := by rintro (h | h) <;> exact absurd h (by decide)
  let X : Nat → Prop := fun q => pv.ownBlock = some q ∨ cv.ownBlock = some q ∨ w2.heap.size ≤ q
  have hXT : TyS X w2 T := fun q hq hl => by
    rcases hq with h | h | h
    · exact tyS_own P2.pu (.inl rfl) q h hl
    · exact tyS_own P2.co (.inr rfl) q h hl
    · omega
  have nX : ∀ {b : Nat} {cs : Array Value} {t : TypeId}, w2.heap[b]? = some (.cells cs t (0, 0)) → ¬ T t → ¬ X b := fun {b cs t} h ht hx => by
    obtain ⟨cur', t', fr', h2, h3⟩ := hXT b hx (block_lt h)
    rw [h] at h2
    injection h2 with h2
    injection h2 with _ h2 _
    exact ht (h2 ▸ h3)
  have nXp := nX P2.box nT52
  have nX12 := nX h122 nT43
  have hbw : base ≤ w2.heap.size := by omega
  -- the end: both lists are longer
  have fin : ∀ (w : World) (pv' cv' : Value), Chg X w2 w → RecAt 106 3 pC base w pv' (PU ++ [(k, c)]) → RecAt 31 1 vE base w cv' (vs ++ [rv]) →
      (stW Tryd.prog 36 (.pointer (some ⟨bp, 2, none⟩)) pv' w <| keepW topX w fun w => stW Tryd.prog 50 (.pointer (some ⟨bp, 3, none⟩)) cv' w fun w => kk w) := fun w pv' cv' C hp hc => by
    have hbox := ty_blk P2.box C hXT nT52
    have cp2 : w.cell? ⟨bp, 2, none⟩ = some pv := by rw [cell_row hbox]; rfl
    obtain ⟨pa, pc, ep, _⟩ := RecAt.len hp
    obtain ⟨ca, cc, ec, _⟩ := RecAt.len hc
    rw [ep, st36 cp2 (frozen_row hbox), ← ep]
    have c1 : Chg (fun q => q = bp) w (w.setCell ⟨bp, 2, none⟩ pv') := Chg.setCell w pv' rfl
    have hbox1 := setCell_block (w' := w.setCell ⟨bp, 2, none⟩ pv') hbox rfl
    refine ⟨BX.of_chg c1 fun q _ => trivial, ?_⟩
    generalize w.setCell ⟨bp, 2, none⟩ pv' = w3 at *
    have cp3 : w3.cell? ⟨bp, 3, none⟩ = some cv := by rw [cell_row hbox1]; rfl
    rw [ec, st50 cp3 (frozen_row hbox1), ← ec]
    have c2 : Chg (fun q => q = bp) w3 (w3.setCell ⟨bp, 3, none⟩ cv') := Chg.setCell w3 cv' rfl
    have hbox2 := setCell_block (w' := w3.setCell ⟨bp, 3, none⟩ cv') hbox1 rfl
    have c12 := c1.trans c2
    generalize w3.setCell ⟨bp, 3, none⟩ cv' = w4 at *
    have hS52 : TyS (fun q => q = bp) w (fun t => t = 52) := fun q hq _ => by subst hq; exact ⟨_, _, _, hbox, rfl⟩
    have n3 : ∀ {t : TypeId}, t ≠ 52 → ¬ (fun t : TypeId => t = 52) t := fun h e => h e
    refine hkk _ ⟨pv', cv', ⟨ty_floor (ty_floor P2.fl C hXT nT55 nT43) c12 hS52 (n3 (by decide)) (n3 (by decide)), hbox2, hP.pb, ty_rec hp c12 hS52 (n3 (by decide)), ty_rec hc c12 hS52 (n3 (by decide)), by simp [hP.len], fun i u r h1 h2 => ?_⟩, ?_, ?_⟩
    · have hi : i < PU.length ∨ i = PU.length := by
        have := (List.getElem?_eq_some_iff.1 h2).1
        simp at this; omega
      rcases hi with hi | hi
      · rw [List.getElem?_append_left (by rw [hP.len]; exact hi)] at h1
        rw [List.getElem?_append_left hi] at h2
        exact ty_rec (ty_rec (P2.rows i u r h1 h2) C hXT nT3) c12 hS52 (n3 (by decide))
      · subst hi
        rw [List.getElem?_append_right (by simp), Nat.sub_self] at h2
        rw [List.getElem?_append_right (by rw [hP.len]; simp), hP.len, Nat.sub_self] at h1
        cases h1
        cases h2
        exact ty_rec (ty_rec hrow2 C hXT nT3) c12 hS52 (n3 (by decide))
    · refine (Chg.of_kp k2).trans ((C.mono fun q _ hq => ?_).trans (c12.mono fun q _ e => by have := hP.pb; omega))
      rcases hq with h | h | h
      · exact (RecAt.lt P2.pu h).1
      · exact (RecAt.lt P2.co h).1
      · omega
    · exact ty_blk (ty_blk h122 C hXT nT43) c12 hS52 (n3 (by decide))
  refine ⟨X, ?_⟩
  simp only [r_nc, r_fa, Nat.zero_add, r_tx]
  rw [r_txl p2 nXp, r_txl d0 nX12, r_txl d1 nX12]
  simp only [bd106, r_tx]
  rw [r_txl p3 nXp]
  -- the steps
  have alloc1 : ∀ (w : World) (K : Value → World → Prop), (∀ s w', RecAt 106 3 pC w.heap.size w' s [(k, c)] → Kp w w' → K s w') → bsW Tryd.prog 36 1 [(0, .agg #[.int .i64 k, .int .i64 c.1, .int .i64 c.2])] w K := fun w K hK => by
    rw [show (Value.agg #[.int .i64 (k : Int), .int .i64 c.1, .int .i64 c.2]) = pV (k, c) from rfl, bs36]
    refine hK _ _ ?_ (below_alloc _)
    have := rec_alloc (e := 106) pC_len [(k, c)] (by simp) w
    simp [recCells, pC] at this
    exact this
  have alloc2 : ∀ (w : World) (K : Value → World → Prop), (∀ s w', RecAt 31 1 vE w.heap.size w' s [rv] → Kp w w' → K s w') → bsW Tryd.prog 50 1 [(0, rv)] w K := fun w K hK => by
    rw [er, bs50, ← er]
    refine hK _ _ ?_ (below_alloc _)
    exact rec_one (enc := vE) (x := rv) (z := rv) rfl w
  have push1 : ∀ (w : World) (s : Value) (bs : Nat) (K : Value → World → Prop), Chg X w2 w → RecAt 106 3 pC base w pv PU → RecAt 106 3 pC bs w s [(k, c)] → w2.heap.size ≤ bs → (∀ v' w', RecAt 106 3 pC base w' v' (PU ++ [(k, c)]) → Chg X w2 w' → BX X w w' → Chg (fun q => pv.ownBlock = some q) w w' → K v' w') → semW Tryd.prog (apS [36, 36] 36 [pv, s]) w K := fun w s bs K C h hs hbs hK => by
    refine r_apRec slt36 pC_len pC_one (by omega) h (hs.rd pC_len) (by simp; omega) (by have := C.size; omega) fun v' w' o c1 _ => ?_
    exact hK v' w' o (C.trans (c1.mono fun q _ e => .inl e)) (BX.of_chg c1 fun q e => .inl e) c1
  have push2 : ∀ (w : World) (s : Value) (bs : Nat) (K : Value → World → Prop), Chg X w2 w → RecAt 31 1 vE base w cv vs → RecAt 31 1 vE bs w s [rv] → w2.heap.size ≤ bs → (∀ v' w', RecAt 31 1 vE base w' v' (vs ++ [rv]) → Chg X w2 w' → BX X w w' → Chg (fun q => cv.ownBlock = some q) w w' → K v' w') → semW Tryd.prog (apS [50, 50] 50 [cv, s]) w K := fun w s bs K C h hs hbs hK => by
    have one : ∀ x ∈ [rv], x.oneCell' = true := by
      intro x hx
      rw [List.mem_singleton] at hx
      rw [hx, er]; rfl
    have hcell : ∀ u ∈ recCells vE [rv], u.oneCell' = true := by
      intro u hu
      simp [recCells] at hu
      rw [hu, er]; rfl
    obtain ⟨sa, sc, es, _⟩ := RecAt.len hs
    obtain ⟨g, cap, cur, es2, _, hg, _, _, _, ht⟩ := hs.blk (by simp)
    rw [es2]
    refine r_apAt (news := recCells vE [rv]) slt50 h (by simp [recCells]) (fun j u hj => ?_) hcell (by simp only [List.length_cons, List.length_nil]; have := hP.len; omega) (by omega) (by have := C.size; omega) fun v' w' ho c1 _ => ?_
    · rw [← ht, List.getElem?_take] at hj
      split at hj
      · rw [r_addr, Nat.zero_add, cell_row hg]; simpa using hj
      · cases hj
    · refine hK v' w' ?_ (C.trans (c1.mono fun q _ e => .inr (.inl e))) (BX.of_chg c1 fun q e => .inr (.inl e)) c1
      unfold RecAt
      rw [recCells_append, List.length_append]
      exact ho
  have k1X : ∀ {w w' : World}, Chg X w2 w → Kp w w' → Chg X w2 w' := fun C k => C.trans (Chg.of_kp k)
  have own1 : ∀ {w w' : World} {v : Value} {e : TypeId} {m : Nat} {α : Type} {enc : α → List Value} {b : Nat} {L : List α}, RecAt 106 3 pC base w pv PU → Chg (fun q => pv.ownBlock = some q) w w' → RecAt e m enc b w v L → e ≠ 106 → RecAt e m enc b w' v L := fun h c1 hv he => RecAt.chg hv c1 fun q hq e' => rec_ne hv h he q hq e'
  refine ⟨?_, ?_, trivial⟩
  · refine alloc1 w2 _ fun s1 w3 hs1 k3 => ⟨BX.of_below k3, ?_, ?_, trivial⟩
    · have C3 := Chg.of_kp (S := X) k3
      refine push1 w3 s1 _ _ C3 (P2.pu.kp k3) hs1 (Nat.le_refl _) fun pv' w4 hp4 C4 b4 c4 => ⟨b4, ?_⟩
      have co4 := own1 (P2.pu.kp k3) c4 (P2.co.kp k3) (by decide)
      refine alloc2 w4 _ fun s2 w5 hs2 k5 => ⟨BX.of_below k5, ?_⟩
      refine push2 w5 s2 _ _ (k1X C4 k5) (co4.kp k5) hs2 C4.size fun cv' w6 hc6 C6 b6 c6 => ⟨b6, ?_⟩
      refine fin w6 pv' cv' C6 (RecAt.chg (hp4.kp k5) c6 fun q hq e' => rec_ne (hp4.kp k5) (co4.kp k5) (by decide) q hq e') hc6
    · have C3 := Chg.of_kp (S := X) k3
      refine alloc2 w3 _ fun s2 w4 hs2 k4 => ⟨BX.of_below k4, ?_⟩
      have k34 := Kp.trans k3 k4
      refine push1 w4 s1 _ _ (k1X C3 k4) (P2.pu.kp k34) (hs1.kp k4) (Nat.le_refl _) fun pv' w5 hp5 C5 b5 c5 => ⟨b5, ?_⟩
      have co5 := own1 (P2.pu.kp k34) c5 (P2.co.kp k34) (by decide)
      have hs5 := own1 (P2.pu.kp k34) c5 hs2 (by decide)
      refine push2 w5 s2 _ _ C5 co5 hs5 k3.size fun cv' w6 hc6 C6 b6 c6 => ⟨b6, ?_⟩
      exact fin w6 pv' cv' C6 (RecAt.chg hp5 c6 fun q hq e' => rec_ne hp5 co5 (by decide) q hq e') hc6
  · refine alloc2 w2 _ fun s2 w3 hs2 k3 => ⟨BX.of_below k3, ?_⟩
    have C3 := Chg.of_kp (S := X) k3
    refine alloc1 w3 _ fun s1 w4 hs1 k4 => ⟨BX.of_below k4, ?_⟩
    have k34 := Kp.trans k3 k4
    refine push1 w4 s1 _ _ (k1X C3 k4) (P2.pu.kp k34) hs1 k3.size fun pv' w5 hp5 C5 b5 c5 => ⟨b5, ?_⟩
    have co5 := own1 (P2.pu.kp k34) c5 (P2.co.kp k34) (by decide)
    have hs5 := own1 (P2.pu.kp k34) c5 (hs2.kp k4) (by decide)
    refine push2 w5 s2 _ _ C5 co5 hs5 (Nat.le_refl _) fun cv' w6 hc6 C6 b6 c6 => ⟨b6, ?_⟩
    exact fin w6 pv' cv' C6 (RecAt.chg hp5 c6 fun q hq e' => rec_ne hp5 co5 (by decide) q hq e') hc6

set_option maxRecDepth 100000 in
set_option maxHeartbeats 2000000 in
theorem of_calls {v tv : Value} {l : List ByteArray} (w : World) (hr : RdB w v l) (hs : ∀ s ∈ l, s.size ≤ 9223372036854775807) (hT : TilesAt w tv) :
    Calls Tryd.prog 17 #[v, tv] w fun e w' => Kp w w' ∧ ((flB l = true ∧ ∃ bp bf bm fv pv cv vs, e = .returned (.tuple #[ptrV bp, .int .i64 0]) ∧ PrAt w.heap.size w' bp bf bm fv tv pv cv vs (cellsB l) (putsU (cellsB l))) ∨ (flB l = false ∧ e = .returned (.tuple #[.pointer none, .int .i64 2]))) := by
  obtain ⟨ta, tc, et, _⟩ := (show ∃ a c, tv = .slice a 2 c ∧ 2 ≤ c from by obtain ⟨v0, v1, h1, _⟩ := hT; exact h1.len)
  have lnt : ∀ K : Value → Prop, ln1 tv K = K (.int .i64 ((2 : Nat) : Int)) := fun K => by rw [et]; rfl
  refine lift17x ?_
  unfold S17x
  refine r_use fok45 (floored_calls w hr hs) rfl ?_
  rintro _ w1 ⟨k1, ⟨hf, bf, bm, fv, rfl, hF⟩ | ⟨hf, x, rfl⟩⟩
  case inr =>
    refine ⟨_, rfl, ?_⟩
    rw [r_ex2a, r_ex2b, r_not]
    simp only [Bool.not_false, r_gdTF, r_gdU, r_pickT, r_condT]
    exact ⟨k1, .inr ⟨hf, by first | rfl | trivial⟩⟩
  refine ⟨_, rfl, ?_⟩
  have hcl : (cellsB l).length ≤ 16 := by
    unfold flB at hf
    have hR := reg_ok (Bool.and_eq_true _ _ ▸ hf).1
    have h1 := cellsP_le l l.length
    have h2 : l.length * (l.getD 0 dB).size ≤ 4 * 4 := Nat.mul_le_mul hR.len.2 hR.wid.2
    show (cellsP l l.length).length ≤ 16
    omega
  have hR : RegOk l 4 := by unfold flB at hf; exact reg_ok (Bool.and_eq_true _ _ ▸ hf).1
  rw [r_ex2a, r_ex2b, r_not]
  simp only [Bool.not_true, r_gdFF, lnt, r_lss, r_gtr, decide_eq_false (show ¬ ((2 : Nat) : Int) < 1 by omega), decide_eq_false (show ¬ (6 : Int) < ((2 : Nat) : Int) by omega), r_pickF, r_condF]
  unfold S17xL0
  refine ⟨fun t36 w' => ∃ i : Nat, i ≤ 2 ∧ t36 = .int .i64 i ∧ Kp w1 w', fun t36 _ => 2 - (intOf t36).toNat, ⟨0, by omega, rfl, Kp.refl _⟩, ?_⟩
  rintro _ _ wr ⟨i, hi, rfl, kr⟩
  have k0r := Kp.trans k1 kr
  by_cases hlt : i < 2
  case pos =>
    have hlt' : (i : Int) < ((2 : Nat) : Int) := by omega
    obtain ⟨a, n, c, hrt, hat⟩ := tile_at hT hlt
    rw [r_lss, decide_eq_true hlt', r_condT, hat wr k0r]
    refine r_box fun b9 w2 e9 s9 h9 k2 => ?_
    have h9' : w2.heap[b9]? = some (.cells #[nilS] 61 (0, 0)) := h9
    refine st61 h9' fun w3 c3 s3 h93 => ?_
    have kr3 : Kp wr w3 := Kp.of_chg k2 c3 fun q e => by omega
    have cb : w3.cell? ⟨b9, 0, none⟩ = some (.slice a n c) := by rw [cell_row h93]; rfl
    rw [r_ld cb]
    refine r_use fok46 (tile_calls (k := i) w3 (hrt.kp (Kp.trans k0r kr3))) rfl ?_
    rintro _ w4 ⟨rfl, k4⟩
    refine ⟨_, rfl, ?_⟩
    have k04 := Kp.trans k0r (Kp.trans kr3 k4)
    rw [r_not]
    simp only [Bool.not_true, r_gdFF]
    rw [et, r_slTo (by omega) (by omega)]
    obtain ⟨v0, v1, g1, g2, g3⟩ := hT.kp k04
    have hii : (i : Int).toNat = i := by omega
    have htk : Rd 1 vE w4 (.slice ta (i : Int).toNat tc) (([v0, v1] : List Value).take i) := by
      rw [hii]; rw [et] at g1; exact g1.take (by show i ≤ 2; omega)
    refine r_use fok47 (twice_calls (u := .slice a n c) w4 htk (by simp; omega) (cell_later k4 cb) fun x hx => ?_) rfl ?_
    · match i, hlt, hrt with
      | 0, _, _ => cases hx
      | 1, _, hrt =>
        have : x = v0 := by simpa using hx
        rw [this]
        exact ⟨g2, hrt.kp k04⟩
    rintro _ w5 ⟨rfl, k5⟩
    refine ⟨_, rfl, ?_⟩
    rw [r_pickF, r_condF, r_add _ _ (by omega) (by omega)]
    exact ⟨⟨i + 1, by omega, by go_num, Kp.trans kr (Kp.trans kr3 (Kp.trans k4 k5))⟩, by simp only [intOf]; omega⟩
  have hlt' : ¬ (i : Int) < ((2 : Nat) : Int) := by omega
  rw [r_lss, decide_eq_false hlt', r_condF]
  rw [et, bd52, ← et]
  refine r_box fun bp w2 e2 s2 h2 k2 => ?_
  have h2' : w2.heap[bp]? = some (.cells #[ptrV bf, tv, nilS, nilS] 52 (0, 0)) := by rw [et] at h2 ⊢; exact h2
  have k02 := Kp.trans k0r k2
  have F2 := (hF.kp kr).kp k2
  have sz02 := k0r.size
  have P2 : PrAt w.heap.size w2 bp bf bm fv tv nilS nilS [] (cellsB l) (putsP (cellsB l) 0) :=
    ⟨F2, h2', by omega, RecAt.nil, RecAt.nil, rfl, fun i u r h _ => by simp at h⟩
  obtain ⟨fa, fc, efv, _⟩ := RecAt.len F2.cl
  have lnf : ∀ K : Value → Prop, ln1 fv K = K (.int .i64 ((cellsB l).length : Nat)) := fun K => by rw [efv]; rfl
  rw [r_nc, r_fa, r_ld F2.cells.1, lnf]
  unfold S17xL1
  refine ⟨fun t61 w' => ∃ (j : Nat) (pv cv : Value) (vs : List Value), j ≤ (cellsB l).length ∧ t61 = .int .i64 j ∧ PrAt w.heap.size w' bp bf bm fv tv pv cv vs (cellsB l) (putsP (cellsB l) j) ∧ Chg (fun q => w.heap.size ≤ q) w2 w', fun t61 _ => (cellsB l).length - (intOf t61).toNat, ⟨0, nilS, nilS, [], by omega, rfl, P2, Chg.refl _ _⟩, ?_⟩
  rintro _ _ wq ⟨j, pv, cv, vs, hj, rfl, hP, C⟩
  have k0q : Kp w wq := Kp.of_chg k02 C fun q h => h
  by_cases hlj : j < (cellsB l).length
  case neg =>
    have hlj' : ¬ (j : Int) < ((cellsB l).length : Int) := by omega
    obtain rfl : j = (cellsB l).length := by omega
    rw [r_lss, decide_eq_false hlj', r_condF]
    exact ⟨k0q, .inl ⟨hf, bp, bf, bm, fv, pv, cv, vs, rfl, hP⟩⟩
  have hlj' : (j : Int) < ((cellsB l).length : Int) := by omega
  have hcm : (cellsB l).getD j (0, 0) ∈ cellsB l := getD_mem hlj
  have hsm := has_small hR (cellsB_mem.1 hcm)
  rw [r_lss, decide_eq_true hlj', r_condT, cell_at (hP.fl.cl.rd cC_len) hlj]
  generalize hcd : (cellsB l).getD j (0, 0) = c at *
  refine r_box fun b12 w3 e3 s3 h3 k3 => ?_
  have h3' : w3.heap[b12]? = some (.cells #[.int .i64 0, .int .i64 0] 43 (0, 0)) := h3
  refine st43 (p := c) h3' fun w4 c4 s4 h124 => ?_
  have kq4 : Kp wq w4 := Kp.of_chg k3 c4 fun q e => by omega
  have szq := k0q.size
  have hple := putsP_le (cellsB l) j (by omega)
  rw [lnt]
  unfold S17xL2
  refine ⟨fun t67 w' => ∃ (k : Nat) (pv cv : Value) (vs : List Value), k ≤ 2 ∧ t67 = .int .i64 k ∧ PrAt w.heap.size w' bp bf bm fv tv pv cv vs (cellsB l) (putsP (cellsB l) j ++ putJ (cellsB l) c k) ∧ Chg (fun q => w.heap.size ≤ q) wq w' ∧ w'.heap[b12]? = some (.cells #[.int .i64 c.1, .int .i64 c.2] 43 (0, 0)), fun t67 _ => 2 - (intOf t67).toNat, ⟨0, pv, cv, vs, by omega, rfl, by simpa [putJ] using hP.kp kq4, Chg.of_kp kq4, h124⟩, ?_⟩
  rintro _ _ wk ⟨k, pv, cv, vs, hk, rfl, hP, C', h12⟩
  have k0k : Kp w wk := Kp.of_chg k0q C' fun q h => h
  by_cases hlk : k < 2
  case neg =>
    have hlk' : ¬ (k : Int) < ((2 : Nat) : Int) := by omega
    obtain rfl : k = 2 := by omega
    rw [r_lss, decide_eq_false hlk', r_condF, r_add _ _ (by omega) (by omega)]
    refine ⟨⟨j + 1, pv, cv, vs, by omega, by go_num, ?_, C.trans C'⟩, by simp only [intOf]; omega⟩
    rw [putsP_succ hlj, hcd]; exact hP
  have hlk' : (k : Int) < ((2 : Nat) : Int) := by omega
  obtain ⟨a, n, cc, hrt, hat⟩ := tile_at hT hlk
  rw [r_lss, decide_eq_true hlk', r_condT, hat wk k0k, c_box h12]
  refine r_use fok50 (covered_calls (k := k) wk hP.fl (hrt.kp k0k) hcm (by omega)) rfl ?_
  have hju := putJ_succ (cellsB l) c k
  have hjl := putJ_le (cellsB l) c k
  have szk := k0k.size
  have b12r : w.heap.size ≤ b12 := by omega
  rintro _ w5 ⟨k5, ⟨hm, rv, rfl, hrow⟩ | ⟨hm, x, rfl⟩⟩
  · refine ⟨_, rfl, ?_⟩
    rw [if_pos hm] at hju
    rw [r_ex2a, r_ex2b]
    refine r_joinW (fun w' => ∃ (pv cv : Value) (vs : List Value), PrAt w.heap.size w' bp bf bm fv tv pv cv vs (cellsB l) (putsP (cellsB l) j ++ putJ (cellsB l) c (k + 1)) ∧ Chg (fun q => w.heap.size ≤ q) wq w' ∧ w'.heap[b12]? = some (.cells #[.int .i64 c.1, .int .i64 c.2] 43 (0, 0))) ?_ fun kk hkk => ?_
    · rintro w' ⟨pv', cv', vs', g1, g2, g3⟩
      rw [r_add _ _ (by omega) (by omega)]
      exact ⟨⟨k + 1, pv', cv', vs', by omega, by go_num, g1, g2, g3⟩, by simp only [intOf]; omega⟩
    rw [r_condT]
    refine r17_put (next_2 := kk) (hP.kp k5) (RecAt.down hrow szk) (block_below h12 k5) b12r (by rw [List.length_append]; omega) (by have := k5.size; omega) fun pv' cv' w' g1 g2 g3 => ?_
    refine hkk _ ⟨pv', cv', _, by rw [hju, ← List.append_assoc]; exact g1, C'.trans ((Chg.of_kp k5).trans g2), g3⟩
  · refine ⟨_, rfl, ?_⟩
    rw [if_neg hm, List.append_nil] at hju
    rw [r_ex2a, r_ex2b]
    simp only [Join, r_condF]
    rw [r_add _ _ (by omega) (by omega)]
    exact ⟨⟨k + 1, pv, cv, vs, by omega, by go_num, by rw [hju]; exact hP.kp k5, C'.trans (Chg.of_kp k5), block_below h12 k5⟩, by simp only [intOf]; omega⟩

end Go.Proofs.YtbekeccfjmoonaaDoor
