/- Texts of my own, merged by program: J4 B4 J5. -/
import Derived.Test.YtgalbokmgffhkaaM10
import Derived.Test.YtgalbokmgffhkaaM09
set_option linter.all false
/- Contracts: put, capped of the specification. -/
namespace Go.Proofs.Ytgalbokmgffhkaa
open Go.Lf Go.RowKit Go.Wg

theorem capped_calls (n : Nat) (w : World) : Calls Try.prog 88 #[.int .i64 n] w fun e w' => e = .returned (.int .i64 (capI n)) ∧ w = w' := by
  refine lift88 ?_
  unfold S88
  simp only [r_ln, r_pick, r_pickT, r_pickF, r_condT, r_condF, r_gdTT, r_gdFF, r_gdTF, r_gdFT, r_gqTT, r_gqFF, r_gqTF, r_gqFT, r_not, r_lss, r_leq, r_gtr, r_geq, r_eql, r_neq, r_add, r_sub, r_min2, r_max2, r_min3, r_max3, r_fa, r_iaS, r_iaA, r_ex2a, r_ex2b, r_ex3a, r_ex3b, r_ex3c, r_nc, r_keepE, Nat.zero_add, Nat.add_zero, Nat.mul_one, Int.toNat_natCast, toNat_sub1, toNat_add1, decide_true, decide_false, Bool.not_true, Bool.not_false, if_true, if_false, Bool.false_eq_true, reduceCtorEq]
  exact ⟨by first | rfl | trivial, by first | rfl | trivial⟩

abbrev C80 (t1 t2 t3 t4 t5 t20 t30 : Value) (w : World) (K : Value → Prop) : Prop :=
  binQ Try.prog w .geq 3 false t3 t2 fun t33 =>
  gdQ t33 true (fun k => k t1) fun t35 =>
  gdQ t33 true (fun k => k t30) fun t36 =>
  gdQ t33 true (fun k => iaS 1 t35 t36 k) fun t37 =>
  gdQ t33 true (fun k => ld1 w t37 k) fun t38 =>
  gdQ t33 true (fun k => fa1 t5 0 k) fun t39 =>
  gdQ t33 true (fun k => ld1 w t39 k) fun t40 =>
  gdQ t33 true (fun k => binQ Try.prog w .neq 3 false t38 t40 k) fun t41 =>
  pickQ t33 t41 (.bool false) fun t42 =>
  gdQ t42 false (fun k => k t20) fun t44 =>
  gdQ t42 false (fun k => binQ Try.prog w .gtr 3 true t44 (.int .i64 0) k) fun t45 =>
  gdQ t42 false (fun k => k t45) fun t46 =>
  gdQ t46 true (fun k => k t4) fun t47 =>
  gdQ t46 true (fun k => k (.int .i64 8)) fun t48 =>
  gdQ t46 true (fun k => binQ Try.prog w .rem 3 false t47 t48 k) fun t49 =>
  gdQ t46 true (fun k => fa1 t5 3 k) fun t50 =>
  gdQ t46 true (fun k => ld1 w t50 k) fun t51 =>
  gdQ t46 true (fun k => binQ Try.prog w .neq 3 false t49 t51 k) fun t52 =>
  gdQ t42 false (fun k => pickQ t46 t52 (.bool false) k) fun t53 =>
  pickQ t42 (.bool true) t53 fun t54 =>
  K t54

theorem r_rem8 {w : World} {K : Value → Prop} {t : TypeId} {lit : Bool} (s : Nat) : binQ Try.prog w .rem t lit (.int .i64 s) (.int .i64 8) K = K (.int .i64 ((s % 8 : Nat) : Int)) := r_remN s 8 (by omega)
theorem r_mul8 {w : World} {K : Value → Prop} {t : TypeId} {lit : Bool} (s : Nat) (hs : s ≤ 1000000000) : binQ Try.prog w .mul t lit (.int .i64 s) (.int .i64 8) K = K (.int .i64 ((s * 8 : Nat) : Int)) := r_mulN s 8 (by omega)

set_option maxRecDepth 100000 in
theorem cond80 {w : World} {lv : Value} {l : List Tile} {t : Tile} {W p s b5 : Nat} {K : Value → Prop} (hL : RdInts w lv (lineL l)) (hn : 0 < (lineL l).length) (h5 : w.heap[b5]? = some (.cells (tlV t).cells 32 (0, 0))) (hK : K (.bool (decide (misfit l W p s t)))) :
    C80 lv (.int .i64 W) (.int .i64 p) (.int .i64 s) (.pointer (some ⟨b5, 0, none⟩)) (.int .i64 (p % W : Nat)) (.int .i64 (aboveS l W p s : Nat)) w K := by
  have habl : aboveS l W p s < (lineL l).length := Nat.mod_lt _ hn
  have c0 : w.cell? ⟨b5, 0, none⟩ = some (.int .i64 (tN t)) := by rw [cell_row h5]; rfl
  have c3 : w.cell? ⟨b5, 3, none⟩ = some (.int .i64 (tW t)) := by rw [cell_row h5]; rfl
  obtain ⟨lb, lo, lcp, rfl, hla⟩ := hL.at habl
  have hii : ((aboveS l W p s : Nat) : Int).toNat = aboveS l W p s := by omega
  unfold C80
  have last : ∀ b : Bool, (b = true ↔ misfit l W p s t) → K (.bool b) := fun b hb => by
    have : b = decide (misfit l W p s t) := by
      cases b with
      | true => exact (decide_eq_true (hb.1 rfl)).symm
      | false => exact (decide_eq_false fun h => absurd (hb.2 h) Bool.false_ne_true).symm
    rw [this]; exact hK
  have second : ¬ (W ≤ p ∧ (lineL l).getD (aboveS l W p s) 0 ≠ tN t) → ∀ x : Bool, x = false →
    (gdQ (.bool x) false (fun k => k (.int .i64 (p % W : Nat))) fun t44 =>
      gdQ (.bool x) false (fun k => binQ Try.prog w .gtr 3 true t44 (.int .i64 0) k) fun t45 =>
      gdQ (.bool x) false (fun k => k t45) fun t46 =>
      gdQ t46 true (fun k => k (.int .i64 s)) fun t47 =>
      gdQ t46 true (fun k => k (.int .i64 8)) fun t48 =>
      gdQ t46 true (fun k => binQ Try.prog w .rem 3 false t47 t48 k) fun t49 =>
      gdQ t46 true (fun k => fa1 (.pointer (some ⟨b5, 0, none⟩)) 3 k) fun t50 =>
      gdQ t46 true (fun k => ld1 w t50 k) fun t51 =>
      gdQ t46 true (fun k => binQ Try.prog w .neq 3 false t49 t51 k) fun t52 =>
      gdQ (.bool x) false (fun k => pickQ t46 t52 (.bool false) k) fun t53 =>
      pickQ (.bool x) (.bool true) t53 fun t54 => K t54) := fun h1 x hx => by
    subst hx
    by_cases g3 : 0 < p % W
    case neg =>
      have g3' : ¬ (0 : Int) < ((p % W : Nat) : Int) := by omega
      simp (disch := omega) only [r_ln, r_pick, r_pickT, r_pickF, r_condT, r_condF, r_gdTT, r_gdFF, r_gdTF, r_gdFT, r_gqTT, r_gqFF, r_gqTF, r_gqFT, r_not, r_lss, r_leq, r_gtr, r_geq, r_eql, r_neq, r_add, r_sub, r_min2, r_max2, r_min3, r_max3, r_fa, r_iaS, r_iaA, r_ex2a, r_ex2b, r_ex3a, r_ex3b, r_ex3c, r_nc, r_keepE, Nat.zero_add, Nat.add_zero, Nat.mul_one, Int.toNat_natCast, toNat_sub1, toNat_add1, decide_true, decide_false, Bool.not_true, Bool.not_false, if_true, if_false, Bool.false_eq_true, reduceCtorEq, g3', r_gqU]
      exact last false ⟨fun h => absurd h Bool.false_ne_true, fun h => by
        rcases h with h | h
        · exact absurd h h1
        · exact absurd h.1 g3⟩
    have g3' : (0 : Int) < ((p % W : Nat) : Int) := by omega
    simp (disch := omega) only [r_ln, r_pick, r_pickT, r_pickF, r_condT, r_condF, r_gdTT, r_gdFF, r_gdTF, r_gdFT, r_gqTT, r_gqFF, r_gqTF, r_gqFT, r_not, r_lss, r_leq, r_gtr, r_geq, r_eql, r_neq, r_add, r_sub, r_min2, r_max2, r_min3, r_max3, r_fa, r_iaS, r_iaA, r_ex2a, r_ex2b, r_ex3a, r_ex3b, r_ex3c, r_nc, r_keepE, Nat.zero_add, Nat.add_zero, Nat.mul_one, Int.toNat_natCast, toNat_sub1, toNat_add1, decide_true, decide_false, Bool.not_true, Bool.not_false, if_true, if_false, Bool.false_eq_true, reduceCtorEq, decide_eq_true g3', r_rem8, r_ld c3, r_gqU]
    by_cases g4 : ((s % 8 : Nat) : Int) = tW t
    · simp only [decide_eq_true g4, Bool.not_true]
      exact last false ⟨fun h => absurd h Bool.false_ne_true, fun h => by
        rcases h with h | h
        · exact absurd h h1
        · exact absurd g4 h.2⟩
    · simp only [g4, decide_false, Bool.not_false]
      exact last true ⟨fun _ => .inr ⟨g3, g4⟩, fun _ => rfl⟩
  by_cases g1 : W ≤ p
  case neg =>
    have g1' : ¬ (W : Int) ≤ (p : Int) := by omega
    simp (disch := omega) only [r_geq, g1', decide_false, r_gqFT, r_pickF]
    exact second (fun h => g1 h.1) false rfl
  have g1' : (W : Int) ≤ (p : Int) := by omega
  by_cases g2 : (lineL l).getD (aboveS l W p s) 0 = tN t
  · simp (disch := omega) only [r_geq, decide_eq_true g1', r_gqTT, r_iaS, hii, Nat.mul_one, r_ld hla, r_fa, Nat.zero_add, r_ld c0, r_neq, decide_eq_true g2, Bool.not_true, r_pickT]
    have := second (fun h => h.2 g2) false rfl
    simp (disch := omega) only [r_fa, Nat.zero_add] at this
    exact this
  · simp (disch := omega) only [r_ln, r_pick, r_pickT, r_pickF, r_condT, r_condF, r_gdTT, r_gdFF, r_gdTF, r_gdFT, r_gqTT, r_gqFF, r_gqTF, r_gqFT, r_not, r_lss, r_leq, r_gtr, r_geq, r_eql, r_neq, r_add, r_sub, r_min2, r_max2, r_min3, r_max3, r_fa, r_iaS, r_iaA, r_ex2a, r_ex2b, r_ex3a, r_ex3b, r_ex3c, r_nc, r_keepE, Nat.zero_add, Nat.add_zero, Nat.mul_one, Int.toNat_natCast, toNat_sub1, toNat_add1, decide_true, decide_false, Bool.not_true, Bool.not_false, if_true, if_false, Bool.false_eq_true, reduceCtorEq, decide_eq_true g1', hii, r_ld hla, r_ld c0, g2, r_gqU]
    exact last true ⟨fun _ => .inl ⟨g1, g2⟩, fun _ => rfl⟩

set_option maxRecDepth 100000 in
set_option maxHeartbeats 1000000 in
theorem put_calls {lv : Value} {l : List Tile} {t : Tile} {W p s : Nat} (w : World) (hL : RdInts w lv (lineL l)) (hset : IsSet l) (ht : t ∈ l) (hW : 0 < W ∧ W ≤ 4) (hp : p ≤ 100) (hs : s < (lineL l).length ^ W * 8) (hb : (lineL l).length ^ W * 8 ≤ 60000) :
    Calls Try.prog 80 #[tlV t, lv, .int .i64 W, .int .i64 p, .int .i64 s] w fun e w' => e = .returned (.int .i64 (putV (putM l W p s t))) ∧ Kp w w' := by
  have hn := line_pos hset
  have hn8 := line_len l
  have hlt := mem_line hset.cols ht
  have hcr := cols_range (hset.cols t ht)
  have hxW : p % W < W := Nat.mod_lt _ hW.1
  have hpx : (lineL l).length ^ (p % W) ≤ (lineL l).length ^ W := Nat.pow_le_pow_right hn (by omega)
  have hpp : 0 < (lineL l).length ^ (p % W) := Nat.pow_pos hn
  have hL' := hL
  obtain ⟨la, lc, rfl, _, _⟩ := hL.len
  have hidx : idxI (lineL l) (tS t) = ((lidx l (tS t) : Nat) : Int) := by rw [idxI, if_pos hlt.2]; rfl
  have hil := lidx_lt hlt.2
  refine lift80 ?_
  unfold S80
  refine r_box fun b5 w1 e5 s5 h5 k5 => ?_
  have h5' : w1.heap[b5]? = some (.cells (tlV t).cells 32 (0, 0)) := h5
  simp only [r_ln]
  rw [r_remN _ _ hW.1]
  refine r_use fok69 (power_calls (n := (lineL l).length) (k := p % W) w1 (by omega) hn (by omega)) rfl ?_
  rintro _ _ ⟨rfl, rfl⟩
  refine ⟨_, rfl, ?_⟩
  rw [r_mul8 _ (by omega), r_quoN _ _ (by omega) (by omega), r_remN _ _ hn]
  have hab : s / ((lineL l).length ^ (p % W) * 8) % (lineL l).length = aboveS l W p s := rfl
  rw [hab]
  have habl : aboveS l W p s < (lineL l).length := Nat.mod_lt _ hn
  have habs : aboveS l W p s * ((lineL l).length ^ (p % W) * 8) ≤ s := by
    have h1 : aboveS l W p s ≤ s / ((lineL l).length ^ (p % W) * 8) := Nat.mod_le _ _
    exact Nat.le_trans (Nat.mul_le_mul_right _ h1) (Nat.div_mul_le_self _ _)
  have habm : s % 8 ≤ s - aboveS l W p s * ((lineL l).length ^ (p % W) * 8) := by
    have e : aboveS l W p s * ((lineL l).length ^ (p % W) * 8) = 8 * (aboveS l W p s * (lineL l).length ^ (p % W)) := by rw [← Nat.mul_assoc, Nat.mul_comm]
    rw [e] at habs ⊢
    omega
  have hmul2 : lidx l (tS t) * ((lineL l).length ^ (p % W) * 8) ≤ 8 * 60000 := Nat.mul_le_mul (by omega) (by omega)
  have hput : putM l W p s t = if misfit l W p s t then none else some (s - aboveS l W p s * ((lineL l).length ^ (p % W) * 8) + lidx l (tS t) * ((lineL l).length ^ (p % W) * 8) - s % 8 + (tE t).toNat) := rfl
  refine r_drew fun w2 k2 _ => ?_
  have k02 := Kp.trans k5 k2
  have h52 := block_below h5' k2
  refine cond80 (hL'.below k02) hn h52 ?_
  by_cases hm : misfit l W p s t
  · simp only [decide_eq_true hm, r_condT]
    exact ⟨by rw [hput, if_pos hm]; rfl, k02⟩
  simp only [hm, decide_false, r_condF]
  rw [if_neg hm] at hput
  rw [hput]
  refine r_drew fun w3 k3 _ => ?_
  have k03 := Kp.trans k02 k3
  have h53 := block_below h52 k3
  have c1 : w3.cell? ⟨b5, 1, none⟩ = some (.int .i64 (tE t)) := by rw [cell_row h53]; rfl
  have c2 : w3.cell? ⟨b5, 2, none⟩ = some (.int .i64 (tS t)) := by rw [cell_row h53]; rfl
  rw [r_mulN _ _ (by omega)]
  simp only [r_fa, Nat.zero_add, r_ld c2]
  rw [r_sub _ _ (by omega) (by omega), r_rem8]
  simp only [r_ld c1]
  refine r_use fok107 (index107_calls (tS t) w3 (hL'.below k03)) rfl ?_
  rintro _ w4 ⟨rfl, k4⟩
  refine ⟨_, rfl, k4, ?_⟩
  dsimp only
  rw [hidx, r_mulN _ _ (by omega)]
  generalize aboveS l W p s * ((lineL l).length ^ (p % W) * 8) = A at *
  generalize lidx l (tS t) * ((lineL l).length ^ (p % W) * 8) = B at *
  rw [r_add _ _ (by omega) (by omega), r_sub _ _ (by omega) (by omega), r_add _ _ (by omega) (by omega)]
  refine ⟨?_, Kp.trans k03 k4⟩
  congr 2
  show _ = ((_ : Nat) : Int)
  omega

end Go.Proofs.Ytgalbokmgffhkaa

/- Contract: alive: which lists of Norths can be gone on from. -/
namespace Go.Proofs.Ytgalbokmgffhkaa
open Go.Lf Go.RowKit Go.Wg

abbrev vE (u : Value) : List Value := [u]
theorem vE_len (u : Value) : (vE u).length = 1 := rfl

theorem rec_one {α : Type} {e : TypeId} {enc : α → List Value} {x : α} {z : Value} (hz : enc x = [z]) (w : World) : RecAt e 1 enc w.heap.size (w.alloc (.cells #[z] e)) (.slice (some ⟨w.heap.size, 0, none⟩) 1 1) [x] := by
  have e1 : recCells enc [x] = [z] := by simp [recCells, hz]
  refine ⟨by rw [e1]; rfl, .inr ⟨w.heap.size, 1, _, rfl, Nat.le_refl _, heap_alloc_new w _, Nat.le_refl _, by unfold maxLen; omega, rfl, ?_⟩⟩
  rw [e1]
  rfl

/-- Lists of booleans, each in memory of its own. -/
def BRows (base : Nat) (w : World) (v : Value) (R : List (List Bool)) : Prop :=
  ∃ vs : List Value, RecAt 91 1 vE base w v vs ∧ vs.length = R.length ∧ ∀ (i : Nat) (u : Value) (r : List Bool), vs[i]? = some u → R[i]? = some r → BoolsAt base w u r

theorem BRows.kp {base : Nat} {w w' : World} {v : Value} {R : List (List Bool)} (h : BRows base w v R) (hk : Kp w w') : BRows base w' v R :=
  let ⟨vs, h1, h2, h3⟩ := h; ⟨vs, h1.kp hk, h2, fun i u r hu hr => (h3 i u r hu hr).kp hk⟩
theorem BRows.len {base : Nat} {w : World} {v : Value} {R : List (List Bool)} (h : BRows base w v R) : ∃ a cap, v = .slice a R.length cap ∧ R.length ≤ cap := by
  obtain ⟨vs, h1, h2, _⟩ := h
  have := h1.len
  rwa [h2] at this
theorem BRows.row {base : Nat} {w : World} {v : Value} {R : List (List Bool)} (h : BRows base w v R) {i : Nat} {r : List Bool} (hi : R[i]? = some r) :
    ∃ b off cap u, v = .slice (some ⟨b, off, none⟩) R.length cap ∧ w.cell? ⟨b, off + i, none⟩ = some u ∧ BoolsAt base w u r := by
  obtain ⟨vs, h1, h2, h3⟩ := h
  have hlt : i < vs.length := by rw [h2]; exact (List.getElem?_eq_some_iff.1 hi).1
  obtain ⟨b, off, cap, e, _, hc⟩ := (h1.rd vE_len).at (List.getElem?_eq_getElem hlt)
  exact ⟨b, off, cap, vs[i], by rw [← h2]; exact e, by simpa using hc 0 _ rfl, h3 i _ r (List.getElem?_eq_getElem hlt) hi⟩

/-- Blocks of different types are different. -/
theorem rec_ne {α β : Type} {e e' : TypeId} {m m' : Nat} {enc : α → List Value} {enc' : β → List Value} {base base' : Nat} {w : World} {v v' : Value} {P : List α} {Q : List β} (h : RecAt e m enc base w v P) (h' : RecAt e' m' enc' base' w v' Q) (hne : e ≠ e') : ∀ k, v.ownBlock = some k → v'.ownBlock ≠ some k := by
  intro k hk hk'
  rcases h.2 with ⟨rfl, _⟩ | ⟨g, cap, cur, rfl, _, hg, _⟩
  · cases hk
  rcases h'.2 with ⟨rfl, _⟩ | ⟨g', cap', cur', rfl, _, hg', _⟩
  · cases hk'
  cases hk
  injection hk' with hk'
  dsimp only at hk'
  subst hk'
  rw [hg] at hg'
  injection hg' with hg'
  injection hg' with _ h3 _
  exact hne h3

def alvF (prev a : List Bool) (x : Line) : List Bool := a.set x.2.1.toNat (a.getD x.2.1.toNat false || prev.getD x.2.2.1.toNat false)
def alvL (L : List Line) (N : Nat) : Nat → List Bool
  | 0 => List.replicate N true
  | k + 1 => L.foldl (alvF (alvL L N k)) (List.replicate N false)
theorem alvF_len (prev : List Bool) : ∀ (L : List Line) (a : List Bool), (L.foldl (alvF prev) a).length = a.length
  | [], _ => rfl
  | x :: L, a => by rw [List.foldl_cons, alvF_len prev L]; simp [alvF]
theorem alvL_len (L : List Line) (N : Nat) : ∀ k, (alvL L N k).length = N
  | 0 => by simp [alvL]
  | k + 1 => by rw [alvL, alvF_len]; simp

set_option maxRecDepth 100000 in
set_option maxHeartbeats 800000 in
theorem alive_calls {lv : Value} {L : List Line} {a h : Nat} (w : World) (ha : 1 ≤ a ∧ a ≤ 4) (hh : h ≤ 100) (hL : RdL w lv L) (hok : LnOk (8 ^ a) L) (hLl : L.length ≤ 1000000) :
    Calls Try.prog 76 #[lv, .int .i64 a, .int .i64 h] w fun e w' => ∃ v', e = .returned v' ∧ Kp w w' ∧ BRows w.heap.size w' v' ((List.range (h + 1)).map (alvL L (8 ^ a))) := by
  obtain ⟨la, lcap, rfl, hlc⟩ := hL.len
  refine lift76 ?_
  unfold S76
  rw [bs91]
  have k1 : Kp w (w.alloc (.cells #[.bool true] 4)) := below_alloc _
  have n1 := heap_alloc_new w (.cells #[.bool true] 4)
  generalize w.alloc (.cells #[.bool true] 4) = w1 at *
  refine r_use fok73 (codes_calls w1 ha.2) rfl ?_
  rintro _ _ ⟨rfl, rfl⟩
  refine ⟨_, rfl, ?_⟩
  have h8 := pow8N_le ha.2
  have hm := mulOk ha
  have hcodes := fun w => codes_calls w ha.2
  generalize 8 ^ a = N at *
  refine r_use fok106 (repeatB_calls (b := w.heap.size) (off := 0) (x := true) hm w1 (by rw [cell_row n1]; rfl)) rfl ?_
  rintro _ w2 ⟨rv, rfl, k2, hrv⟩
  refine ⟨_, rfl, ?_⟩
  clear hm
  have k02 := Kp.trans k1 k2
  have s1 := k1.size
  have s2 := k2.size
  obtain ⟨ra, rcap, rfl, _⟩ := hrv.len
  rw [bs88]
  have k3 : Kp w2 (w2.alloc (.cells #[.slice ra (List.replicate N true).length rcap] 91)) := below_alloc _
  have o3 := rec_one (e := 91) (enc := vE) (x := .slice ra (List.replicate N true).length rcap) rfl w2
  generalize hsz2 : w2.heap.size = sz2 at *
  generalize w2.alloc (.cells #[.slice ra (List.replicate N true).length rcap] 91) = w3 at *
  have B0 : BRows w.heap.size w3 (.slice (some ⟨sz2, 0, none⟩) 1 1) ((List.range 1).map (alvL L N)) := by
    refine ⟨[.slice ra (List.replicate N true).length rcap], o3.down (by omega), rfl, fun i u r hu hr => ?_⟩
    match i with
    | 0 =>
      cases hu
      cases hr
      exact (hrv.kp k3).down (by omega)
    | i + 1 => simp at hu
  have k03 := Kp.trans k02 k3
  refine ⟨fun t7 t8 wr => ∃ k : Nat, 1 ≤ k ∧ k ≤ h + 1 ∧ t8 = .int .i64 k ∧ BRows w.heap.size wr t7 ((List.range k).map (alvL L N)) ∧ Kp w wr, fun _ t8 _ => h + 1 - (intOf t8).toNat, ⟨1, by omega, by omega, rfl, B0, k03⟩, ?_⟩
  rintro _ t7 _ wr ⟨k, hk1, hk, rfl, hB, kr⟩
  by_cases hkl : k ≤ h
  case neg =>
    have hkl' : ¬ (k : Int) ≤ (h : Int) := by omega
    have : k = h + 1 := by omega
    subst this
    simp (disch := omega) only [r_ln, r_pick, r_pickT, r_pickF, r_condT, r_condF, r_gdTT, r_gdFF, r_gdTF, r_gdFT, r_gqTT, r_gqFF, r_gqTF, r_gqFT, r_not, r_lss, r_leq, r_gtr, r_geq, r_eql, r_neq, r_add, r_sub, r_min2, r_max2, r_min3, r_max3, r_fa, r_iaS, r_iaA, r_ex2a, r_ex2b, r_ex3a, r_ex3b, r_ex3c, r_nc, r_keepE, Nat.zero_add, Nat.add_zero, Nat.mul_one, Int.toNat_natCast, toNat_sub1, toNat_add1, decide_true, decide_false, Bool.not_true, Bool.not_false, if_true, if_false, Bool.false_eq_true, reduceCtorEq, hkl']
    exact ⟨_, rfl, kr, hB⟩
  have hkl' : (k : Int) ≤ (h : Int) := by omega
  simp (disch := omega) only [r_ln, r_pick, r_pickT, r_pickF, r_condT, r_condF, r_gdTT, r_gdFF, r_gdTF, r_gdFT, r_gqTT, r_gqFF, r_gqTF, r_gqFT, r_not, r_lss, r_leq, r_gtr, r_geq, r_eql, r_neq, r_add, r_sub, r_min2, r_max2, r_min3, r_max3, r_fa, r_iaS, r_iaA, r_ex2a, r_ex2b, r_ex3a, r_ex3b, r_ex3c, r_nc, r_keepE, Nat.zero_add, Nat.add_zero, Nat.mul_one, Int.toNat_natCast, toNat_sub1, toNat_add1, decide_true, decide_false, Bool.not_true, Bool.not_false, if_true, if_false, Bool.false_eq_true, reduceCtorEq, decide_eq_true hkl']
  refine r_use fok73 (hcodes wr) rfl ?_
  rintro _ _ ⟨rfl, rfl⟩
  refine ⟨_, rfl, ?_⟩
  refine mk91 (by omega) fun v w4 hv k4 hvb => ?_
  have sr := kr.size
  have s4 := k4.size
  obtain ⟨oa, ocap, rfl, _⟩ := hB.len
  try simp only [r_ln, r_pick, r_pickT, r_pickF, r_condT, r_condF, r_gdTT, r_gdFF, r_gdTF, r_gdFT, r_gqTT, r_gqFF, r_gqTF, r_gqFT, r_not, r_lss, r_leq, r_gtr, r_geq, r_eql, r_neq, r_add, r_sub, r_min2, r_max2, r_min3, r_max3, r_fa, r_iaS, r_iaA, r_ex2a, r_ex2b, r_ex3a, r_ex3b, r_ex3c, r_nc, r_keepE, Nat.zero_add, Nat.add_zero, Nat.mul_one, Int.toNat_natCast, toNat_sub1, toNat_add1, decide_true, decide_false, Bool.not_true, Bool.not_false, if_true, if_false, Bool.false_eq_true, reduceCtorEq]
  refine ⟨fun t27 wq => ∃ i : Nat, i ≤ L.length ∧ t27 = .int .i64 i ∧ Kp wr wq ∧ BoolsAt wr.heap.size wq v ((L.take i).foldl (alvF (alvL L N (k - 1))) (List.replicate N false)), fun t27 _ => L.length - (intOf t27).toNat,
    ⟨0, by omega, rfl, k4, by simpa using hv⟩, ?_⟩
  rintro _ _ wq ⟨i, hi, rfl, kq, hvq⟩
  have hBq := hB.kp kq
  have hNl := alvF_len (alvL L N (k - 1)) (L.take i) (List.replicate N false)
  rw [List.length_replicate] at hNl
  have sq := kq.size
  by_cases hil : i < L.length
  case neg =>
    have hil' : ¬ (i : Int) < (L.length : Int) := by omega
    rw [List.take_of_length_le (by omega)] at hvq hNl
    simp (disch := omega) only [r_ln, r_pick, r_pickT, r_pickF, r_condT, r_condF, r_gdTT, r_gdFF, r_gdTF, r_gdFT, r_gqTT, r_gqFF, r_gqTF, r_gqFT, r_not, r_lss, r_leq, r_gtr, r_geq, r_eql, r_neq, r_add, r_sub, r_min2, r_max2, r_min3, r_max3, r_fa, r_iaS, r_iaA, r_ex2a, r_ex2b, r_ex3a, r_ex3b, r_ex3c, r_nc, r_keepE, Nat.zero_add, Nat.add_zero, Nat.mul_one, Int.toNat_natCast, toNat_sub1, toNat_add1, decide_true, decide_false, Bool.not_true, Bool.not_false, if_true, if_false, Bool.false_eq_true, reduceCtorEq, hil']
    obtain ⟨va, vcap, rfl, _⟩ := hvq.len
    obtain ⟨vs, o1, o2, o3'⟩ := hBq
    refine r_pushRec (x := .slice va _ vcap) slt88 vE_len rfl (bs88 _ _ _ _) (by intro u hu; simp at hu; subst hu; rfl) (by omega) o1 (by rw [o2]; simp; omega) (by omega) fun v' w5 p1 p2 p3 => ?_
    try simp (disch := omega) only [r_ln, r_pick, r_pickT, r_pickF, r_condT, r_condF, r_gdTT, r_gdFF, r_gdTF, r_gdFT, r_gqTT, r_gqFF, r_gqTF, r_gqFT, r_not, r_lss, r_leq, r_gtr, r_geq, r_eql, r_neq, r_add, r_sub, r_min2, r_max2, r_min3, r_max3, r_fa, r_iaS, r_iaA, r_ex2a, r_ex2b, r_ex3a, r_ex3b, r_ex3c, r_nc, r_keepE, Nat.zero_add, Nat.add_zero, Nat.mul_one, Int.toNat_natCast, toNat_sub1, toNat_add1, decide_true, decide_false, Bool.not_true, Bool.not_false, if_true, if_false, Bool.false_eq_true, reduceCtorEq]
    refine ⟨⟨k + 1, by omega, by omega, by go_num, ⟨_, p1, by simp [o2], fun j u r hu hr => ?_⟩, Kp.of_chg (Kp.trans kr kq) p2 fun q hq => (o1.lt hq).1⟩, by simp only [intOf]; omega⟩
    have key : ∀ u r, BoolsAt w.heap.size wq u r → BoolsAt w.heap.size w5 u r := fun u r hb => hb.chg p2 fun q hq => rec_ne hb o1 (by decide) q hq
    rw [List.range_succ, List.map_append] at hr
    by_cases hj : j < vs.length
    · rw [List.getElem?_append_left hj] at hu
      rw [List.getElem?_append_left (by rw [← o2]; exact hj)] at hr
      exact key u r (o3' j u r hu hr)
    · rw [List.getElem?_append_right (by omega)] at hu
      rw [List.getElem?_append_right (by rw [← o2]; omega), ← o2] at hr
      match hjj : j - vs.length with
      | 0 =>
        rw [hjj] at hu hr
        cases hu
        simp at hr
        subst hr
        refine key _ _ (RecAt.down ?_ sr)
        have e : alvL L N k = L.foldl (alvF (alvL L N (k - 1))) (List.replicate N false) := by
          obtain ⟨k', rfl⟩ : ∃ k', k = k' + 1 := ⟨k - 1, by omega⟩
          rfl
        rw [e]
        exact hvq
      | n + 1 => rw [hjj] at hu; simp at hu
  have hil' : (i : Int) < (L.length : Int) := by omega
  obtain ⟨x, hx⟩ : ∃ x, L[i]? = some x := ⟨_, List.getElem?_eq_getElem hil⟩
  obtain ⟨lb, lo, lc, el, _, hld⟩ := RdL.line (hL.kp (Kp.trans kr kq)) hx
  cases el
  simp (disch := omega) only [r_ln, r_pick, r_pickT, r_pickF, r_condT, r_condF, r_gdTT, r_gdFF, r_gdTF, r_gdFT, r_gqTT, r_gqFF, r_gqTF, r_gqFT, r_not, r_lss, r_leq, r_gtr, r_geq, r_eql, r_neq, r_add, r_sub, r_min2, r_max2, r_min3, r_max3, r_fa, r_iaS, r_iaA, r_ex2a, r_ex2b, r_ex3a, r_ex3b, r_ex3c, r_nc, r_keepE, Nat.zero_add, Nat.add_zero, Nat.mul_one, Int.toNat_natCast, toNat_sub1, toNat_add1, decide_true, decide_false, Bool.not_true, Bool.not_false, if_true, if_false, Bool.false_eq_true, reduceCtorEq, decide_eq_true hil', hld]
  refine r_box fun b11 x2 e11 s11 h11 y2 => ?_
  refine r_stAll (n := 7) (ty := 78) (by kernel_rfl) rfl (by intro u hu; simp [Value.cells] at hu; rcases hu with rfl | rfl | rfl | rfl | rfl | rfl | rfl <;> rfl) h11 rfl fun x3 c11 s11' h113 => ?_
  have y3 : Kp wq x3 := Kp.of_chg y2 c11 fun i e => by omega
  refine r_drew fun x4 y4 _ => ?_
  have y04 := Kp.trans y3 y4
  have h114 := block_below h113 y4
  have c4 : x4.cell? ⟨b11, 4, none⟩ = some (.int .i64 x.2.1) := by rw [cell_row h114]; rfl
  have c5 : x4.cell? ⟨b11, 5, none⟩ = some (.int .i64 x.2.2.1) := by rw [cell_row h114]; rfl
  obtain ⟨⟨x1, x2'⟩, x3', x4'⟩ := hok x (List.mem_of_getElem? hx)
  have htake : (L.take (i + 1)).foldl (alvF (alvL L N (k - 1))) (List.replicate N false) = alvF (alvL L N (k - 1)) ((L.take i).foldl (alvF (alvL L N (k - 1))) (List.replicate N false)) x := by
    rw [List.take_add_one, hx]
    simp
  have hpl := alvL_len L N (k - 1)
  obtain ⟨ob, oo, _, u, eo, ocell, hu⟩ := (hBq.kp y04).row (i := k - 1) (r := alvL L N (k - 1)) (by rw [List.getElem?_map, List.getElem?_range (by omega)]; rfl)
  cases eo
  generalize alvL L N (k - 1) = prev at *
  generalize (L.take i).foldl (alvF prev) (List.replicate N false) = A at *
  obtain ⟨g, cap, ev, hgb, gc, gf, gset⟩ := BoolsAt.put (hvq.kp y04) (q := x.2.1.toNat) (by omega) (A.getD x.2.1.toNat false || prev.getD x.2.2.1.toNat false)
  obtain ⟨ub, uo, uc, eu, _, hus⟩ := (hu.rd bC_len).at (i := x.2.2.1.toNat) (x := prev.getD x.2.2.1.toNat false) (by rw [List.getElem?_eq_getElem (by omega), getD_lt _ _ _ (by omega)])
  have hus0 := hus 0 _ rfl
  simp only [Nat.mul_one, Nat.add_zero] at hus0
  subst ev
  subst eu
  cases hA : A.getD x.2.1.toNat false with
  | true =>
    rw [hA] at gset
    simp (disch := omega) only [r_ln, r_pick, r_pickT, r_pickF, r_condT, r_condF, r_gdTT, r_gdFF, r_gdTF, r_gdFT, r_gqTT, r_gqFF, r_gqTF, r_gqFT, r_not, r_lss, r_leq, r_gtr, r_geq, r_eql, r_neq, r_add, r_sub, r_min2, r_max2, r_min3, r_max3, r_fa, r_iaS, r_iaA, r_ex2a, r_ex2b, r_ex3a, r_ex3b, r_ex3c, r_nc, r_keepE, Nat.zero_add, Nat.add_zero, Nat.mul_one, Int.toNat_natCast, toNat_sub1, toNat_add1, decide_true, decide_false, Bool.not_true, Bool.not_false, if_true, if_false, Bool.false_eq_true, reduceCtorEq, r_ld c4, r_ld c5, r_ld gc, hA]
    rw [st4 gc gf]
    try simp (disch := omega) only [r_ln, r_pick, r_pickT, r_pickF, r_condT, r_condF, r_gdTT, r_gdFF, r_gdTF, r_gdFT, r_gqTT, r_gqFF, r_gqTF, r_gqFT, r_not, r_lss, r_leq, r_gtr, r_geq, r_eql, r_neq, r_add, r_sub, r_min2, r_max2, r_min3, r_max3, r_fa, r_iaS, r_iaA, r_ex2a, r_ex2b, r_ex3a, r_ex3b, r_ex3c, r_nc, r_keepE, Nat.zero_add, Nat.add_zero, Nat.mul_one, Int.toNat_natCast, toNat_sub1, toNat_add1, decide_true, decide_false, Bool.not_true, Bool.not_false, if_true, if_false, Bool.false_eq_true, reduceCtorEq]
    refine ⟨⟨i + 1, by omega, by go_num, Kp.of_chg (Kp.trans kq y04) (Chg.setCell (S := fun k => k = g) _ _ rfl) fun k e => by omega, ?_⟩, by simp only [intOf]; omega⟩
    rw [htake, alvF, hA]
    simpa using gset
  | false =>
    rw [hA] at gset
    have hlm : (List.map (alvL L N) (List.range k)).length = k := by simp
    simp (disch := omega) only [r_ln, r_pick, r_pickT, r_pickF, r_condT, r_condF, r_gdTT, r_gdFF, r_gdTF, r_gdFT, r_gqTT, r_gqFF, r_gqTF, r_gqFT, r_not, r_lss, r_leq, r_gtr, r_geq, r_eql, r_neq, r_add, r_sub, r_min2, r_max2, r_min3, r_max3, r_fa, r_iaS, r_iaA, r_ex2a, r_ex2b, r_ex3a, r_ex3b, r_ex3c, r_nc, r_keepE, Nat.zero_add, Nat.add_zero, Nat.mul_one, Int.toNat_natCast, toNat_sub1, toNat_add1, decide_true, decide_false, Bool.not_true, Bool.not_false, if_true, if_false, Bool.false_eq_true, reduceCtorEq, r_ld c4, r_ld c5, r_ld gc, hA, hlm, r_ld ocell, r_ld hus0]
    rw [st4 gc gf]
    try simp (disch := omega) only [r_ln, r_pick, r_pickT, r_pickF, r_condT, r_condF, r_gdTT, r_gdFF, r_gdTF, r_gdFT, r_gqTT, r_gqFF, r_gqTF, r_gqFT, r_not, r_lss, r_leq, r_gtr, r_geq, r_eql, r_neq, r_add, r_sub, r_min2, r_max2, r_min3, r_max3, r_fa, r_iaS, r_iaA, r_ex2a, r_ex2b, r_ex3a, r_ex3b, r_ex3c, r_nc, r_keepE, Nat.zero_add, Nat.add_zero, Nat.mul_one, Int.toNat_natCast, toNat_sub1, toNat_add1, decide_true, decide_false, Bool.not_true, Bool.not_false, if_true, if_false, Bool.false_eq_true, reduceCtorEq]
    refine ⟨⟨i + 1, by omega, by go_num, Kp.of_chg (Kp.trans kq y04) (Chg.setCell (S := fun k => k = g) _ _ rfl) fun k e => by omega, ?_⟩, by simp only [intOf]; omega⟩
    rw [htake, alvF, hA]
    simpa using gset

end Go.Proofs.Ytgalbokmgffhkaa

/- Contract: ways of the specification. -/
namespace Go.Proofs.Ytgalbokmgffhkaa
open Go.Lf Go.RowKit Go.Wg

theorem encD_ex {n : Nat} (hn : 0 < n) : ∀ (W s : Nat), s < n ^ W → ∃ d : List Nat, d.length = W ∧ (∀ a ∈ d, a < n) ∧ encD n d = s
  | 0, s, h => ⟨[], rfl, by simp, by rw [encD]; simp at h; omega⟩
  | W + 1, s, h => by
    have h1 : s / n < n ^ W := by
      rw [Nat.pow_succ] at h
      exact Nat.div_lt_of_lt_mul (by rw [Nat.mul_comm]; exact h)
    obtain ⟨d, d1, d2, d3⟩ := encD_ex hn W (s / n) h1
    refine ⟨s % n :: d, by simp [d1], fun a ha => ?_, ?_⟩
    · rcases List.mem_cons.1 ha with rfl | ha
      · exact Nat.mod_lt _ hn
      · exact d2 a ha
    · rw [encD, d3]
      exact Nat.mod_add_div s n
theorem put_lt {l : List Tile} (hs : IsSet l) {W p s s' : Nat} {t : Tile} (ht : t ∈ l) (hW : 0 < W) (hlt : s < (lineL l).length ^ W * 8) (h : putM l W p s t = some s') : s' < (lineL l).length ^ W * 8 := by
  have hn := line_pos hs
  obtain ⟨d, d1, d2, d3⟩ := encD_ex hn W (s / 8) (Nat.div_lt_of_lt_mul (by rw [Nat.mul_comm]; exact hlt))
  have he : s = encS (lineL l).length d (s % 8) := by rw [encS, d3]; omega
  rw [he, put_enc hs.cols ht d1 hW d2 (Nat.mod_lt _ (by omega))] at h
  split at h
  · cases h
  · injection h with h
    have hm := (mem_line hs.cols ht).2
    have hl := encD_lt (n := (lineL l).length) (d := d.set (p % W) (lidx l (tS t))) fun a ha => by
      rcases List.mem_or_eq_of_mem_set ha with h1 | h1
      · exact d2 a h1
      · rw [h1]; exact lidx_lt hm
    have hcr := cols_range (hs.cols t ht)
    rw [List.length_set, d1] at hl
    rw [← h, encS]
    omega

def allS (l : List Tile) (W : Nat) : Nat := (lineL l).length ^ W * 8
def wayL (l : List Tile) (W H p : Nat) : List Int := (List.range (allS l W)).map fun s => capI (Wq l W H (W * H - p) s)
theorem wayL_len (l : List Tile) (W H p : Nat) : (wayL l W H p).length = allS l W := by simp [wayL]
theorem wayL_at {l : List Tile} {W H p s : Nat} (hs : s < allS l W) : (wayL l W H p).getD s 0 = capI (Wq l W H (W * H - p) s) := by
  rw [getD_lt _ _ _ (by rw [wayL_len]; exact hs)]
  simp [wayL]

theorem cappedI_calls (x : Int) (w : World) : Calls Try.prog 88 #[.int .i64 x] w fun e w' => e = .returned (.int .i64 (min x 1099511627777)) ∧ w = w' := by
  refine lift88 ?_
  unfold S88
  simp only [r_ln, r_pick, r_pickT, r_pickF, r_condT, r_condF, r_gdTT, r_gdFF, r_gdTF, r_gdFT, r_gqTT, r_gqFF, r_gqTF, r_gqFT, r_not, r_lss, r_leq, r_gtr, r_geq, r_eql, r_neq, r_add, r_sub, r_min2, r_max2, r_min3, r_max3, r_fa, r_iaS, r_iaA, r_ex2a, r_ex2b, r_ex3a, r_ex3b, r_ex3c, r_nc, r_keepE, Nat.zero_add, Nat.add_zero, Nat.mul_one, Int.toNat_natCast, toNat_sub1, toNat_add1, decide_true, decide_false, Bool.not_true, Bool.not_false, if_true, if_false, Bool.false_eq_true, reduceCtorEq]
  exact ⟨by first | rfl | trivial, by first | rfl | trivial⟩
theorem st30 {w : World} {a : Addr} {x : Option Addr} {n c : Nat} {v : Value} {K : World → Prop} (hc : w.cell? a = some v) (hf : w.frozen? a = false) : stW Try.prog 30 (.pointer (some a)) (.slice x n c) w K = K (w.setCell a (.slice x n c)) := by
  have e : stW Try.prog 30 (.pointer (some a)) (.slice x n c) w K = ((w.cell? (a.add 0)).isSome = true ∧ w.frozen? (a.add 0) = false ∧ true = true ∧ K (w.setCell (a.add 0) (.slice x n c))) := by kernel_rfl
  rw [e]
  have ha : a.add 0 = a := rfl
  simp [ha, hc, hf]
/-- make([][]int, n) -/
theorem mk23 {n : Nat} {w : World} {K : Value → World → Prop} (hn : n ≤ 1000000) (h : ∀ v w', RecAt 30 1 vE w.heap.size w' v (List.replicate n nilS) → Kp w w' → K v w') :
    mkW Try.prog 23 (.int .i64 n) (.int .i64 n) w K := by
  have e : ∀ (l : Int) (K : Value → World → Prop), mkW Try.prog 23 (.int .i64 l) (.int .i64 l) w K = (0 ≤ l ∧ l ≤ l ∧ l ≤ 4611686018427387904 ∧ ((24 : Nat) : Int) * l ≤ 281474976710656 ∧ 0 < 1 ∧
      K (.slice (some ⟨w.heap.size, 0, none⟩) l.toNat l.toNat) (w.alloc (.cells (mkCells #[.slice none 0 0] (l.toNat * 1)) 30))) := fun l K => by kernel_rfl
  rw [e]
  refine ⟨by omega, by omega, by omega, by omega, by omega, ?_⟩
  rw [Nat.mul_one, mkCells_one, Int.toNat_natCast]
  exact h _ _ (made_rec (x := nilS) (enc := vE) rfl hn w) (below_alloc _)

/-- The rows from p on are there, each in a block that is not g. -/
structure WSt (l : List Tile) (W H base : Nat) (v31 : Value) (vs : List Value) (p : Nat) (g : Nat) (w : World) : Prop where
  out : RecAt 30 1 vE base w v31 vs
  len : vs.length = W * H + 1
  rows : ∀ q u, p ≤ q → vs[q]? = some u → IntsAt base w u (wayL l W H q) ∧ ∀ k, u.ownBlock = some k → k ≠ g
theorem WSt.later {l : List Tile} {W H base p g : Nat} {v31 : Value} {vs : List Value} {w w' : World} (h : WSt l W H base v31 vs p g w) (k : Kp w w') : WSt l W H base v31 vs p g w' :=
  ⟨h.out.kp k, h.len, fun q u hq hu => ⟨(h.rows q u hq hu).1.kp k, (h.rows q u hq hu).2⟩⟩
/-- A store into the block g. -/
theorem WSt.store {l : List Tile} {W H base p g : Nat} {v31 : Value} {vs : List Value} {w w' : World} (h : WSt l W H base v31 vs p g w) (hg : ∀ k, v31.ownBlock = some k → k ≠ g) (k : Chg (fun q => q = g) w w') : WSt l W H base v31 vs p g w' :=
  ⟨h.out.chg k fun q hq e => hg q hq e, h.len, fun q u hq hu => ⟨(h.rows q u hq hu).1.chg k fun x hx e => (h.rows q u hq hu).2 x hx e, (h.rows q u hq hu).2⟩⟩

/-- What a tile adds. -/
def addW (l : List Tile) (W H p s : Nat) (t : Tile) : Nat := match putM l W p s t with
  | some s' => Wq l W H (W * H - (p + 1)) s'
  | none => 0
theorem Wq_tot {l : List Tile} {W H p s : Nat} (hp : p < W * H) : Wq l W H (W * H - p) s = tot (addW l W H p s) l := by
  obtain ⟨q, hq⟩ : ∃ q, W * H - p = q + 1 := ⟨W * H - p - 1, by omega⟩
  rw [hq, Wq]
  have e1 : W * H - (q + 1) = p := by omega
  have e2 : W * H - (p + 1) = q := by omega
  rw [e1]
  refine tot_congr fun t _ => ?_
  rw [addW, e2]
  cases putM l W p s t <;> rfl

set_option maxRecDepth 100000 in
set_option maxHeartbeats 800000 in
/-- One state: the sum over the tiles. -/
theorem r75_3 {l : List Tile} {W H base p g s : Nat} {sv lv v31 u0 : Value} {vs : List Value} {R0 : List Int} {w0 w : World} {next : Value → World → Prop} (hset : IsSet l) (hW : 1 ≤ W ∧ W ≤ 4) (hH : 1 ≤ H ∧ H ≤ 4) (hall : allS l W ≤ 60000) (hr : RdT w0 sv l) (hL : RdInts w0 lv (lineL l)) (hk : Kp w0 w)
    (hp : p < W * H) (hs : s < allS l W) (S : WSt l W H base v31 vs (p + 1) g w) (hv : ∀ k, v31.ownBlock = some k → k ≠ g) (hup : vs[p]? = some u0) (hu0 : IntsAt base w u0 R0) (hR0 : R0.length = allS l W) (hg : u0.ownBlock = some g)
    (hn : ∀ w', Kp w0 w' ∨ True → WSt l W H base v31 vs (p + 1) g w' → IntsAt base w' u0 (R0.set s (capI (Wq l W H (W * H - p) s))) → (∃ wm, Kp w wm ∧ Chg (fun q => q = g) wm w') → next (.int .i64 ((s : Int) + 1)) w') :
    S75L3 sv (.int .i64 W) (.int .i64 p) (.int .i64 s) lv v31 next w := by
  have hWH : W * H ≤ 16 := Nat.mul_le_mul hW.2 hH.2
  obtain ⟨sa, sc, es, _⟩ := hr.len
  have lns : ∀ K : Value → Prop, ln1 sv K = K (.int .i64 l.length) := fun K => by rw [es]; rfl
  have hlm := hset.most
  unfold S75L3
  refine ⟨fun t15 t16 wr => ∃ i : Nat, i ≤ l.length ∧ t16 = .int .i64 i ∧ t15 = .int .i64 (capI (tot (addW l W H p s) (l.take i))) ∧ Kp w wr, fun _ t16 _ => l.length - (intOf t16).toNat, ⟨0, by omega, rfl, rfl, Kp.refl _⟩, ?_⟩
  rintro _ _ _ wr ⟨i, hi, rfl, rfl, kr⟩
  rw [lns]
  have Sr := S.later kr
  have hlenv := S.len
  by_cases hlt : i < l.length
  case neg =>
    have hlt' : ¬ (i : Int) < (l.length : Int) := by omega
    rw [List.take_of_length_le (by omega), ← Wq_tot hp]
    obtain ⟨ob, oo, oc, eo, _, hco⟩ := (Sr.out.rd vE_len).at hup
    have co : wr.cell? ⟨ob, oo + p, none⟩ = some u0 := by
      have := hco 0 _ rfl
      simpa using this
    obtain ⟨g', cap, eu, hbg, hcell, hfr, hput⟩ := IntsAt.put (hu0.kp kr) (q := s) (by omega) (capI (Wq l W H (W * H - p) s))
    have hgg : g' = g := by
      rw [eu] at hg
      injection hg
    subst hgg
    have hpp : (p : Int).toNat = p := by omega
    have hss : (s : Int).toNat = s := by omega
    rw [eo] at *
    rw [eu] at co
    simp (disch := omega) only [r_ln, r_pick, r_pickT, r_pickF, r_condT, r_condF, r_gdTT, r_gdFF, r_gdTF, r_gdFT, r_gqTT, r_gqFF, r_gqTF, r_gqFT, r_not, r_lss, r_leq, r_gtr, r_geq, r_eql, r_neq, r_add, r_sub, r_min2, r_max2, r_min3, r_max3, r_fa, r_iaS, r_iaA, r_ex2a, r_ex2b, r_ex3a, r_ex3b, r_ex3c, r_nc, r_keepE, Nat.zero_add, Nat.add_zero, Nat.mul_one, Int.toNat_natCast, toNat_sub1, toNat_add1, decide_true, decide_false, Bool.not_true, Bool.not_false, if_true, if_false, Bool.false_eq_true, reduceCtorEq, hlt', hpp, r_ld co, hss]
    rw [st3 hcell hfr]
    have hch : Chg (fun q => q = g') wr (wr.setCell ⟨g', s, none⟩ (.int .i64 (capI (Wq l W H (W * H - p) s)))) := Chg.setCell _ _ rfl
    try simp (disch := omega) only [r_ln, r_pick, r_pickT, r_pickF, r_condT, r_condF, r_gdTT, r_gdFF, r_gdTF, r_gdFT, r_gqTT, r_gqFF, r_gqTF, r_gqFT, r_not, r_lss, r_leq, r_gtr, r_geq, r_eql, r_neq, r_add, r_sub, r_min2, r_max2, r_min3, r_max3, r_fa, r_iaS, r_iaA, r_ex2a, r_ex2b, r_ex3a, r_ex3b, r_ex3c, r_nc, r_keepE, Nat.zero_add, Nat.add_zero, Nat.mul_one, Int.toNat_natCast, toNat_sub1, toNat_add1, decide_true, decide_false, Bool.not_true, Bool.not_false, if_true, if_false, Bool.false_eq_true, reduceCtorEq]
    exact hn _ (.inr trivial) (Sr.store hv hch) hput ⟨wr, kr, hch⟩
  have hlt' : (i : Int) < (l.length : Int) := by omega
  obtain ⟨b, off, cap, e, _, hcell⟩ := (hr.kp (Kp.trans hk kr)).at (List.getElem?_eq_getElem hlt)
  have hii : (i : Int).toNat = i := by omega
  have ia : ∀ K : Value → Prop, iaS 4 sv (.int .i64 i) K = K (.pointer (some ⟨b, off + i * 4, none⟩)) := fun K => by rw [e, r_iaS _ _ _ _ _ _ _ (by omega) (by omega), hii]
  have htm := List.getElem_mem hlt
  have hstep : tot (addW l W H p s) (l.take (i + 1)) = tot (addW l W H p s) (l.take i) + addW l W H p s l[i] := by
    rw [take_succ' _ _ hlt, tot_append]; simp [tot]
  generalize l[i] = t at *
  have ev : ∀ t : Tile, Value.agg (tlC t).toArray = tlV t := fun t => rfl
  simp (disch := omega) only [r_lss, decide_eq_true hlt', r_condT, ia, r_ldCells (tlC_len t) hcell, ev]
  refine r_use fok80 (put_calls (p := p) (s := s) wr (hL.below (Kp.trans hk kr)) hset htm hW (by omega) hs hall) rfl ?_
  rintro _ w2 ⟨rfl, k2⟩
  refine ⟨_, rfl, ?_⟩
  have kr2 := Kp.trans kr k2
  simp only [r_geq]
  refine r_join1 (fun v w' => v = .int .i64 (capI (tot (addW l W H p s) (l.take (i + 1)))) ∧ Kp w w') ?_ fun k' hk' => ?_
  · rintro v w' ⟨rfl, kk⟩
    rw [r_add _ _ (by omega) (by omega)]
    exact ⟨⟨i + 1, by omega, by go_num, rfl, kk⟩, by simp only [intOf]; omega⟩
  rw [hstep] at hk'
  cases hpm : putM l W p s t with
  | none =>
    have ha : addW l W H p s t = 0 := by rw [addW, hpm]
    rw [ha, Nat.add_zero] at hk'
    have hneg : ¬ (0 : Int) ≤ -1 := by decide
    simp (disch := omega) only [putV, r_ln, r_pick, r_pickT, r_pickF, r_condT, r_condF, r_gdTT, r_gdFF, r_gdTF, r_gdFT, r_gqTT, r_gqFF, r_gqTF, r_gqFT, r_not, r_lss, r_leq, r_gtr, r_geq, r_eql, r_neq, r_add, r_sub, r_min2, r_max2, r_min3, r_max3, r_fa, r_iaS, r_iaA, r_ex2a, r_ex2b, r_ex3a, r_ex3b, r_ex3c, r_nc, r_keepE, Nat.zero_add, Nat.add_zero, Nat.mul_one, Int.toNat_natCast, toNat_sub1, toNat_add1, decide_true, decide_false, Bool.not_true, Bool.not_false, if_true, if_false, Bool.false_eq_true, reduceCtorEq, hneg]
    exact hk' _ _ ⟨rfl, kr2⟩
  | some s' =>
    have hs' := put_lt hset htm hW.1 hs hpm
    have ha : addW l W H p s t = Wq l W H (W * H - (p + 1)) s' := by rw [addW, hpm]
    rw [ha] at hk'
    have hpos : (0 : Int) ≤ (s' : Int) := by omega
    have S2 := S.later kr2
    obtain ⟨u, hu⟩ : ∃ u, vs[p + 1]? = some u := ⟨_, List.getElem?_eq_getElem (by omega)⟩
    obtain ⟨hI, _⟩ := S2.rows (p + 1) u (Nat.le_refl _) hu
    obtain ⟨ob, oo, oc, eo, _, hco⟩ := (S2.out.rd vE_len).at hu
    have co : w2.cell? ⟨ob, oo + (p + 1), none⟩ = some u := by
      have := hco 0 _ rfl
      simpa using this
    obtain ⟨g', cap', eu, _, hcl, _, _⟩ := IntsAt.put hI (q := s') (by rw [wayL_len]; exact hs') 0
    rw [wayL_at hs'] at hcl
    have hwl := wayL_len l W H (p + 1)
    have hpp : ((p : Int) + 1).toNat = p + 1 := by omega
    have hss : (s' : Int).toNat = s' := by omega
    rw [eu] at co
    have hs'' : s' < allS l W := hs'
    have hcap : 0 ≤ capI (tot (addW l W H p s) (l.take i)) ∧ capI (tot (addW l W H p s) (l.take i)) ≤ 1099511627777 := by unfold capI; omega
    have hcap2 : 0 ≤ capI (Wq l W H (W * H - (p + 1)) s') ∧ capI (Wq l W H (W * H - (p + 1)) s') ≤ 1099511627777 := by unfold capI; omega
    rw [eo]
    simp (disch := omega) only [putV, r_ln, r_pick, r_pickT, r_pickF, r_condT, r_condF, r_gdTT, r_gdFF, r_gdTF, r_gdFT, r_gqTT, r_gqFF, r_gqTF, r_gqFT, r_not, r_lss, r_leq, r_gtr, r_geq, r_eql, r_neq, r_add, r_sub, r_min2, r_max2, r_min3, r_max3, r_fa, r_iaS, r_iaA, r_ex2a, r_ex2b, r_ex3a, r_ex3b, r_ex3c, r_nc, r_keepE, Nat.zero_add, Nat.add_zero, Nat.mul_one, Int.toNat_natCast, toNat_sub1, toNat_add1, decide_true, decide_false, Bool.not_true, Bool.not_false, if_true, if_false, Bool.false_eq_true, reduceCtorEq, decide_eq_true hpos, hpp, r_ld co, hss, r_ld hcl]
    refine r_use fok88 (cappedI_calls _ w2) rfl ?_
    rintro _ _ ⟨rfl, rfl⟩
    refine ⟨_, rfl, ?_⟩
    rw [capI_add]
    exact hk' _ _ ⟨rfl, kr2⟩

end Go.Proofs.Ytgalbokmgffhkaa
