/- Texts of my own, merged by program: Pk Pl. -/
import Derived.Test.YtfmppkplmfbjpaaGreatDoorM20
import Derived.Test.YtfmppkplmfbjpaaGreatDoorM24
import Derived.Test.YtfmppkplmfbjpaaGreatDoorM27
set_option linter.all false
/- Contracts of pattern: centres, name, Group of the closed example; sided. -/
namespace Go.Proofs.YtfmppkplmfbjpaaGreatDoor
open Go.Lf Go.RowKit Go.Ht Go.Pt Go.MapKept Go.ChangeMaps Go.Wg

theorem LnsC.chgC {S : Nat → Prop} {base bl N : Nat} {w w' : World} {q : Prop} (h : LnsC base w bl N q) (c : Chg S w w') (hS : ∀ k, S k → ∃ cs, w.heap[k]? = some (.cells cs 4 (0, 0))) : LnsC base w' bl N q := by
  obtain ⟨cu, h1, h2, h3⟩ := h.blk
  have hm : ∀ {b : Nat} {q' : Prop}, MB w b q' → MB w' b q' := fun {b q'} hb => hb.chg c fun hs => by
    obtain ⟨cs, e⟩ := hS _ hs
    obtain ⟨f, ⟨es, cl, e2, _⟩, _⟩ := hb
    rw [e] at e2; cases e2
  refine ⟨h.hb, cu, c.at h1 fun hs => ?_, h2, fun k a b => ?_⟩
  · obtain ⟨cs, e⟩ := hS _ hs
    rw [h1] at e; cases e
  · obtain ⟨bm, ba, p1, p2, p3, p4, p5⟩ := h3 k a b
    exact ⟨bm, ba, p1, p2, hm p3, hm p4, p5⟩

/-- What name keeps while it goes through the centres. -/
structure NSt (w0 w : World) (b3 b5 b6 bl : Nat) (q : Prop) : Prop where
  k : Kp w0 w
  l : LnsC w0.heap.size w bl 8 True
  n3 : w0.heap.size ≤ b3
  n5 : w0.heap.size ≤ b5
  n6 : w0.heap.size ≤ b6
  d35 : b3 ≠ b5
  d36 : b3 ≠ b6
  d56 : b5 ≠ b6
  g3 : w.heap[b3]? = some (.cells #[ptrV bl] 106 (0, 0))
  g5 : ∃ v : Bool, w.heap[b5]? = some (.cells #[.bool v] 4 (0, 0)) ∧ (q → v = false)
  g6 : ∃ v : Bool, w.heap[b6]? = some (.cells #[.bool v] 4 (0, 0))
section
variable {w0 w w' : World} {b3 b5 b6 bl : Nat} {q q' : Prop}
theorem NSt.kp (h : NSt w0 w b3 b5 b6 bl q) (k' : Kp w w') : NSt w0 w' b3 b5 b6 bl q :=
  ⟨Kp.trans h.k k', h.l.kp k', h.n3, h.n5, h.n6, h.d35, h.d36, h.d56, block_below h.g3 k', let ⟨v, a, b⟩ := h.g5; ⟨v, block_below a k', b⟩, let ⟨v, a⟩ := h.g6; ⟨v, block_below a k'⟩⟩
theorem NSt.mono (h : NSt w0 w b3 b5 b6 bl q) (hq : q' → q) : NSt w0 w b3 b5 b6 bl q' :=
  { h with g5 := let ⟨v, a, b⟩ := h.g5; ⟨v, a, fun x => b (hq x)⟩ }
set_option maxRecDepth 100000 in
theorem NSt.set5 (h : NSt w0 w b3 b5 b6 bl q) {K : World → Prop} (hK : ∀ w', NSt w0 w' b3 b5 b6 bl True → K w') : stW Tryz.prog 4 (ptrV b5) (.bool false) w K := by
  obtain ⟨v, a, _⟩ := h.g5
  rw [st4b (v := .bool v) (by rw [cell_row a]; rfl) (frozen_row a)]
  have c : Chg (fun k => k = b5) w (w.setCell ⟨b5, 0, none⟩ (.bool false)) := Chg.setCell _ _ rfl
  refine hK _ ⟨Kp.of_chg h.k c fun i e => by have := h.n5; omega, h.l.chgC c fun k e => by rw [e]; exact ⟨_, a⟩, h.n3, h.n5, h.n6, h.d35, h.d36, h.d56, c.at h.g3 h.d35, ⟨false, setCell_block a rfl, fun _ => rfl⟩, let ⟨v6, a6⟩ := h.g6; ⟨v6, c.at a6 fun e => h.d56 e.symm⟩⟩
set_option maxRecDepth 100000 in
theorem NSt.set6 (h : NSt w0 w b3 b5 b6 bl q) (x : Bool) {K : World → Prop} (hK : ∀ w', NSt w0 w' b3 b5 b6 bl q → K w') : stW Tryz.prog 4 (ptrV b6) (.bool x) w K := by
  obtain ⟨v, a⟩ := h.g6
  rw [st4b (v := .bool v) (by rw [cell_row a]; rfl) (frozen_row a)]
  have c : Chg (fun k => k = b6) w (w.setCell ⟨b6, 0, none⟩ (.bool x)) := Chg.setCell _ _ rfl
  refine hK _ ⟨Kp.of_chg h.k c fun i e => by have := h.n6; omega, h.l.chgC c fun k e => by rw [e]; exact ⟨_, a⟩, h.n3, h.n5, h.n6, h.d35, h.d36, h.d56, c.at h.g3 h.d36, let ⟨v5, a5, z⟩ := h.g5; ⟨v5, c.at a5 fun e => h.d56 e, z⟩, ⟨x, setCell_block a rfl⟩⟩

set_option maxRecDepth 100000 in
theorem visit_calls (h : NSt w0 w b3 b5 b6 bl q) {x y : Int} (hx : -1000 ≤ x ∧ x ≤ 1000) (hy : -1000 ≤ y ∧ y ≤ 1000) : Calls Tryz.prog 50 #[.int .i64 x, .int .i64 y, ptrV b3, ptrV b5, ptrV b6] w fun e w' => e = .returned (.tuple #[]) ∧ NSt w0 w' b3 b5 b6 bl (q ∨ y = 0) := by
  refine lift50 ?_
  unfold S50
  have c3 : w.cell? ⟨b3, 0, none⟩ = some (ptrV bl) := by rw [cell_row h.g3]; rfl
  rw [r_ld c3]
  refine r_use fok51 (on_calls h.l hx hy) rfl ?_
  rintro _ _ ⟨v, hv, rfl, rfl⟩
  refine ⟨_, rfl, ?_⟩
  cases v with
  | true =>
    rw [r_condT]
    refine h.set5 fun w' h' => ⟨rfl, h'.mono fun _ => trivial⟩
  | false =>
    rw [r_condF]
    refine h.set6 false fun w' h' => ⟨rfl, h'.mono fun hh => hh.elim id fun e => by have := hv e; cases this⟩

variable {bg A B D : Nat} {vs : Value} {own : Nat → Bool}
set_option maxRecDepth 100000 in
set_option maxHeartbeats 1000000 in
theorem r49_1 {e : Int} {next : Value → World → Prop} (hW : Wk w0) (hg : GrC w0 bg A B D vs own) (hA : 1 ≤ A ∧ A ≤ 6) (hB : B ≤ 6) (hD : 1 ≤ D ∧ D ≤ 6) (hown : own (1 * 36) = true) (he : -12 ≤ e ∧ e ≤ 12) (hS : NSt w0 w b3 b5 b6 bl (0 < e))
    (hN : ∀ w', NSt w0 w' b3 b5 b6 bl (0 < e + 1) → next (.int .i64 (e + 1)) w') : S49L1 (ptrV bg) (.int .i64 1) (.func (.func 50) #[] #[ptrV b3, ptrV b5, ptrV b6]) (.int .i64 e) next w := by
  unfold S49L1
  refine ⟨fun t7 wq => ∃ f : Int, -12 ≤ f ∧ f ≤ 13 ∧ t7 = .int .i64 f ∧ NSt w0 wq b3 b5 b6 bl (0 < e ∨ e = 0 ∧ 0 < f), fun t7 _ => (13 - intOf t7).toNat, ⟨-12, by omega, by omega, rfl, hS.mono (by omega)⟩, ?_⟩
  rintro _ _ wq ⟨f, hf1, hf2, rfl, hq⟩
  by_cases hlt : f ≤ 12
  case neg =>
    rw [r_leq, decide_eq_false hlt, r_condF, r_add _ _ (by omega) (by omega)]
    exact hN _ (hq.mono (by omega))
  rw [r_leq, decide_eq_true hlt, r_condT]
  have hsrc : ∀ K : Value → Prop, (iaA 8 6 (.pointer (some ⟨0, 0, none⟩)) (.int .i64 1) fun p => ldN 6 wq p K) = K (mvV (mvK 1 0 0)) := fun K => (hW.kp hq.k).one (i := 1) (by omega) K
  rw [hsrc]
  refine r_mk (m := mvK 1 0 0) (e := e) (f := f) fun b7 w1 h7 k1 hb7 => ?_
  rw [mvEF_K] at h7
  rw [mv_ld h7]
  have hq1 := hq.kp k1
  refine r_use fok75 (has_calls (hg.kp hq1.k) hA hB hD (i := 1) (by omega) (m := mvK 1 e f) (by show -3000 ≤ e ∧ e ≤ 3000; omega) (by show -3000 ≤ f ∧ f ≤ 3000; omega)) rfl ?_
  rintro _ w2 ⟨rfl, k2⟩
  refine ⟨_, rfl, ?_⟩
  have hq2 := hq1.kp k2
  rw [r_not]
  refine r_join0 (fun w' => NSt w0 w' b3 b5 b6 bl (0 < e ∨ e = 0 ∧ 0 < f + 1)) ?_ fun k' hk' => ?_
  · rintro w' g1
    rw [r_add _ _ (by omega) (by omega)]
    exact ⟨⟨f + 1, by omega, by omega, rfl, g1⟩, by simp only [intOf]; omega⟩
  cases ho : own (1 * 36 + ((mvK 1 e f).2.2.2.2.1 % (A : Int)).toNat * 6 + (redF A B D (mvK 1 e f).2.2.2.2.1 (mvK 1 e f).2.2.2.2.2).toNat) with
  | false =>
    rw [Bool.not_false, r_condT]
    refine hk' _ (hq2.mono fun hh => ?_)
    by_cases hz : e = 0 ∧ f = 0
    · obtain ⟨rfl, rfl⟩ := hz
      have z : (mvK 1 0 0).2.2.2.2.1 = 0 := rfl
      have z2 : (mvK 1 0 0).2.2.2.2.2 = 0 := rfl
      rw [z, z2] at ho
      unfold redF at ho
      have : own 36 = false := by simpa using ho
      rw [show (1 * 36 : Nat) = 36 from rfl] at hown
      rw [hown] at this; cases this
    · omega
  | true =>
    rw [Bool.not_true, r_condF, r_eql, decide_eq_false (by decide : ¬ (1 : Int) = 2), r_condF, r_sub _ _ (by omega) (by omega), r_add _ _ (by omega) (by omega)]
    refine r_use fok50 (visit_calls hq2 (x := e - f) (y := e + f) (by omega) (by omega)) rfl ?_
    rintro _ w3 ⟨rfl, h3⟩
    exact ⟨_, rfl, hk' _ (h3.mono (by omega))⟩

set_option maxRecDepth 100000 in
theorem centres_calls (hW : Wk w0) (hg : GrC w0 bg A B D vs own) (hA : 1 ≤ A ∧ A ≤ 6) (hB : B ≤ 6) (hD : 1 ≤ D ∧ D ≤ 6) (hown : own (1 * 36) = true) (hS : NSt w0 w b3 b5 b6 bl False) : Calls Tryz.prog 49 #[ptrV bg, .int .i64 1, .func (.func 50) #[] #[ptrV b3, ptrV b5, ptrV b6]] w fun e w' => e = .returned (.tuple #[]) ∧ NSt w0 w' b3 b5 b6 bl True := by
  refine lift49 ?_
  unfold S49 S49L0
  refine ⟨fun t6 wq => ∃ e : Int, -12 ≤ e ∧ e ≤ 13 ∧ t6 = .int .i64 e ∧ NSt w0 wq b3 b5 b6 bl (0 < e), fun t6 _ => (13 - intOf t6).toNat, ⟨-12, by omega, by omega, rfl, hS.mono (by omega)⟩, ?_⟩
  rintro _ _ wq ⟨e, he1, he2, rfl, hq⟩
  by_cases hlt : e ≤ 12
  case neg =>
    rw [r_leq, decide_eq_false hlt, r_condF]
    exact ⟨rfl, hq.mono (by omega)⟩
  rw [r_leq, decide_eq_true hlt, r_condT]
  refine r49_1 hW hg hA hB hD hown ⟨he1, hlt⟩ hq fun w' g => ?_
  exact ⟨⟨e + 1, by omega, by omega, rfl, g⟩, by simp only [intOf]; omega⟩
end

set_option maxRecDepth 100000 in
theorem st106 {w : World} {b b' : Nat} {v : Value} {K : World → Prop} (h : w.heap[b]? = some (.cells #[v] 106 (0, 0))) (hk : ∀ w', Chg (fun k => k = b) w w' → w'.heap.size = w.heap.size → w'.heap[b]? = some (.cells #[ptrV b'] 106 (0, 0)) → K w') : stW Tryz.prog 106 (ptrV b) (ptrV b') w K :=
  r_stAll (n := 1) (by kernel_rfl) rfl (by intro u hu; simp [Value.cells] at hu; rcases hu with rfl; rfl) h rfl fun w' h1 h2 h3 => hk w' h1 h2 h3

set_option maxRecDepth 100000 in
set_option maxHeartbeats 1000000 in
theorem name_calls {w : World} {bg A B D : Nat} {vs : Value} {own : Nat → Bool} {P : List Mv} {base : Nat} (hW : Wk w) (h : GrAt base w bg A B D vs P own) (hA : 1 ≤ A ∧ A ≤ 6) (hB : B ≤ 6) (hD : 1 ≤ D ∧ D ≤ 6) (hP : MvAll P) (hl : P.length ≤ 300) (h1 : mvK 1 0 0 ∈ P) (ho4 : own (4 * 36) = true) (ho1 : own (1 * 36) = true) :
    Calls Tryz.prog 27 #[ptrV bg] w fun e w' => e = .returned (.string ⟨#[112, 52, 109]⟩) ∧ Kp w w' := by
  refine lift27 ?_
  unfold S27
  refine r_use fok46 (lines_calls hW h.c hA hB hD ho4) rfl ?_
  rintro _ w1 ⟨bl, rfl, hL, k1⟩
  refine ⟨_, rfl, ?_⟩
  refine r_box fun b3 w2 e2 s2 h2 k2 => ?_
  refine st106 h2 fun w3 c3 s3 h3 => ?_
  have k03 : Kp w1 w3 := Kp.of_chg k2 c3 fun i e => by omega
  refine r_use fok47 (order_calls (hW.kp (Kp.trans k1 k03)) (h.kp (Kp.trans k1 k03)) hP hl h1) rfl ?_
  rintro _ w4 ⟨rfl, k4⟩
  refine ⟨_, rfl, ?_⟩
  have h34 := block_below h3 k4
  have c34 : w4.cell? ⟨b3, 0, none⟩ = some (ptrV bl) := by rw [cell_row h34]; rfl
  rw [r_ld c34]
  have k14 := Kp.trans k03 k4
  refine r_use fok48 (any_calls (hL.kp k14)) rfl ?_
  rintro _ w5 ⟨rfl, k5⟩
  refine ⟨_, rfl, ?_⟩
  rw [r_not, Bool.not_true, r_condF]
  refine r_box fun b5 w6 e6 s6 h6 k6 => ?_
  refine r_box fun b6 w7 e7 s7 h7 k7 => ?_
  have h57 := block_below h6 k7
  have c57 : w7.cell? ⟨b5, 0, none⟩ = some (.bool false) := by rw [cell_row h57]; rfl
  rw [st4b c57 (frozen_row h57)]
  have h58 : (w7.setCell ⟨b5, 0, none⟩ (.bool true)).heap[b5]? = some (.cells #[.bool true] 4 (0, 0)) := setCell_block h57 rfl
  have c8 : Chg (fun k => k = b5) w7 (w7.setCell ⟨b5, 0, none⟩ (.bool true)) := Chg.setCell _ _ rfl
  have h68 := c8.at h7 (by omega)
  generalize w7.setCell ⟨b5, 0, none⟩ (.bool true) = w8 at *
  have c68 : w8.cell? ⟨b6, 0, none⟩ = some (.bool false) := by rw [cell_row h68]; rfl
  rw [st4b c68 (frozen_row h68)]
  have h69 : (w8.setCell ⟨b6, 0, none⟩ (.bool false)).heap[b6]? = some (.cells #[.bool false] 4 (0, 0)) := setCell_block h68 rfl
  have c9 : Chg (fun k => k = b6) w8 (w8.setCell ⟨b6, 0, none⟩ (.bool false)) := Chg.setCell _ _ rfl
  have h59 := c9.at h58 (by omega)
  generalize w8.setCell ⟨b6, 0, none⟩ (.bool false) = w9 at *
  have k57 : Kp w5 w7 := Kp.trans k6 k7
  have k59 : Kp w5 w9 := Kp.of_chg (Kp.of_chg k57 c8 fun i e => by omega) c9 fun i e => by have := k6.size; omega
  have k09 : Kp w w9 := Kp.trans k1 (Kp.trans k14 (Kp.trans k5 k59))
  have z1 := k1.size
  have z4 := k4.size
  have z5 := k5.size
  have z6 := k6.size
  have z3 := block_lt h3
  have hN : NSt w w9 b3 b5 b6 bl False := ⟨k09, hL.kp (Kp.trans k14 (Kp.trans k5 k59)), by omega, by omega, by omega, by omega, by omega, by omega, block_below h34 (Kp.trans k5 k59), ⟨true, h59, fun hh => hh.elim⟩, ⟨false, h69⟩⟩
  rw [r_gtr, decide_eq_true (by decide : (1 : Int) < 4)]
  refine r_join0 (fun w' => NSt w w' b3 b5 b6 bl True) ?_ fun k' hk' => ?_
  · rintro w' g
    have cb3 : w'.cell? ⟨b3, 0, none⟩ = some (ptrV bl) := by rw [cell_row g.g3]; rfl
    rw [r_ld cb3]
    refine r_use fok52 (directions_calls g.l) rfl ?_
    rintro _ _ ⟨n, rfl, rfl⟩
    refine ⟨_, rfl, ?_⟩
    obtain ⟨v5, g5, hv5⟩ := g.g5
    have hv := hv5 trivial
    subst hv
    have cb5 : w'.cell? ⟨b5, 0, none⟩ = some (.bool false) := by rw [cell_row g5]; rfl
    rw [r_eql, decide_eq_true (by decide : (4 : Int) = 4)]
    simp only [r_gdTT, r_ld cb5, r_not, Bool.not_false, r_pickT, r_condT]
    exact ⟨by first | rfl | trivial, g.k⟩
  · rw [r_condT]
    refine hN.set6 true fun w10 g10 => ?_
    rw [r_eql, decide_eq_true (by decide : (4 : Int) = 4)]
    refine r_join1 (fun v w' => v = .int .i64 1 ∧ SameW w10 w') ?_ fun k'' hk'' => ?_
    · rintro _ _ ⟨rfl, rfl⟩
      refine r_use fok49 (centres_calls hW h.c hA hB hD ho1 g10) rfl ?_
      rintro _ w11 ⟨rfl, g11⟩
      exact ⟨_, rfl, hk' _ g11⟩
    · rw [r_condT]
      exact hk'' _ _ ⟨rfl, rfl⟩

/-- The pattern of the closed example. -/
def lab : List ByteArray := [⟨#[97, 98]⟩, ⟨#[98, 97]⟩]
theorem lab_c : PatC lab := by
  refine ⟨⟨by decide, by decide, fun i hi => ?_⟩, fun i hi => ?_⟩
  · have : i = 0 ∨ i = 1 := by simp [lab] at hi; omega
    rcases this with rfl | rfl <;> rfl
  · have : i = 0 ∨ i = 1 := by simp [lab] at hi; omega
    rcases this with rfl | rfl <;> decide
theorem lab_1 : keepsB lab (mvK 1 0 0) = true := by kernel_rfl
theorem lab_4 : keepsB lab (mvK 4 0 0) = true := by kernel_rfl

set_option maxRecDepth 100000 in
theorem lab_calls {v : Value} (w : World) (hW : Wk w) (hr : RdB w v lab) : Calls Tryz.prog 10 #[v] w fun e w' => e = .returned (.tuple #[.string ⟨#[112, 52, 109]⟩, .int .i64 0]) ∧ Kp w w' := by
  refine lift10 ?_
  unfold S10
  refine r_use fok16 (pof_calls w hr lab_c) rfl ?_
  rintro _ w1 ⟨b, rfl, hf, k1⟩
  refine ⟨_, rfl, ?_⟩
  rw [r_ex2a, r_ex2b, r_not, Bool.not_true, r_condF]
  refine r_use fok18 (group_calls (hW.kp k1) hf) rfl ?_
  rintro _ w2 ⟨A, B, D, bg, vs, P, own, hlat, rfl, hG, hI, hPl, k2⟩
  refine ⟨_, rfl, ?_⟩
  have a1 := hlat.a1
  have a2 : A ≤ 2 := hlat.aw
  have d1 := hlat.d1
  have d2 : D ≤ 2 := hlat.dh
  have b1 := hlat.bd
  have m1 : mvK 1 0 0 ∈ P := (hI.mem _).2 ⟨1, 0, 0, by unfold DoneI; omega, by omega, by omega, by omega, lab_1, rfl⟩
  have o1 : own (1 * 36) = true := (hI.own 1 0 0 (by omega) (by omega) (by omega)).2 ⟨by unfold DoneI; omega, by omega, by omega, lab_1⟩
  have o4 : own (4 * 36) = true := (hI.own 4 0 0 (by omega) (by omega) (by omega)).2 ⟨by unfold DoneI; omega, by omega, by omega, lab_4⟩
  have hall : MvAll P := fun m hm => by
    obtain ⟨i, e, f, _, h1, h2, h3, _, h5⟩ := (hI.mem m).1 hm
    exact ⟨i, e, f, h1, by omega, by omega, h5⟩
  refine r_use fok27 (name_calls (hW.kp (Kp.trans k1 k2)) hG (by omega) (by omega) (by omega) hall (by omega) m1 o4 o1) rfl ?_
  rintro _ w3 ⟨rfl, k3⟩
  exact ⟨_, rfl, rfl, Kp.trans k1 (Kp.trans k2 k3)⟩

/-! ### sided -/
def wl2 : List Tile := [(0, 0, 0, 0), (1, 0, 1, 0)]
set_option maxRecDepth 100000 in
theorem wcount2 : countV wl2 2 3 = .tuple #[.int .i64 4, .int .i64 0] := by kernel_rfl
theorem bd25a (K : Value → Prop) : bdQ Tryz.prog 25 [] K = K (tlV (0, 0, 0, 0)) := by kernel_rfl
theorem bd25b (K : Value → Prop) : bdQ Tryz.prog 25 [(0, (.int .i64 1)), (2, (.int .i64 1))] K = K (tlV (1, 0, 1, 0)) := by kernel_rfl
theorem bs22w (w : World) (K : Value → World → Prop) : bsW Tryz.prog 22 2 [(0, tlV (0, 0, 0, 0)), (1, tlV (1, 0, 1, 0))] w K = K (.slice (some ⟨w.heap.size, 0, none⟩) 2 2) (w.alloc (.cells (recCells tlC wl2).toArray 25)) := by kernel_rfl
theorem bs32w (w : World) (K : Value → World → Prop) : bsW Tryz.prog 32 2 [(0, .string ⟨#[97, 98]⟩), (1, .string ⟨#[98, 97]⟩)] w K = K (.slice (some ⟨w.heap.size, 0, none⟩) 2 2) (w.alloc (.cells (recCells sC lab).toArray 9)) := by kernel_rfl
theorem eqS_run (a b : ByteArray) (lit : Bool) (w : World) : (semBin .eql 9 lit (.string a) (.string b)).run Tryz.prog w = .ok (.value (.bool (a.toList == b.toList))) w := by
  unfold semBin
  cases lit <;> simp [eqGuard, binOp, Op.stringOp]
theorem r_eqS {a b : ByteArray} {lit : Bool} {w : World} {K : Value → Prop} (h : K (.bool (a.toList == b.toList))) : binQ Tryz.prog w .eql 9 lit (.string a) (.string b) K := ⟨_, fun w' _ => eqS_run a b lit w', h⟩

set_option maxRecDepth 100000 in
theorem sided_calls (w : World) (hW : Wk w) : Calls Tryz.prog 4 #[] w fun e w' => e = .returned (.bool true) ∧ Kp w w' := by
  refine lift4 ?_
  unfold S4
  rw [bd25a, bd25b, bs22w]
  have o1 := rec_alloc (e := 25) tlC_len wl2 (by decide) w
  have k1 : Kp w (w.alloc (.cells (recCells tlC wl2).toArray 25)) := below_alloc _
  generalize w.alloc (.cells (recCells tlC wl2).toArray 25) = w1 at *
  refine r_use fok9 (count_calls 2 3 w1 (o1.rd tlC_len)) rfl ?_
  rintro _ w2 ⟨rfl, k2⟩
  refine ⟨_, rfl, ?_⟩
  rw [wcount2]
  simp only [r_ex2a, r_ex2b]
  rw [bs32w]
  have o3 := rec_alloc (e := 9) sC_len lab (by decide) w2
  have k3 : Kp w2 (w2.alloc (.cells (recCells sC lab).toArray 9)) := below_alloc _
  generalize hs2 : w2.heap.size = sz2 at *
  generalize w2.alloc (.cells (recCells sC lab).toArray 9) = w3 at *
  have k03 : Kp w w3 := Kp.trans k1 (Kp.trans k2 k3)
  refine r_use fok10 (lab_calls w3 (hW.kp k03) (o3.rd sC_len)) rfl ?_
  rintro _ w4 ⟨rfl, k4⟩
  refine ⟨_, rfl, ?_⟩
  simp only [r_ex2a, r_ex2b, r_eql, decide_true, r_gdTT, r_pickT]
  refine r_eqS ?_
  simp only [beq_self_eq_true, r_pickT, r_gdTT]
  refine r_use fok11 (tiled_calls w4) rfl ?_
  rintro _ w5 ⟨rfl, k5⟩
  exact ⟨_, rfl, rfl, Kp.trans k03 (Kp.trans k4 k5)⟩

end Go.Proofs.YtfmppkplmfbjpaaGreatDoor

/- Contract of pattern: Orbits, as far as its length. -/
namespace Go.Proofs.YtfmppkplmfbjpaaGreatDoor
open Go.Lf Go.RowKit Go.Ht Go.Pt

/-- The orbits that are written, beside what was there before (wb) and what came later (wO). -/
structure OSt (wb wO wr : World) (orb : Value) (n : Nat) : Prop where
  k : Kp wb wr
  o : ∃ L : List Int, L.length = n ∧ IntsAt wb.heap.size wr orb L
  ob : ∀ g, orb.ownBlock = some g → g < wO.heap.size
  s : wO.heap.size ≤ wr.heap.size
section
variable {wb wO wr w' : World} {orb t11 t13 : Value} {n : Nat} {vs : List Value} {r : List Int}
theorem OSt.kp (h : OSt wb wO wr orb n) (k' : Kp wr w') : OSt wb wO w' orb n := ⟨Kp.trans h.k k', let ⟨L, a, b⟩ := h.o; ⟨L, a, b.kp k'⟩, h.ob, by have := h.s; have := k'.size; omega⟩
theorem OSt.own {S : Nat → Prop} (h : OSt wb wO wr orb n) (c : Chg S wr w') (hs : ∀ k, S k → wO.heap.size ≤ k) (hb : wb.heap.size ≤ wO.heap.size) : OSt wb wO w' orb n :=
  ⟨Kp.of_chg h.k c fun i hi => by have := hs i hi; omega, let ⟨L, a, b⟩ := h.o; ⟨L, a, b.chg c fun q hq e => by have := hs q e; have := h.ob q hq; omega⟩, h.ob, by have := h.s; have := c.size; omega⟩
theorem OSt.get (h : OSt wb wO wr orb n) {q : Nat} (hq : q < n) : ∃ x : Int, ∀ K : Value → Prop, (iaS 1 orb (.int .i64 q) fun p => ld1 wr p K) = K (.int .i64 x) := by
  obtain ⟨L, a, b⟩ := h.o
  exact ⟨L.getD q 0, fun K => int_at (b.rd iC_len) (by omega) K⟩
theorem OSt.put (h : OSt wb wO wr orb n) {q : Nat} (hq : q < n) (x : Int) {K : World → Prop} (hK : ∀ w', OSt wb wO w' orb n → Chg (fun k => orb.ownBlock = some k) wr w' → K w') : iaS 1 orb (.int .i64 q) fun p => stW Tryz.prog 3 p (.int .i64 x) wr K := by
  obtain ⟨L, a, b⟩ := h.o
  obtain ⟨g, cap, e, hb, hc, hf, hp⟩ := b.put (q := q) (by omega) x
  have hii : (q : Int).toNat = q := by omega
  rw [e, r_iaS _ _ _ _ _ _ _ (by omega) (by omega), hii, Nat.mul_one, Nat.zero_add, st3 hc hf]
  have c : Chg (fun k => orb.ownBlock = some k) wr (wr.setCell ⟨g, q, none⟩ (.int .i64 x)) := Chg.setCell _ _ (by rw [e]; rfl)
  refine hK _ ⟨Kp.of_chg h.k c fun i hi => (b.lt hi).1, ⟨_, by rw [List.length_set]; exact a, hp⟩, h.ob, by have := h.s; have := c.size; omega⟩ c

/-- The rows that are there already, and the row that is being made. -/
structure RSt (wO wr : World) (t11 t13 : Value) (y x : Nat) : Prop where
  a : ∃ vs : List Value, vs.length = y ∧ RecAt 34 1 vE wO.heap.size wr t11 vs
  b : ∃ r : List Int, r.length = x ∧ IntsAt wO.heap.size wr t13 r
theorem RSt.kp {y x : Nat} (h : RSt wO wr t11 t13 y x) (k : Kp wr w') : RSt wO w' t11 t13 y x := ⟨let ⟨v, p, q⟩ := h.a; ⟨v, p, q.kp k⟩, let ⟨v, p, q⟩ := h.b; ⟨v, p, q.kp k⟩⟩
theorem RSt.chg {S : Nat → Prop} {y x : Nat} (h : RSt wO wr t11 t13 y x) (c : Chg S wr w') (hs : ∀ k, S k → k < wO.heap.size) : RSt wO w' t11 t13 y x :=
  ⟨let ⟨v, p, q⟩ := h.a; ⟨v, p, q.chg c fun k hk e => by have := hs k e; have := (q.lt hk).1; omega⟩, let ⟨v, p, q⟩ := h.b; ⟨v, p, q.chg c fun k hk e => by have := hs k e; have := (q.lt hk).1; omega⟩⟩

/-- What Orbits knows while it runs. -/
structure OCx (wb : World) (l : List ByteArray) (b bg bp A B D : Nat) (vsv : Value) (P : List Mv) (own : Nat → Bool) (base : Nat) : Prop where
  f : FlAt wb b l
  g : GrAt base wb bg A B D vsv P own
  p : wb.cell? ⟨bp, 0, none⟩ = some (ptrV bg)
  hA : 1 ≤ A ∧ A ≤ 6
  hB : B ≤ 6
  hD : 1 ≤ D ∧ D ≤ 6
  hP : MvAll P
  hl : P.length ≤ 300

variable {l : List ByteArray} {b bg bp A B D : Nat} {vsv : Value} {P : List Mv} {own : Nat → Bool} {base : Nat}
abbrev clV (bp : Nat) : Value := .func (.func 42) #[] #[ptrV bp]
set_option maxRecDepth 100000 in
theorem OCx.num (c : OCx wb l b bg bp A B D vsv P own base) (k : Kp wb wr) {x y : Int} (hx : -3000 ≤ x ∧ x ≤ 3000) (hy : -3000 ≤ y ∧ y ≤ 3000) {K : Value → World → Prop} (hK : ∀ w', Kp wr w' → K (.int .i64 (numG A B D x y : Nat)) w') : callW Tryz.prog (clV bp) [.int .i64 x, .int .i64 y] wr K := by
  refine r_use fok42 (number_calls (c.g.c.kp k) (cell_later k c.p) c.hA c.hB c.hD hx hy) rfl ?_
  rintro _ w1 ⟨rfl, k1⟩
  exact ⟨_, rfl, hK _ k1⟩

set_option maxRecDepth 100000 in
set_option maxHeartbeats 1000000 in
theorem r8_2 {x y N : Nat} {k_2 : Value → World → Prop} (c : OCx wb l b bg bp A B D vsv P own base) (hx : x ≤ 6) (hy : y ≤ 6) (hN : N ≤ 1000) {py px : Nat} (hS : OSt wb wO wr orb (A * D)) (hR : RSt wO wr t11 t13 py px)
    (hK : ∀ w', OSt wb wO w' orb (A * D) → RSt wO w' t11 t13 py px → k_2 (.int .i64 ((N : Int) + 1)) w') :
    S8L2 (.int .i64 N) (clV bp) orb (.int .i64 y) (.int .i64 x) vsv (.int .i64 P.length) k_2 wr := by
  have hl := c.hl
  unfold S8L2
  refine ⟨fun t62 wq => ∃ j : Nat, j ≤ P.length ∧ t62 = .int .i64 j ∧ OSt wb wO wq orb (A * D) ∧ RSt wO wq t11 t13 py px, fun t62 _ => P.length - (intOf t62).toNat, ⟨0, by omega, rfl, hS, hR⟩, ?_⟩
  rintro _ _ wq ⟨j, hj, rfl, hq, hr⟩
  by_cases hlt : j < P.length
  case neg =>
    have hlt' : ¬ (j : Int) < (P.length : Int) := by omega
    rw [r_lss, decide_eq_false hlt', r_condF, r_add _ _ (by omega) (by omega)]
    exact hK _ hq hr
  have hlt' : (j : Int) < (P.length : Int) := by omega
  obtain ⟨m, hm⟩ : ∃ m, P[j]? = some m := ⟨_, List.getElem?_eq_getElem hlt⟩
  obtain ⟨i, e, f, hi, he, hf, rfl⟩ := c.hP m (List.mem_of_getElem? hm)
  rw [r_lss, decide_eq_true hlt', r_condT, mv_at ((c.g.r.rd mvC_len).kp hq.k) hm]
  refine r_box fun b16 w1 e1 s1 h1 k1 => ?_
  refine st_mv h1 rfl fun w2 c2 s2 h2 => ?_
  have k2 : Kp wq w2 := Kp.of_chg k1 c2 fun i e => by omega
  have ld : ∀ K : Value → Prop, ldN 6 w2 (.pointer (some ⟨b16, 0, none⟩)) K = K (mvV (mvK i e f)) := fun K => r_ldRow h2 rfl
  rw [ld]
  have hok : MvOk (mvK i e f) := mvK_ok hi (by omega) (by omega)
  refine r_use fok21 (to_calls hok (x := x) (y := y) (by omega) (by omega) w2) rfl ?_
  rintro _ w3 ⟨rfl, k3⟩
  refine ⟨_, rfl, ?_⟩
  rw [r_ex2a, r_ex2b]
  have hrng := to_rng hok (x := x) (y := y) (by omega) (by omega)
  have hq3 := (hq.kp k2).kp k3
  have hr3 := (hr.kp k2).kp k3
  refine c.num hq3.k (by omega) (by omega) fun w4 k4 => ?_
  have hq4 := hq3.kp k4
  have hr4 := hr3.kp k4
  refine hq4.put (numG_lt c.hA c.hD _ _) _ fun w5 hq5 c5 => ?_
  rw [r_add _ _ (by omega) (by omega)]
  exact ⟨⟨j + 1, by omega, by go_num, hq5, hr4.chg c5 hq.ob⟩, by simp only [intOf]; omega⟩

set_option maxRecDepth 100000 in
set_option maxHeartbeats 1000000 in
theorem r8_1 {y N W : Nat} {next : Value → Value → Value → World → Prop} (c : OCx wb l b bg bp A B D vsv P own base) (hy : y ≤ 6) (hN : N ≤ 100) (hW : W ≤ 6) (hbO : wb.heap.size ≤ wO.heap.size) (hS : OSt wb wO wr orb (A * D)) (hvs : vs.length = y) (hRa : RecAt 34 1 vE wO.heap.size wr t11 vs)
    (hK : ∀ (N' : Nat) t11' w', N' ≤ N + W → OSt wb wO w' orb (A * D) → (∃ vs : List Value, vs.length = y + 1 ∧ RecAt 34 1 vE wO.heap.size w' t11' vs) → next (.int .i64 N') t11' (.int .i64 ((y : Int) + 1)) w') :
    S8L1 (.int .i64 N) t11 (ptrV bg) (clV bp) orb (.int .i64 y) (.int .i64 W) next wr := by
  unfold S8L1
  refine ⟨fun t10 t13 t46 wq => ∃ x N' : Nat, x ≤ W ∧ N' ≤ N + x ∧ t46 = .int .i64 x ∧ t10 = .int .i64 N' ∧ OSt wb wO wq orb (A * D) ∧ RSt wO wq t11 t13 y x, fun _ _ t46 _ => W - (intOf t46).toNat, ⟨0, N, by omega, by omega, rfl, rfl, hS, ⟨vs, hvs, hRa⟩, ⟨[], rfl, RecAt.nil⟩⟩, ?_⟩
  rintro _ _ t13 _ wq ⟨x, N', hx, hN', rfl, rfl, hq, hr⟩
  by_cases hlt : x < W
  case neg =>
    have hlt' : ¬ (x : Int) < (W : Int) := by omega
    rw [r_lss, decide_eq_false hlt', r_condF]
    obtain ⟨vs', a1, a2⟩ := hr.a
    obtain ⟨rr, b1, b2⟩ := hr.b
    obtain ⟨ra, rc, er, _⟩ := b2.len
    rw [er]
    refine r_pushRec (x := .slice ra rr.length rc) slt50 vE_len rfl (bs50 _ _ _ _) (by intro u hu; simp at hu; subst hu; rfl) (by omega) a2 (by omega) hq.s fun v' w' p1 p2 p3 => ?_
    rw [r_add _ _ (by omega) (by omega)]
    exact hK N' v' w' (by omega) (hq.own p2 (fun k hk => (a2.lt hk).1) hbO) ⟨_, by simp; omega, p1⟩
  have hlt' : (x : Int) < (W : Int) := by omega
  rw [r_lss, decide_eq_true hlt', r_condT]
  have hnum := numG_lt (B := B) c.hA c.hD (x : Int) (y : Int)
  refine c.num hq.k (x := x) (y := y) (by omega) (by omega) fun w1 k1 => ?_
  have hq1 := hq.kp k1
  have hr1 := hr.kp k1
  obtain ⟨z, hz⟩ := hq1.get hnum
  rw [hz, r_lss]
  refine r_join1 (fun v w' => ∃ N'' : Nat, N'' ≤ N + (x + 1) ∧ v = .int .i64 N'' ∧ OSt wb wO w' orb (A * D) ∧ RSt wO w' t11 t13 y x) ?_ fun k' hk' => ?_
  · rintro _ w' ⟨N'', hN'', rfl, hq', hr'⟩
    refine c.num hq'.k (x := x) (y := y) (by omega) (by omega) fun w2 k2 => ?_
    have hq2 := hq'.kp k2
    have hr2 := hr'.kp k2
    obtain ⟨z2, hz2⟩ := hq2.get hnum
    rw [hz2]
    obtain ⟨vs2, a1, a2⟩ := hr2.a
    obtain ⟨rr, b1, b2⟩ := hr2.b
    refine r_pushRec (x := z2) slt31 iC_len rfl (bs31 _ _ _) (by intro u hu; simp [iC] at hu; subst hu; rfl) (by omega) b2 (by omega) hq2.s fun v' w3 p1 p2 p3 => ?_
    rw [r_add _ _ (by omega) (by omega)]
    have hq3 := hq2.own p2 (fun k hk => (b2.lt hk).1) hbO
    exact ⟨⟨x + 1, N'', by omega, by omega, by go_num, rfl, hq3, ⟨vs2, a1, a2.chg p2 fun k hk e => rec_ne a2 b2 (by decide) k hk e⟩, ⟨_, by simp; omega, p1⟩⟩, by simp only [intOf]; omega⟩
  cases hd : decide (z < 0) with
  | false =>
    rw [r_condF]
    exact hk' _ _ ⟨N', by omega, rfl, hq1, hr1⟩
  | true =>
    rw [r_condT]
    obtain ⟨_, _, _, c3, _⟩ := (c.g.c.kp hq1.k).cells
    obtain ⟨pa, pc, ep, _⟩ := (c.g.r.rd mvC_len).len
    have lnv : ∀ K : Value → Prop, ln1 vsv K = K (.int .i64 P.length) := fun K => by rw [ep]; rfl
    rw [r_nc, r_fa, Nat.zero_add, r_ld c3, lnv]
    refine r8_2 c (by omega) (by omega) (by omega) hq1 hr1 fun w' hq' hr' => ?_
    exact hk' _ _ ⟨N' + 1, by omega, by go_num, hq', hr'⟩
end

set_option maxRecDepth 100000 in
set_option maxHeartbeats 1000000 in
theorem orbits_calls {v : Value} {l : List ByteArray} (w : World) (hW : Wk w) (hr : RdB w v l) (h : PatC l) : Calls Tryz.prog 8 #[v] w fun e w' => ∃ a c, e = .returned (.tuple #[.slice a l.length c, .int .i64 0]) ∧ Kp w w' := by
  have hl := h.ok.len
  have hw := h.ok.wid
  refine lift8 ?_
  unfold S8
  refine r_use fok16 (pof_calls w hr h) rfl ?_
  rintro _ w1 ⟨b, rfl, hf, k1⟩
  refine ⟨_, rfl, ?_⟩
  rw [r_ex2a, r_ex2b, r_not, Bool.not_true, r_condF]
  refine r_use fok18 (group_calls (hW.kp k1) hf) rfl ?_
  rintro _ w2 ⟨A, B, D, bg, vs, P, own, hlat, rfl, hG, hI, hPl, k2⟩
  refine ⟨_, rfl, ?_⟩
  have a1 := hlat.a1
  have a2 := hlat.aw
  have d1 := hlat.d1
  have d2 := hlat.dh
  have b1 := hlat.bd
  have hA : 1 ≤ A ∧ A ≤ 6 := by omega
  have hD : 1 ≤ D ∧ D ≤ 6 := by omega
  refine r_use fok19 (cells_calls hG.c hA hD) rfl ?_
  rintro _ w3 ⟨ca, cc, bp, rfl, hbp, k3⟩
  refine ⟨_, rfl, ?_⟩
  rw [r_ex2a, r_ex2b, bs31]
  have k4 : Kp w3 (w3.alloc (.cells #[.int .i64 (-1)] 3)) := below_alloc _
  have hc1 : (w3.alloc (.cells #[.int .i64 (-1)] 3)).cell? ⟨w3.heap.size, 0, none⟩ = some (.int .i64 (-1)) := by rw [cell_row (heap_alloc_new w3 _)]; rfl
  generalize w3.heap.size = z3 at *
  generalize w3.alloc (.cells #[.int .i64 (-1)] 3) = w4 at *
  rw [r_ln]
  have hAD : 1 * 1 ≤ A * D := Nat.mul_le_mul a1 d1
  have hAD2 : A * D ≤ 6 * 6 := Nat.mul_le_mul hA.2 hD.2
  refine r_use fok20 (repeatI_calls (n := A * D) (x := -1) (.inl ⟨by omega, by omega⟩) w4 hc1) rfl ?_
  rintro _ w5 ⟨orb, rfl, k5, ho⟩
  refine ⟨_, rfl, ?_⟩
  have hall : MvAll P := fun m hm => by
    obtain ⟨i, e, f, _, h1, h2, h3, _, h5⟩ := (hI.mem m).1 hm
    exact ⟨i, e, f, h1, by omega, by omega, h5⟩
  have k34 := Kp.trans k3 k4
  have c : OCx w4 l b bg bp A B D vs P own w1.heap.size := ⟨hf.kp (Kp.trans k2 k34), hG.kp k34, cell_later k4 hbp, hA, by omega, hD, hall, by omega⟩
  have hS : OSt w4 w5 w5 orb (A * D) := ⟨k5, ⟨_, by simp, ho⟩, fun g hg => (ho.lt hg).2, Nat.le_refl _⟩
  obtain ⟨_, cv, _, _, _⟩ := (c.f.kp k5).cells
  have c1 : w5.cell? ⟨b, 1, none⟩ = some (.int .i64 l.length) := by obtain ⟨_, _, q, _⟩ := (c.f.kp k5).cells; exact q
  rw [r_nc, r_fa, Nat.zero_add, r_ld c1]
  unfold S8L0
  refine ⟨fun t10 t11 t39 wq => ∃ y N : Nat, y ≤ l.length ∧ N ≤ y * 6 ∧ t39 = .int .i64 y ∧ t10 = .int .i64 N ∧ OSt w4 w5 wq orb (A * D) ∧ ∃ vs : List Value, vs.length = y ∧ RecAt 34 1 vE w5.heap.size wq t11 vs, fun _ _ t39 _ => l.length - (intOf t39).toNat, ⟨0, 0, by omega, by omega, rfl, rfl, hS, [], rfl, RecAt.nil⟩, ?_⟩
  rintro _ _ t11 _ wq ⟨y, N, hy, hN, rfl, rfl, hq, vs', hvs, hR⟩
  by_cases hlt : y < l.length
  case neg =>
    have hlt' : ¬ (y : Int) < (l.length : Int) := by omega
    rw [r_lss, decide_eq_false hlt', r_condF]
    obtain ⟨ra, rc, er, _⟩ := hR.len
    refine ⟨ra, rc, ?_, Kp.trans k1 (Kp.trans k2 (Kp.trans k34 hq.k))⟩
    rw [er, show vs'.length = l.length by omega]
  have hlt' : (y : Int) < (l.length : Int) := by omega
  obtain ⟨_, c0, _, _, _⟩ := (c.f.kp hq.k).cells
  rw [r_lss, decide_eq_true hlt', r_condT, r_nc, r_fa, Nat.zero_add, r_ld c0]
  refine r8_1 c (by omega) (by omega) (by omega) k5.size hq hvs hR fun N' t11' w' hN' hq' hR' => ?_
  exact ⟨⟨y + 1, N', by omega, by omega, by go_num, rfl, hq', hR'⟩, by simp only [intOf]; omega⟩

end Go.Proofs.YtfmppkplmfbjpaaGreatDoor
