/- Texts of my own, merged by program: Si Wl. -/
import Derived.Test.YtfmppkplmfbjpaaGreatDoorM03
import Derived.Test.YtfmppkplmfbjpaaGreatDoorM30
set_option linter.all false
/- Lifted texts, printed by program (gen.py): what each function's code asks. The ties are by the kernel. -/
namespace Go.Proofs.YtfmppkplmfbjpaaGreatDoor
open Go.Lf Go.RowKit

def S35 (t0 t1 : Value) (w : World) (R : Ending → World → Prop) : Prop :=
  callW Tryz.prog (.func (.func 62) #[] #[]) [t0, t1] w fun t7 w =>
  binQ Tryz.prog w .geq 3 true t7 (.int .i64 0) fun t8 =>
  R (.returned t8) w

def A35 : Ann where
  live := fun _ => []
  wr := fun _ _ => false
  sched := fun _ => .done

set_option maxRecDepth 100000 in
theorem ok35 : (codeOk Tryz.f35.ntmps A35 (Tryz.f35.body.getD .skip) 0 && Nat.ble 2 Tryz.f35.ntmps) = true := by kernel_rfl
set_option maxRecDepth 100000 in
theorem lift35 {t0 t1 : Value} {w : World} {R : Ending → World → Prop} (h : S35 t0 t1 w R) : Calls Tryz.prog 35 #[t0, t1] w R :=
  calls_of_cw (fn := Tryz.f35) (c := Tryz.f35.body.getD .skip) A35 mixes Tryz.func35 (by kernel_rfl) ok35
    ((by kernel_rfl : (S35 t0 t1 w R) = cw Tryz.prog A35 (Tryz.f35.body.getD .skip) 0 (bodyQ Tryz.prog Tryz.f35 R) (frOf #[t0, t1]) w).mp h)

def S62 (t0 t1 : Value) (w : World) (R : Ending → World → Prop) : Prop :=
  ln1 t0 fun t7 =>
  Loop1 (.int .i64 0) w fun _ t8 w next =>
    binQ Tryz.prog w .lss 3 false t8 t7 fun t9 =>
    condW t9 (
      iaS 1 t0 t8 fun t14 =>
      ld1 w t14 fun t15 =>
      callW Tryz.prog t1 [t15] w fun t16 w =>
      condW t16 (
        R (.returned t8) w
      ) (
        binQ Tryz.prog w .add 3 true t8 (.int .i64 1) fun t18 =>
        next t18 w
      )
    ) (
      R (.returned (.int .i64 (-1))) w
    )

def A62 : Ann where
  live := fun
    | 0 => [8]
    | _ => []
  wr := fun
    | 0 => fun i => (Nat.ble 4 i && Nat.ble i 5) || (Nat.ble 8 i && Nat.ble i 18)
    | _ => fun _ => false
  sched := fun _ => .done

set_option maxRecDepth 100000 in
theorem ok62 : (codeOk Tryz.f62.ntmps A62 (Tryz.f62.body.getD .skip) 0 && Nat.ble 2 Tryz.f62.ntmps) = true := by kernel_rfl
set_option maxRecDepth 100000 in
theorem lift62 {t0 t1 : Value} {w : World} {R : Ending → World → Prop} (h : S62 t0 t1 w R) : Calls Tryz.prog 62 #[t0, t1] w R :=
  calls_of_cw (fn := Tryz.f62) (c := Tryz.f62.body.getD .skip) A62 mixes Tryz.func62 (by kernel_rfl) ok62
    ((by kernel_rfl : (S62 t0 t1 w R) = cw Tryz.prog A62 (Tryz.f62.body.getD .skip) 0 (bodyQ Tryz.prog Tryz.f62 R) (frOf #[t0, t1]) w).mp h)

theorem fok35 : fnOk Tryz.prog 35 = true := by kernel_rfl
theorem fok62 : fnOk Tryz.prog 62 = true := by kernel_rfl
end Go.Proofs.YtfmppkplmfbjpaaGreatDoor

/- Picked by pick.py. -/
namespace Go.Proofs.YtfmppkplmfbjpaaGreatDoor
open Go.Lf Go.RowKit Go.Wg

set_option maxRecDepth 100000 in
/-- slices.ContainsFunc, IndexFunc at integers, for a test that keeps what is there. -/
theorem indexF_calls {v fv : Value} {l : List Int} (p : Int → Bool) (w : World) (hr : RdInts w v l)
    (hc : ∀ x ∈ l, ∀ (w' : World) (K : Value → World → Prop), Kp w w' → (∀ w'', Kp w' w'' → K (.bool (p x)) w'') → callW Tryz.prog fv [.int .i64 x] w' K) :
    Calls Tryz.prog 62 #[v, fv] w fun e w' => ∃ n : Int, e = .returned (.int .i64 n) ∧ decide (0 ≤ n) = l.any p ∧ Kp w w' := by
  obtain ⟨a, cap, rfl, hl⟩ := hr.len
  refine lift62 ?_
  unfold S62
  simp only [r_ln, r_pick, r_pickT, r_pickF, r_condT, r_condF, r_gdTT, r_gdFF, r_gdTF, r_gdFT, r_gqTT, r_gqFF, r_gqTF, r_gqFT, r_not, r_lss, r_leq, r_gtr, r_geq, r_eql, r_neq, r_add, r_sub, r_min2, r_max2, r_min3, r_max3, r_fa, r_iaS, r_iaA, r_ex2a, r_ex2b, r_ex3a, r_ex3b, r_ex3c, r_nc, r_keepE, Nat.zero_add, Nat.add_zero, Nat.mul_one, Int.toNat_natCast, toNat_sub1, toNat_add1, decide_true, decide_false, Bool.not_true, Bool.not_false, if_true, if_false, Bool.false_eq_true, reduceCtorEq]
  refine ⟨fun t8 wr => ∃ i : Nat, i ≤ l.length ∧ t8 = .int .i64 i ∧ (l.take i).any p = false ∧ Kp w wr, fun t8 _ => l.length - (intOf t8).toNat, ⟨0, by omega, rfl, by simp, Kp.refl _⟩, ?_⟩
  rintro _ _ wr ⟨i, hi, rfl, hn, hk⟩
  by_cases hlt : i < l.length
  case neg =>
    have hlt' : ¬ (i : Int) < (l.length : Int) := by omega
    rw [List.take_of_length_le (by omega)] at hn
    simp (disch := omega) only [r_ln, r_pick, r_pickT, r_pickF, r_condT, r_condF, r_gdTT, r_gdFF, r_gdTF, r_gdFT, r_gqTT, r_gqFF, r_gqTF, r_gqFT, r_not, r_lss, r_leq, r_gtr, r_geq, r_eql, r_neq, r_add, r_sub, r_min2, r_max2, r_min3, r_max3, r_fa, r_iaS, r_iaA, r_ex2a, r_ex2b, r_ex3a, r_ex3b, r_ex3c, r_nc, r_keepE, Nat.zero_add, Nat.add_zero, Nat.mul_one, Int.toNat_natCast, toNat_sub1, toNat_add1, decide_true, decide_false, Bool.not_true, Bool.not_false, if_true, if_false, Bool.false_eq_true, reduceCtorEq, hlt']
    exact ⟨-1, rfl, by rw [hn]; decide, hk⟩
  have hlt' : (i : Int) < (l.length : Int) := by omega
  obtain ⟨b, off, _, e, hcell⟩ := (hr.below hk).at hlt
  cases e
  simp (disch := omega) only [r_ln, r_pick, r_pickT, r_pickF, r_condT, r_condF, r_gdTT, r_gdFF, r_gdTF, r_gdFT, r_gqTT, r_gqFF, r_gqTF, r_gqFT, r_not, r_lss, r_leq, r_gtr, r_geq, r_eql, r_neq, r_add, r_sub, r_min2, r_max2, r_min3, r_max3, r_fa, r_iaS, r_iaA, r_ex2a, r_ex2b, r_ex3a, r_ex3b, r_ex3c, r_nc, r_keepE, Nat.zero_add, Nat.add_zero, Nat.mul_one, Int.toNat_natCast, toNat_sub1, toNat_add1, decide_true, decide_false, Bool.not_true, Bool.not_false, if_true, if_false, Bool.false_eq_true, reduceCtorEq, decide_eq_true hlt', r_ld hcell]
  refine hc _ (getD_mem hlt) wr _ hk fun w2 k2 => ?_
  have htk : l.take (i + 1) = l.take i ++ [l.getD i 0] := by rw [take_succ' _ _ hlt, getD_lt _ _ _ hlt]
  cases hp : p (l.getD i 0) with
  | true =>
    simp (disch := omega) only [r_ln, r_pick, r_pickT, r_pickF, r_condT, r_condF, r_gdTT, r_gdFF, r_gdTF, r_gdFT, r_gqTT, r_gqFF, r_gqTF, r_gqFT, r_not, r_lss, r_leq, r_gtr, r_geq, r_eql, r_neq, r_add, r_sub, r_min2, r_max2, r_min3, r_max3, r_fa, r_iaS, r_iaA, r_ex2a, r_ex2b, r_ex3a, r_ex3b, r_ex3c, r_nc, r_keepE, Nat.zero_add, Nat.add_zero, Nat.mul_one, Int.toNat_natCast, toNat_sub1, toNat_add1, decide_true, decide_false, Bool.not_true, Bool.not_false, if_true, if_false, Bool.false_eq_true, reduceCtorEq]
    refine ⟨i, rfl, ?_, Kp.trans hk k2⟩
    have : l.any p = true := List.any_eq_true.2 ⟨_, getD_mem hlt, hp⟩
    rw [this]
    exact decide_eq_true (by omega)
  | false =>
    simp (disch := omega) only [r_ln, r_pick, r_pickT, r_pickF, r_condT, r_condF, r_gdTT, r_gdFF, r_gdTF, r_gdFT, r_gqTT, r_gqFF, r_gqTF, r_gqFT, r_not, r_lss, r_leq, r_gtr, r_geq, r_eql, r_neq, r_add, r_sub, r_min2, r_max2, r_min3, r_max3, r_fa, r_iaS, r_iaA, r_ex2a, r_ex2b, r_ex3a, r_ex3b, r_ex3c, r_nc, r_keepE, Nat.zero_add, Nat.add_zero, Nat.mul_one, Int.toNat_natCast, toNat_sub1, toNat_add1, decide_true, decide_false, Bool.not_true, Bool.not_false, if_true, if_false, Bool.false_eq_true, reduceCtorEq]
    exact ⟨⟨i + 1, by omega, by go_num, by rw [htk, List.any_append, hn, List.any_cons, List.any_nil, hp]; rfl, Kp.trans hk k2⟩, by simp only [intOf]; omega⟩
theorem containsF_calls {v fv : Value} {l : List Int} (p : Int → Bool) (w : World) (hr : RdInts w v l)
    (hc : ∀ x ∈ l, ∀ (w' : World) (K : Value → World → Prop), Kp w w' → (∀ w'', Kp w' w'' → K (.bool (p x)) w'') → callW Tryz.prog fv [.int .i64 x] w' K) :
    Calls Tryz.prog 35 #[v, fv] w fun e w' => e = .returned (.bool (l.any p)) ∧ Kp w w' := by
  refine lift35 ?_
  unfold S35
  refine r_use fok62 (indexF_calls p w hr hc) rfl ?_
  rintro _ w1 ⟨n, rfl, hn, k1⟩
  refine ⟨_, rfl, ?_⟩
  simp only [r_ln, r_pick, r_pickT, r_pickF, r_condT, r_condF, r_gdTT, r_gdFF, r_gdTF, r_gdFT, r_gqTT, r_gqFF, r_gqTF, r_gqFT, r_not, r_lss, r_leq, r_gtr, r_geq, r_eql, r_neq, r_add, r_sub, r_min2, r_max2, r_min3, r_max3, r_fa, r_iaS, r_iaA, r_ex2a, r_ex2b, r_ex3a, r_ex3b, r_ex3c, r_nc, r_keepE, Nat.zero_add, Nat.add_zero, Nat.mul_one, Int.toNat_natCast, toNat_sub1, toNat_add1, decide_true, decide_false, Bool.not_true, Bool.not_false, if_true, if_false, Bool.false_eq_true, reduceCtorEq, hn]
  exact ⟨by first | rfl | trivial, k1⟩
/-- The tile at a place of a board. -/
def at2 (l : List Tile) (B : List (List Int)) (y x : Nat) : Tile := tl l ((B.getD y []).getD x 0).toNat
def stE (l : List Tile) (B : List (List Int)) (w y x : Nat) (s : Bool × Bool) : Bool × Bool := if tE (at2 l B y x) = tW (at2 l B y ((x + 1) % w)) then s else (s.1 && decide (x + 1 = w), false)
def stS (l : List Tile) (B : List (List Int)) (h y x : Nat) (s : Bool × Bool) : Bool × Bool := if tS (at2 l B y x) = tN (at2 l B ((y + 1) % h) x) then s else (s.1 && decide (y + 1 = h), false)
def cellF (l : List Tile) (B : List (List Int)) (w h y : Nat) (s : Bool × Bool) (x : Nat) : Bool × Bool := stS l B h y x (stE l B w y x s)
def rowF (l : List Tile) (B : List (List Int)) (w h : Nat) (s : Bool × Bool) (y : Nat) : Bool × Bool := (List.range w).foldl (cellF l B w h y) s
def judge (l : List Tile) (B : List (List Int)) (w h : Nat) : Bool × Bool := (List.range h).foldl (rowF l B w h) (true, true)
/-- What is closed is good. -/
def Le (s : Bool × Bool) : Prop := s.2 = true → s.1 = true
theorem le_cell {l : List Tile} {B : List (List Int)} {w h y x : Nat} {s : Bool × Bool} (hs : Le s) : Le (cellF l B w h y s x) := by
  unfold cellF stS stE Le at *
  split <;> split <;> simp_all
theorem le_fold {α : Type} {f : Bool × Bool → α → Bool × Bool} (hf : ∀ s a, Le s → Le (f s a)) : ∀ (L : List α) (s : Bool × Bool), Le s → Le (L.foldl f s)
  | [], _, h => h
  | a :: L, s, h => le_fold hf L _ (hf s a h)
theorem judge_le (l : List Tile) (B : List (List Int)) (w h : Nat) : Le (judge l B w h) :=
  le_fold (fun s y hs => le_fold (fun s x hs => le_cell hs) _ _ hs) _ _ (fun _ => rfl)
def cellOk (l : List Tile) (n : Int) : Bool := decide (0 ≤ n) && decide (n < l.length)
def boardRow (l : List Tile) (w : Nat) (r : List Int) : Bool := decide (r.length = w) && r.all (cellOk l)
def boardB (l : List Tile) (B : List (List Int)) : Bool := setB l && sideB B.length && sideB (B.getD 0 []).length && B.all (boardRow l (B.getD 0 []).length)
/-- What Good returns. -/
def goodV (l : List Tile) (B : List (List Int)) : Value := if boardB l B = true then .tuple #[.bool (judge l B (B.getD 0 []).length B.length).1, .bool (judge l B (B.getD 0 []).length B.length).2, .int .i64 0] else .tuple #[.bool false, .bool false, .int .i64 2]
theorem board_row {l : List Tile} {B : List (List Int)} (hb : B.all (boardRow l (B.getD 0 []).length) = true) {y : Nat} (hy : y < B.length) : (B.getD y []).length = (B.getD 0 []).length ∧ ∀ x, x < (B.getD 0 []).length → ∃ k : Nat, (B.getD y []).getD x 0 = k ∧ k < l.length := by
  have h1 := List.all_eq_true.1 hb _ (getD_mem (d := []) hy)
  simp only [boardRow, Bool.and_eq_true, decide_eq_true_eq, List.all_eq_true] at h1
  refine ⟨h1.1, fun x hx => ?_⟩
  have h2 := h1.2 _ (getD_mem (d := (0 : Int)) (show x < (B.getD y []).length by omega))
  simp only [cellOk, Bool.and_eq_true, decide_eq_true_eq] at h2
  exact ⟨((B.getD y []).getD x 0).toNat, by omega, by omega⟩
theorem goodV_bad {l : List Tile} {B : List (List Int)} (h : boardB l B = false) : goodV l B = .tuple #[.bool false, .bool false, .int .i64 2] := by
  unfold goodV; rw [h]; rfl
theorem RdRows.cell2 {w : World} {v : Value} {B : List (List Int)} (h : RdRows w v B) {y x : Nat} (hy : y < B.length) (hx : x < (B.getD y []).length) :
    ∃ b off cap b' off' cap', v = .slice (some ⟨b, off, none⟩) B.length cap ∧ w.cell? ⟨b, off + y, none⟩ = some (.slice (some ⟨b', off', none⟩) (B.getD y []).length cap') ∧ w.cell? ⟨b', off' + x, none⟩ = some (.int .i64 ((B.getD y []).getD x 0)) := by
  obtain ⟨b, off, cap, rv, e, hc, hr⟩ := h.row hy
  obtain ⟨b', off', cap', e', hc'⟩ := hr.at hx
  subst e'
  exact ⟨b, off, cap, b', off', cap', e, hc, hc'⟩
theorem judge_rows (l : List Tile) (B : List (List Int)) (w h : Nat) : judge l B w h = (List.range h).foldl (rowF l B w h) (true, true) := rfl
/-- The test of Good: no place of the set. -/
theorem nocell_call {l : List Tile} {b2 : Nat} {a : Option Addr} {cap : Nat} (w : World) (h2 : w.heap[b2]? = some (.cells #[.slice a l.length cap] 22 (0, 0))) (x : Int) (w' : World) (hk : Kp w w') (K : Value → World → Prop) (h : ∀ w'', Kp w' w'' → K (.bool (!cellOk l x)) w'') :
    callW Tryz.prog (.func (.func 36) #[] #[.pointer (some ⟨b2, 0, none⟩)]) [.int .i64 x] w' K := by
  have hc : Calls Tryz.prog 36 #[.int .i64 x, .pointer (some ⟨b2, 0, none⟩)] w' fun e w'' => e = .returned (.bool (!cellOk l x)) ∧ w' = w'' := by
    refine lift36 ?_
    unfold S36
    have c2 : w'.cell? ⟨b2, 0, none⟩ = some (.slice a l.length cap) := by rw [cell_row (block_below h2 hk)]; rfl
    by_cases h0 : x < 0
    · simp only [r_ln, r_pick, r_pickT, r_pickF, r_condT, r_condF, r_gdTT, r_gdFF, r_gdTF, r_gdFT, r_gqTT, r_gqFF, r_gqTF, r_gqFT, r_not, r_lss, r_leq, r_gtr, r_geq, r_eql, r_neq, r_add, r_sub, r_min2, r_max2, r_min3, r_max3, r_fa, r_iaS, r_iaA, r_ex2a, r_ex2b, r_ex3a, r_ex3b, r_ex3c, r_nc, r_keepE, Nat.zero_add, Nat.add_zero, Nat.mul_one, Int.toNat_natCast, toNat_sub1, toNat_add1, decide_true, decide_false, Bool.not_true, Bool.not_false, if_true, if_false, Bool.false_eq_true, reduceCtorEq, decide_eq_true h0]
      exact ⟨ret_bool (by simp only [cellOk]; rw [decide_eq_false (by omega)]; rfl), by first | rfl | trivial⟩
    · simp only [r_ln, r_pick, r_pickT, r_pickF, r_condT, r_condF, r_gdTT, r_gdFF, r_gdTF, r_gdFT, r_gqTT, r_gqFF, r_gqTF, r_gqFT, r_not, r_lss, r_leq, r_gtr, r_geq, r_eql, r_neq, r_add, r_sub, r_min2, r_max2, r_min3, r_max3, r_fa, r_iaS, r_iaA, r_ex2a, r_ex2b, r_ex3a, r_ex3b, r_ex3c, r_nc, r_keepE, Nat.zero_add, Nat.add_zero, Nat.mul_one, Int.toNat_natCast, toNat_sub1, toNat_add1, decide_true, decide_false, Bool.not_true, Bool.not_false, if_true, if_false, Bool.false_eq_true, reduceCtorEq, h0, r_ld c2]
      refine ⟨ret_bool ?_, by first | rfl | trivial⟩
      simp only [cellOk]
      rw [decide_eq_true (show 0 ≤ x by omega), Bool.true_and]
      by_cases h1 : x < (l.length : Int)
      · rw [decide_eq_true h1, decide_eq_false (by omega)]; rfl
      · rw [decide_eq_false h1, decide_eq_true (by omega)]; rfl
  refine r_use fok36 hc rfl ?_
  rintro _ _ ⟨rfl, rfl⟩
  exact ⟨_, rfl, h w' (Kp.refl _)⟩
theorem r_txC {X : Nat → Prop} {w : World} {b o : Nat} {t : Tile} {K : Value → Prop} (h : ∀ j u, (tlC t)[j]? = some u → w.cell? ⟨b, o + j, none⟩ = some u) (hx : ¬ X b) : takeX X w (fun w k => ldN 4 w (.pointer (some ⟨b, o, none⟩)) k) K = K (tlV t) :=
  propext ⟨fun ⟨u, hu, hk⟩ => (by have := hu w (BX.refl _ _); dsimp only at this; rw [r_ldCells (n := 4) (l := tlC t) rfl h] at this; have e : tlV t = u := this; rw [e]; exact hk), fun hk => ⟨tlV t, fun w' hw' => by dsimp only; rw [r_ldCells (n := 4) (l := tlC t) rfl fun j u hj => hw'.cell (h j u hj) hx]; rfl, hk⟩⟩
theorem any_cell (l : List Tile) (r : List Int) : (r.any fun x => !cellOk l x) = !(r.all (cellOk l)) := by
  induction r with
  | nil => rfl
  | cons x r ih => simp [ih]
set_option maxRecDepth 100000 in
set_option maxHeartbeats 1000000 in
theorem good_calls {v bv : Value} {l : List Tile} {B : List (List Int)} (w : World) (hr : RdT w v l) (hb : RdRows w bv B) (hll : l.length ≤ 1000) : Calls Tryz.prog 15 #[v, bv] w fun e w' => e = .returned (goodV l B) ∧ Kp w w' := by
  obtain ⟨ba, bcap, rfl, hbl⟩ := hb.len
  obtain ⟨va, vcap, rfl, hvc⟩ := hr.len
  refine lift15 ?_
  unfold S15
  refine r_box fun bS w0 eS sS hS k0 => ?_
  have h2' : w0.heap[bS]? = some (.cells #[.slice va l.length vcap] 22 (0, 0)) := hS
  have c2 : w0.cell? ⟨bS, 0, none⟩ = some (.slice va l.length vcap) := by rw [cell_row h2']; rfl
  rw [r_ld c2]
  refine r_use fok12 (valid_calls w0 (hr.kp k0)) rfl ?_
  rintro _ w1 ⟨rfl, k01⟩
  refine ⟨_, rfl, ?_⟩
  have k1 := Kp.trans k0 k01
  have h21 := block_below h2' k01
  cases b1 : setB l with
  | false =>
    simp (disch := omega) only [r_ln, r_pick, r_pickT, r_pickF, r_condT, r_condF, r_gdTT, r_gdFF, r_gdTF, r_gdFT, r_gqTT, r_gqFF, r_gqTF, r_gqFT, r_not, r_lss, r_leq, r_gtr, r_geq, r_eql, r_neq, r_add, r_sub, r_min2, r_max2, r_min3, r_max3, r_fa, r_iaS, r_iaA, r_ex2a, r_ex2b, r_ex3a, r_ex3b, r_ex3c, r_nc, r_keepE, Nat.zero_add, Nat.add_zero, Nat.mul_one, Int.toNat_natCast, toNat_sub1, toNat_add1, decide_true, decide_false, Bool.not_true, Bool.not_false, if_true, if_false, Bool.false_eq_true, reduceCtorEq]
    exact ⟨by rw [goodV_bad (by simp [boardB, b1])], k1⟩
  | true =>
  simp (disch := omega) only [r_ln, r_pick, r_pickT, r_pickF, r_condT, r_condF, r_gdTT, r_gdFF, r_gdTF, r_gdFT, r_gqTT, r_gqFF, r_gqTF, r_gqFT, r_not, r_lss, r_leq, r_gtr, r_geq, r_eql, r_neq, r_add, r_sub, r_min2, r_max2, r_min3, r_max3, r_fa, r_iaS, r_iaA, r_ex2a, r_ex2b, r_ex3a, r_ex3b, r_ex3c, r_nc, r_keepE, Nat.zero_add, Nat.add_zero, Nat.mul_one, Int.toNat_natCast, toNat_sub1, toNat_add1, decide_true, decide_false, Bool.not_true, Bool.not_false, if_true, if_false, Bool.false_eq_true, reduceCtorEq]
  refine r_use fok13 (side_calls _ w1) rfl ?_
  rintro _ _ ⟨rfl, rfl⟩
  refine ⟨_, rfl, ?_⟩
  cases b2 : sideB (B.length : Int) with
  | false =>
    simp (disch := omega) only [r_ln, r_pick, r_pickT, r_pickF, r_condT, r_condF, r_gdTT, r_gdFF, r_gdTF, r_gdFT, r_gqTT, r_gqFF, r_gqTF, r_gqFT, r_not, r_lss, r_leq, r_gtr, r_geq, r_eql, r_neq, r_add, r_sub, r_min2, r_max2, r_min3, r_max3, r_fa, r_iaS, r_iaA, r_ex2a, r_ex2b, r_ex3a, r_ex3b, r_ex3c, r_nc, r_keepE, Nat.zero_add, Nat.add_zero, Nat.mul_one, Int.toNat_natCast, toNat_sub1, toNat_add1, decide_true, decide_false, Bool.not_true, Bool.not_false, if_true, if_false, Bool.false_eq_true, reduceCtorEq]
    exact ⟨by rw [goodV_bad (by simp [boardB, b2])], k1⟩
  | true =>
  have hH : 1 ≤ B.length ∧ B.length ≤ 4 := by simp only [sideB, decide_eq_true_eq] at b2; omega
  obtain ⟨ob, oo, _, rv, eo, oc, orow⟩ := (hb.below k1).row (i := 0) (by omega)
  cases eo
  obtain ⟨ra, rcap, rfl, hrl⟩ := orow.len
  rw [Nat.add_zero] at oc
  have i0 : (0 : Int).toNat = 0 := rfl
  simp (disch := omega) only [r_ln, r_pick, r_pickT, r_pickF, r_condT, r_condF, r_gdTT, r_gdFF, r_gdTF, r_gdFT, r_gqTT, r_gqFF, r_gqTF, r_gqFT, r_not, r_lss, r_leq, r_gtr, r_geq, r_eql, r_neq, r_add, r_sub, r_min2, r_max2, r_min3, r_max3, r_fa, r_iaS, r_iaA, r_ex2a, r_ex2b, r_ex3a, r_ex3b, r_ex3c, r_nc, r_keepE, Nat.zero_add, Nat.add_zero, Nat.mul_one, Int.toNat_natCast, toNat_sub1, toNat_add1, decide_true, decide_false, Bool.not_true, Bool.not_false, if_true, if_false, Bool.false_eq_true, reduceCtorEq, i0, Nat.zero_mul, r_ld oc]
  refine r_use fok13 (side_calls _ w1) rfl ?_
  rintro _ _ ⟨rfl, rfl⟩
  refine ⟨_, rfl, ?_⟩
  cases b3 : sideB ((B.getD 0 []).length : Int) with
  | false =>
    simp (disch := omega) only [r_ln, r_pick, r_pickT, r_pickF, r_condT, r_condF, r_gdTT, r_gdFF, r_gdTF, r_gdFT, r_gqTT, r_gqFF, r_gqTF, r_gqFT, r_not, r_lss, r_leq, r_gtr, r_geq, r_eql, r_neq, r_add, r_sub, r_min2, r_max2, r_min3, r_max3, r_fa, r_iaS, r_iaA, r_ex2a, r_ex2b, r_ex3a, r_ex3b, r_ex3c, r_nc, r_keepE, Nat.zero_add, Nat.add_zero, Nat.mul_one, Int.toNat_natCast, toNat_sub1, toNat_add1, decide_true, decide_false, Bool.not_true, Bool.not_false, if_true, if_false, Bool.false_eq_true, reduceCtorEq]
    exact ⟨by rw [goodV_bad (by simp only [boardB, b3, Bool.and_false, Bool.false_and])], k1⟩
  | true =>
  have hW : 1 ≤ (B.getD 0 []).length ∧ (B.getD 0 []).length ≤ 4 := by simp only [sideB, decide_eq_true_eq] at b3; omega
  simp (disch := omega) only [r_ln, r_pick, r_pickT, r_pickF, r_condT, r_condF, r_gdTT, r_gdFF, r_gdTF, r_gdFT, r_gqTT, r_gqFF, r_gqTF, r_gqFT, r_not, r_lss, r_leq, r_gtr, r_geq, r_eql, r_neq, r_add, r_sub, r_min2, r_max2, r_min3, r_max3, r_fa, r_iaS, r_iaA, r_ex2a, r_ex2b, r_ex3a, r_ex3b, r_ex3c, r_nc, r_keepE, Nat.zero_add, Nat.add_zero, Nat.mul_one, Int.toNat_natCast, toNat_sub1, toNat_add1, decide_true, decide_false, Bool.not_true, Bool.not_false, if_true, if_false, Bool.false_eq_true, reduceCtorEq, i0, Nat.zero_mul, r_ld oc]
  have bad : ∀ i, i < B.length → boardRow l (B.getD 0 []).length (B.getD i []) = false → goodV l B = .tuple #[.bool false, .bool false, .int .i64 2] := fun i hi h => by
    refine goodV_bad ?_
    cases hB : boardB l B with
    | false => rfl
    | true =>
      simp only [boardB, Bool.and_eq_true] at hB
      have := List.all_eq_true.1 hB.2 _ (getD_mem (d := []) hi)
      rw [h] at this; cases this
  generalize hWe : (B.getD 0 []).length = W at *
  refine ⟨fun t9 wr => ∃ i : Nat, i ≤ B.length ∧ t9 = .int .i64 i ∧ (∀ k, k < i → boardRow l W (B.getD k []) = true) ∧ Kp w1 wr, fun t9 _ => B.length - (intOf t9).toNat, ⟨0, by omega, rfl, fun k hk => absurd hk (by omega), Kp.refl _⟩, ?_⟩
  rintro _ _ wi ⟨i, hi, rfl, hok, kwi⟩
  have k1i := Kp.trans k1 kwi
  have h2i := block_below h21 kwi
  by_cases hlt : i < B.length
  case pos =>
    have hlt' : (i : Int) < (B.length : Int) := by omega
    obtain ⟨pb, po, _, rv, ep, pc, prow⟩ := (hb.below k1i).row hlt
    cases ep
    obtain ⟨qa, qcap, rfl, hql⟩ := prow.len
    by_cases hlen : ((B.getD i []).length : Int) = (W : Int)
    case neg =>
      simp (disch := omega) only [r_ln, r_pick, r_pickT, r_pickF, r_condT, r_condF, r_gdTT, r_gdFF, r_gdTF, r_gdFT, r_gqTT, r_gqFF, r_gqTF, r_gqFT, r_not, r_lss, r_leq, r_gtr, r_geq, r_eql, r_neq, r_add, r_sub, r_min2, r_max2, r_min3, r_max3, r_fa, r_iaS, r_iaA, r_ex2a, r_ex2b, r_ex3a, r_ex3b, r_ex3c, r_nc, r_keepE, Nat.zero_add, Nat.add_zero, Nat.mul_one, Int.toNat_natCast, toNat_sub1, toNat_add1, decide_true, decide_false, Bool.not_true, Bool.not_false, if_true, if_false, Bool.false_eq_true, reduceCtorEq, decide_eq_true hlt', r_ld pc, hlen]
      exact ⟨by rw [bad i hlt (by simp only [boardRow]; rw [decide_eq_false (by omega)]; rfl)], k1i⟩
    simp (disch := omega) only [r_ln, r_pick, r_pickT, r_pickF, r_condT, r_condF, r_gdTT, r_gdFF, r_gdTF, r_gdFT, r_gqTT, r_gqFF, r_gqTF, r_gqFT, r_not, r_lss, r_leq, r_gtr, r_geq, r_eql, r_neq, r_add, r_sub, r_min2, r_max2, r_min3, r_max3, r_fa, r_iaS, r_iaA, r_ex2a, r_ex2b, r_ex3a, r_ex3b, r_ex3c, r_nc, r_keepE, Nat.zero_add, Nat.add_zero, Nat.mul_one, Int.toNat_natCast, toNat_sub1, toNat_add1, decide_true, decide_false, Bool.not_true, Bool.not_false, if_true, if_false, Bool.false_eq_true, reduceCtorEq, decide_eq_true hlt', r_ld pc, decide_eq_true hlen]
    refine r_use fok35 (containsF_calls (fun x => !cellOk l x) wi prow fun x _ w' K hkk hK => nocell_call wi h2i x w' hkk K hK) rfl ?_
    rintro _ wj ⟨rfl, kwj⟩
    refine ⟨_, rfl, ?_⟩
    rw [any_cell]
    cases hcall : (B.getD i []).all (cellOk l) with
    | false =>
      simp (disch := omega) only [r_ln, r_pick, r_pickT, r_pickF, r_condT, r_condF, r_gdTT, r_gdFF, r_gdTF, r_gdFT, r_gqTT, r_gqFF, r_gqTF, r_gqFT, r_not, r_lss, r_leq, r_gtr, r_geq, r_eql, r_neq, r_add, r_sub, r_min2, r_max2, r_min3, r_max3, r_fa, r_iaS, r_iaA, r_ex2a, r_ex2b, r_ex3a, r_ex3b, r_ex3c, r_nc, r_keepE, Nat.zero_add, Nat.add_zero, Nat.mul_one, Int.toNat_natCast, toNat_sub1, toNat_add1, decide_true, decide_false, Bool.not_true, Bool.not_false, if_true, if_false, Bool.false_eq_true, reduceCtorEq]
      exact ⟨by rw [bad i hlt (by simp only [boardRow, hcall, Bool.and_false])], Kp.trans k1i kwj⟩
    | true =>
      simp (disch := omega) only [r_ln, r_pick, r_pickT, r_pickF, r_condT, r_condF, r_gdTT, r_gdFF, r_gdTF, r_gdFT, r_gqTT, r_gqFF, r_gqTF, r_gqFT, r_not, r_lss, r_leq, r_gtr, r_geq, r_eql, r_neq, r_add, r_sub, r_min2, r_max2, r_min3, r_max3, r_fa, r_iaS, r_iaA, r_ex2a, r_ex2b, r_ex3a, r_ex3b, r_ex3c, r_nc, r_keepE, Nat.zero_add, Nat.add_zero, Nat.mul_one, Int.toNat_natCast, toNat_sub1, toNat_add1, decide_true, decide_false, Bool.not_true, Bool.not_false, if_true, if_false, Bool.false_eq_true, reduceCtorEq]
      refine ⟨⟨i + 1, by omega, by go_num, fun k hk => ?_, Kp.trans kwi kwj⟩, by simp only [intOf]; omega⟩
      by_cases hki : k < i
      · exact hok k hki
      · have : k = i := by omega
        subst this
        simp only [boardRow, hcall, Bool.and_true, decide_eq_true_eq]
        omega
  have hlt' : ¬ (i : Int) < (B.length : Int) := by omega
  have hall : B.all (boardRow l W) = true := List.all_eq_true.2 fun r hr => by
    obtain ⟨q, hq, rfl⟩ := List.getElem_of_mem hr
    have := hok q (by omega)
    rwa [getD_lt _ _ _ hq] at this
  simp (disch := omega) only [r_ln, r_pick, r_pickT, r_pickF, r_condT, r_condF, r_gdTT, r_gdFF, r_gdTF, r_gdFT, r_gqTT, r_gqFF, r_gqTF, r_gqFT, r_not, r_lss, r_leq, r_gtr, r_geq, r_eql, r_neq, r_add, r_sub, r_min2, r_max2, r_min3, r_max3, r_fa, r_iaS, r_iaA, r_ex2a, r_ex2b, r_ex3a, r_ex3b, r_ex3c, r_nc, r_keepE, Nat.zero_add, Nat.add_zero, Nat.mul_one, Int.toNat_natCast, toNat_sub1, toNat_add1, decide_true, decide_false, Bool.not_true, Bool.not_false, if_true, if_false, Bool.false_eq_true, reduceCtorEq, hlt']
  have hgv : goodV l B = .tuple #[.bool (judge l B W B.length).1, .bool (judge l B W B.length).2, .int .i64 0] := by
    have hB : boardB l B = true := by simp only [boardB, b1, b2, hWe, b3, hall, Bool.and_self]
    unfold goodV
    rw [hB, hWe]; rfl
  rw [hgv]
  have hle := judge_le l B W B.length
  have hrow := fun y hy => board_row (l := l) (B := B) (by rw [hWe]; exact hall) (y := y) hy
  rw [hWe] at hrow
  refine ⟨fun t11 t12 t13 wr => ∃ y : Nat, y ≤ B.length ∧ t13 = .int .i64 y ∧ t11 = .bool ((List.range y).foldl (rowF l B W B.length) (true, true)).1 ∧ t12 = .bool ((List.range y).foldl (rowF l B W B.length) (true, true)).2 ∧ Kp w1 wr, fun _ _ t13 _ => B.length - (intOf t13).toNat,
    ⟨0, by omega, rfl, rfl, rfl, kwi⟩, ?_⟩
  rintro _ _ _ _ wr ⟨y, hy, rfl, rfl, rfl, kr⟩
  by_cases hyl : y < B.length
  case neg =>
    have hyl' : ¬ (y : Int) < (B.length : Int) := by omega
    have ey : y = B.length := by omega
    subst ey
    rw [judge_rows] at hle ⊢
    simp (disch := omega) only [r_ln, r_pick, r_pickT, r_pickF, r_condT, r_condF, r_gdTT, r_gdFF, r_gdTF, r_gdFT, r_gqTT, r_gqFF, r_gqTF, r_gqFT, r_not, r_lss, r_leq, r_gtr, r_geq, r_eql, r_neq, r_add, r_sub, r_min2, r_max2, r_min3, r_max3, r_fa, r_iaS, r_iaA, r_ex2a, r_ex2b, r_ex3a, r_ex3b, r_ex3c, r_nc, r_keepE, Nat.zero_add, Nat.add_zero, Nat.mul_one, Int.toNat_natCast, toNat_sub1, toNat_add1, decide_true, decide_false, Bool.not_true, Bool.not_false, if_true, if_false, Bool.false_eq_true, reduceCtorEq, hyl']
    exact ⟨by first | rfl | trivial, Kp.trans k1 kr⟩
  have hyl' : (y : Int) < (B.length : Int) := by omega
  obtain ⟨yb, yo, _, yv, ey0, yc, yrow⟩ := (hb.below (Kp.trans k1 kr)).row hyl
  cases ey0
  obtain ⟨lr1, hc1⟩ := hrow y hyl
  obtain ⟨ya, ycap, rfl, _⟩ := yrow.len
  rw [lr1] at yc
  simp (disch := omega) only [r_ln, r_pick, r_pickT, r_pickF, r_condT, r_condF, r_gdTT, r_gdFF, r_gdTF, r_gdFT, r_gqTT, r_gqFF, r_gqTF, r_gqFT, r_not, r_lss, r_leq, r_gtr, r_geq, r_eql, r_neq, r_add, r_sub, r_min2, r_max2, r_min3, r_max3, r_fa, r_iaS, r_iaA, r_ex2a, r_ex2b, r_ex3a, r_ex3b, r_ex3c, r_nc, r_keepE, Nat.zero_add, Nat.add_zero, Nat.mul_one, Int.toNat_natCast, toNat_sub1, toNat_add1, decide_true, decide_false, Bool.not_true, Bool.not_false, if_true, if_false, Bool.false_eq_true, reduceCtorEq, decide_eq_true hyl', r_ld yc]
  have hsy : (List.range (y + 1)).foldl (rowF l B W B.length) (true, true) = rowF l B W B.length ((List.range y).foldl (rowF l B W B.length) (true, true)) y := by
    rw [List.range_succ, List.foldl_append]; rfl
  generalize (List.range y).foldl (rowF l B W B.length) (true, true) = s0 at *
  refine ⟨fun t11 t12 t14 wq => ∃ x : Nat, x ≤ W ∧ t14 = .int .i64 x ∧ t11 = .bool ((List.range x).foldl (cellF l B W B.length y) s0).1 ∧ t12 = .bool ((List.range x).foldl (cellF l B W B.length y) s0).2 ∧ Kp wr wq, fun _ _ t14 _ => W - (intOf t14).toNat,
    ⟨0, by omega, rfl, rfl, rfl, Kp.refl _⟩, ?_⟩
  rintro _ _ _ _ wq ⟨x, hx, rfl, rfl, rfl, kq⟩
  by_cases hxl : x < W
  case neg =>
    have hxl' : ¬ (x : Int) < (W : Int) := by omega
    have ex : x = W := by omega
    subst ex
    simp (disch := omega) only [r_ln, r_pick, r_pickT, r_pickF, r_condT, r_condF, r_gdTT, r_gdFF, r_gdTF, r_gdFT, r_gqTT, r_gqFF, r_gqTF, r_gqFT, r_not, r_lss, r_leq, r_gtr, r_geq, r_eql, r_neq, r_add, r_sub, r_min2, r_max2, r_min3, r_max3, r_fa, r_iaS, r_iaA, r_ex2a, r_ex2b, r_ex3a, r_ex3b, r_ex3c, r_nc, r_keepE, Nat.zero_add, Nat.add_zero, Nat.mul_one, Int.toNat_natCast, toNat_sub1, toNat_add1, decide_true, decide_false, Bool.not_true, Bool.not_false, if_true, if_false, Bool.false_eq_true, reduceCtorEq, hxl']
    exact ⟨⟨y + 1, by omega, by go_num, by rw [hsy]; rfl, by rw [hsy]; rfl, Kp.trans kr kq⟩, by simp only [intOf]; omega⟩
  have hxl' : (x : Int) < (W : Int) := by omega
  have hsx : (List.range (x + 1)).foldl (cellF l B W B.length y) s0 = cellF l B W B.length y ((List.range x).foldl (cellF l B W B.length y) s0) x := by
    rw [List.range_succ, List.foldl_append]; rfl
  generalize (List.range x).foldl (cellF l B W B.length y) s0 = s at *
  have hx2 : (x + 1) % W < W := Nat.mod_lt _ (by omega)
  have hy2 : (y + 1) % B.length < B.length := Nat.mod_lt _ (by omega)
  obtain ⟨n0, e0, l0⟩ := hc1 x hxl
  obtain ⟨n1, e1, l1'⟩ := hc1 _ hx2
  obtain ⟨lr2, hc2⟩ := hrow _ hy2
  obtain ⟨n2, e2, l2'⟩ := hc2 x hxl
  have a0 : at2 l B y x = tl l n0 := by rw [at2, e0]; rfl
  have a1 : at2 l B y ((x + 1) % W) = tl l n1 := by rw [at2, e1]; rfl
  have a2 : at2 l B ((y + 1) % B.length) x = tl l n2 := by rw [at2, e2]; rfl
  have kwq := Kp.trans k1 (Kp.trans kr kq)
  have yq := yrow.below kq
  obtain ⟨qb, qo, _, eq, qc⟩ := yq.at (j := x) (by omega)
  cases eq
  rw [e0] at qc
  simp (disch := omega) only [r_ln, r_pick, r_pickT, r_pickF, r_condT, r_condF, r_gdTT, r_gdFF, r_gdTF, r_gdFT, r_gqTT, r_gqFF, r_gqTF, r_gqFT, r_not, r_lss, r_leq, r_gtr, r_geq, r_eql, r_neq, r_add, r_sub, r_min2, r_max2, r_min3, r_max3, r_fa, r_iaS, r_iaA, r_ex2a, r_ex2b, r_ex3a, r_ex3b, r_ex3c, r_nc, r_keepE, Nat.zero_add, Nat.add_zero, Nat.mul_one, Int.toNat_natCast, toNat_sub1, toNat_add1, decide_true, decide_false, Bool.not_true, Bool.not_false, if_true, if_false, Bool.false_eq_true, reduceCtorEq, decide_eq_true hxl', r_ld qc]
  refine r_drew fun x2 y2 _ => ?_
  have k2 := Kp.trans kwq y2
  have hS2 : x2.heap[bS]? = some (.cells #[.slice va l.length vcap] 22 (0, 0)) := block_below (block_below h21 (Kp.trans kr kq)) y2
  have cS2 : x2.cell? ⟨bS, 0, none⟩ = some (.slice va l.length vcap) := by rw [cell_row hS2]; rfl
  obtain ⟨_, _, _, eq1, qc1⟩ := (yq.below y2).at (j := (x + 1) % W) (by omega)
  cases eq1
  rw [e1] at qc1
  obtain ⟨_, _, _, qb2, qo2, _, ep2, pc2, qc2⟩ := (hb.below k2).cell2 (y := (y + 1) % B.length) (x := x) hy2 (by omega)
  cases ep2
  rw [e2] at qc2
  obtain ⟨tb, to, _, et1, _, tc1⟩ := (hr.kp k2).at (tl_get l1')
  cases et1
  obtain ⟨_, _, _, et2, _, tc2⟩ := (hr.kp k2).at (tl_get l2')
  cases et2
  have lt1 := World.block_lt_of_cell? x2 _ qc1
  have lt2 := World.block_lt_of_cell? x2 _ pc2
  have lt3 := World.block_lt_of_cell? x2 _ qc2
  have lt4 := World.block_lt_of_cell? x2 _ (tc1 0 _ rfl)
  have lt5 := block_lt hS2
  dsimp only at lt1 lt2 lt3 lt4
  have nX : ∀ b, b < x2.heap.size → ¬ (fun k => x2.heap.size ≤ k) b := fun b hb => by dsimp only; omega
  have ex1 : (x : Int) + 1 = ((x + 1 : Nat) : Int) := by simp
  have ey1 : (y : Int) + 1 = ((y + 1 : Nat) : Int) := by simp
  refine r_join2 (fun p q w' => ∃ b17 b18, p = .pointer (some ⟨b17, 0, none⟩) ∧ q = .pointer (some ⟨b18, 0, none⟩) ∧ Kp x2 w' ∧ w'.heap[b17]? = some (.cells (tlV (tl l n1)).cells 25 (0, 0)) ∧ w'.heap[b18]? = some (.cells (tlV (tl l n2)).cells 25 (0, 0))) ?_ ?_
  rotate_left
  · intro kk hkk
    refine ⟨fun k => x2.heap.size ≤ k, ?_⟩
    simp (disch := omega) only [r_ln, r_pick, r_pickT, r_pickF, r_condT, r_condF, r_gdTT, r_gdFF, r_gdTF, r_gdFT, r_gqTT, r_gqFF, r_gqTF, r_gqFT, r_not, r_lss, r_leq, r_gtr, r_geq, r_eql, r_neq, r_add, r_sub, r_min2, r_max2, r_min3, r_max3, r_fa, r_iaS, r_iaA, r_ex2a, r_ex2b, r_ex3a, r_ex3b, r_ex3c, r_nc, r_keepE, Nat.zero_add, Nat.add_zero, Nat.mul_one, Int.toNat_natCast, toNat_sub1, toNat_add1, decide_true, decide_false, Bool.not_true, Bool.not_false, if_true, if_false, Bool.false_eq_true, reduceCtorEq, r_tx, r_txl (X := fun k => x2.heap.size ≤ k) cS2 (nX _ lt5), ex1, ey1, r_remN, r_txl (X := fun k => x2.heap.size ≤ k) qc1 (nX _ lt1), r_txC (X := fun k => x2.heap.size ≤ k) tc1 (nX _ lt4), r_txl (X := fun k => x2.heap.size ≤ k) pc2 (nX _ lt2), r_txl (X := fun k => x2.heap.size ≤ k) qc2 (nX _ lt3), r_txC (X := fun k => x2.heap.size ≤ k) tc2 (nX _ lt4)]
    refine ⟨?_, ?_, trivial⟩
    · refine r_box fun b17 z5 e5 s5 g5 v5 => ⟨BX.of_below v5, ?_⟩
      refine r_box fun b18 z6 e6 s6 g6 v6 => ⟨BX.of_below v6, ?_⟩
      refine r_stAll (n := 4) (ty := 25) (by kernel_rfl) rfl (by intro u hu; simp [Value.cells] at hu; rcases hu with rfl | rfl | rfl | rfl <;> rfl) (block_below g5 v6) rfl fun z7 c7 s7 g7 => ?_
      refine ⟨BX.of_chgW (c7.mono fun k _ e => by omega), ?_⟩
      refine r_stAll (n := 4) (ty := 25) (by kernel_rfl) rfl (by intro u hu; simp [Value.cells] at hu; rcases hu with rfl | rfl | rfl | rfl <;> rfl) (c7.at g6 (by omega)) rfl fun z8 c8 s8 g8 => ?_
      exact hkk _ _ _ ⟨b17, b18, rfl, rfl, Kp.of_chg (Kp.of_chg (Kp.trans v5 v6) c7 fun i e => by omega) c8 fun i e => by omega, c8.at g7 (by omega), g8⟩
    · refine r_box fun b18 z5 e5 s5 g5 v5 => ⟨BX.of_below v5, ?_⟩
      refine r_box fun b17 z6 e6 s6 g6 v6 => ⟨BX.of_below v6, ?_⟩
      refine r_stAll (n := 4) (ty := 25) (by kernel_rfl) rfl (by intro u hu; simp [Value.cells] at hu; rcases hu with rfl | rfl | rfl | rfl <;> rfl) g6 rfl fun z7 c7 s7 g7 => ?_
      refine ⟨BX.of_chgW (c7.mono fun k _ e => by omega), ?_⟩
      refine r_stAll (n := 4) (ty := 25) (by kernel_rfl) rfl (by intro u hu; simp [Value.cells] at hu; rcases hu with rfl | rfl | rfl | rfl <;> rfl) (c7.at (block_below g5 v6) (by omega)) rfl fun z8 c8 s8 g8 => ?_
      exact hkk _ _ _ ⟨b17, b18, rfl, rfl, Kp.of_chg (Kp.of_chg (Kp.trans v5 v6) c7 fun i e => by omega) c8 fun i e => by omega, c8.at g7 (by omega), g8⟩
  rintro _ _ z2 ⟨b17, b18, rfl, rfl, v2, g17, g18⟩
  refine r_drew fun x3 y3 _ => ?_
  have k3 := Kp.trans k2 (Kp.trans v2 y3)
  have cS3 := cell_later (Kp.trans v2 y3) cS2
  obtain ⟨_, _, _, et0, _, tc0⟩ := (hr.kp k3).at (tl_get l0)
  cases et0
  have t0E := tc0 1 _ rfl
  have h173 := block_below g17 y3
  have h183 := block_below g18 y3
  have c17 : x3.cell? ⟨b17, 3, none⟩ = some (.int .i64 (tW (tl l n1))) := by rw [cell_row h173]; rfl
  simp (disch := omega) only [r_ln, r_pick, r_pickT, r_pickF, r_condT, r_condF, r_gdTT, r_gdFF, r_gdTF, r_gdFT, r_gqTT, r_gqFF, r_gqTF, r_gqFT, r_not, r_lss, r_leq, r_gtr, r_geq, r_eql, r_neq, r_add, r_sub, r_min2, r_max2, r_min3, r_max3, r_fa, r_iaS, r_iaA, r_ex2a, r_ex2b, r_ex3a, r_ex3b, r_ex3c, r_nc, r_keepE, Nat.zero_add, Nat.add_zero, Nat.mul_one, Int.toNat_natCast, toNat_sub1, toNat_add1, decide_true, decide_false, Bool.not_true, Bool.not_false, if_true, if_false, Bool.false_eq_true, reduceCtorEq, r_ld cS3, r_ld t0E, r_ld c17]
  refine r_join2 (fun p q w' => p = .bool (stE l B W y x s).1 ∧ q = .bool (stE l B W y x s).2 ∧ x3 = w') ?_ ?_
  rotate_left
  · intro kk hkk
    unfold stE at hkk
    rw [a0, a1] at hkk
    by_cases hm : tE (tl l n0) = tW (tl l n1)
    · rw [if_pos hm] at hkk
      simp (disch := omega) only [r_ln, r_pick, r_pickT, r_pickF, r_condT, r_condF, r_gdTT, r_gdFF, r_gdTF, r_gdFT, r_gqTT, r_gqFF, r_gqTF, r_gqFT, r_not, r_lss, r_leq, r_gtr, r_geq, r_eql, r_neq, r_add, r_sub, r_min2, r_max2, r_min3, r_max3, r_fa, r_iaS, r_iaA, r_ex2a, r_ex2b, r_ex3a, r_ex3b, r_ex3c, r_nc, r_keepE, Nat.zero_add, Nat.add_zero, Nat.mul_one, Int.toNat_natCast, toNat_sub1, toNat_add1, decide_true, decide_false, Bool.not_true, Bool.not_false, if_true, if_false, Bool.false_eq_true, reduceCtorEq, decide_eq_true hm]
      exact hkk _ _ _ ⟨rfl, rfl, rfl⟩
    · rw [if_neg hm] at hkk
      obtain ⟨g, c⟩ := s
      cases g with
      | false =>
        simp (disch := omega) only [r_ln, r_pick, r_pickT, r_pickF, r_condT, r_condF, r_gdTT, r_gdFF, r_gdTF, r_gdFT, r_gqTT, r_gqFF, r_gqTF, r_gqFT, r_not, r_lss, r_leq, r_gtr, r_geq, r_eql, r_neq, r_add, r_sub, r_min2, r_max2, r_min3, r_max3, r_fa, r_iaS, r_iaA, r_ex2a, r_ex2b, r_ex3a, r_ex3b, r_ex3c, r_nc, r_keepE, Nat.zero_add, Nat.add_zero, Nat.mul_one, Int.toNat_natCast, toNat_sub1, toNat_add1, decide_true, decide_false, Bool.not_true, Bool.not_false, if_true, if_false, Bool.false_eq_true, reduceCtorEq, hm]
        exact hkk _ _ _ ⟨rfl, rfl, rfl⟩
      | true =>
        simp (disch := omega) only [r_ln, r_pick, r_pickT, r_pickF, r_condT, r_condF, r_gdTT, r_gdFF, r_gdTF, r_gdFT, r_gqTT, r_gqFF, r_gqTF, r_gqFT, r_not, r_lss, r_leq, r_gtr, r_geq, r_eql, r_neq, r_add, r_sub, r_min2, r_max2, r_min3, r_max3, r_fa, r_iaS, r_iaA, r_ex2a, r_ex2b, r_ex3a, r_ex3b, r_ex3c, r_nc, r_keepE, Nat.zero_add, Nat.add_zero, Nat.mul_one, Int.toNat_natCast, toNat_sub1, toNat_add1, decide_true, decide_false, Bool.not_true, Bool.not_false, if_true, if_false, Bool.false_eq_true, reduceCtorEq, hm]
        refine hkk _ _ _ ⟨?_, rfl, rfl⟩
        congr 1
        rw [Bool.true_and, decide_eq_decide]
        omega
  rintro _ _ _ ⟨rfl, rfl, rfl⟩
  generalize hs1 : stE l B W y x s = s1 at *
  refine r_drew fun x4 y4 _ => ?_
  have k4 := Kp.trans k3 y4
  have cS4 := cell_later y4 cS3
  obtain ⟨_, _, _, et0, _, tc0⟩ := (hr.kp k4).at (tl_get l0)
  cases et0
  have t0S := tc0 2 _ rfl
  have h184 := block_below h183 y4
  have c18 : x4.cell? ⟨b18, 0, none⟩ = some (.int .i64 (tN (tl l n2))) := by rw [cell_row h184]; rfl
  simp (disch := omega) only [r_ln, r_pick, r_pickT, r_pickF, r_condT, r_condF, r_gdTT, r_gdFF, r_gdTF, r_gdFT, r_gqTT, r_gqFF, r_gqTF, r_gqFT, r_not, r_lss, r_leq, r_gtr, r_geq, r_eql, r_neq, r_add, r_sub, r_min2, r_max2, r_min3, r_max3, r_fa, r_iaS, r_iaA, r_ex2a, r_ex2b, r_ex3a, r_ex3b, r_ex3c, r_nc, r_keepE, Nat.zero_add, Nat.add_zero, Nat.mul_one, Int.toNat_natCast, toNat_sub1, toNat_add1, decide_true, decide_false, Bool.not_true, Bool.not_false, if_true, if_false, Bool.false_eq_true, reduceCtorEq, r_ld cS4, r_ld t0S, r_ld c18]
  refine r_join2 (fun p q w' => p = .bool (stS l B B.length y x s1).1 ∧ q = .bool (stS l B B.length y x s1).2 ∧ x4 = w') ?_ ?_
  rotate_left
  · intro kk hkk
    unfold stS at hkk
    rw [a0, a2] at hkk
    by_cases hm : tS (tl l n0) = tN (tl l n2)
    · rw [if_pos hm] at hkk
      simp (disch := omega) only [r_ln, r_pick, r_pickT, r_pickF, r_condT, r_condF, r_gdTT, r_gdFF, r_gdTF, r_gdFT, r_gqTT, r_gqFF, r_gqTF, r_gqFT, r_not, r_lss, r_leq, r_gtr, r_geq, r_eql, r_neq, r_add, r_sub, r_min2, r_max2, r_min3, r_max3, r_fa, r_iaS, r_iaA, r_ex2a, r_ex2b, r_ex3a, r_ex3b, r_ex3c, r_nc, r_keepE, Nat.zero_add, Nat.add_zero, Nat.mul_one, Int.toNat_natCast, toNat_sub1, toNat_add1, decide_true, decide_false, Bool.not_true, Bool.not_false, if_true, if_false, Bool.false_eq_true, reduceCtorEq, decide_eq_true hm]
      exact hkk _ _ _ ⟨rfl, rfl, rfl⟩
    · rw [if_neg hm] at hkk
      obtain ⟨g, c⟩ := s1
      cases g with
      | false =>
        simp (disch := omega) only [r_ln, r_pick, r_pickT, r_pickF, r_condT, r_condF, r_gdTT, r_gdFF, r_gdTF, r_gdFT, r_gqTT, r_gqFF, r_gqTF, r_gqFT, r_not, r_lss, r_leq, r_gtr, r_geq, r_eql, r_neq, r_add, r_sub, r_min2, r_max2, r_min3, r_max3, r_fa, r_iaS, r_iaA, r_ex2a, r_ex2b, r_ex3a, r_ex3b, r_ex3c, r_nc, r_keepE, Nat.zero_add, Nat.add_zero, Nat.mul_one, Int.toNat_natCast, toNat_sub1, toNat_add1, decide_true, decide_false, Bool.not_true, Bool.not_false, if_true, if_false, Bool.false_eq_true, reduceCtorEq, hm]
        exact hkk _ _ _ ⟨rfl, rfl, rfl⟩
      | true =>
        simp (disch := omega) only [r_ln, r_pick, r_pickT, r_pickF, r_condT, r_condF, r_gdTT, r_gdFF, r_gdTF, r_gdFT, r_gqTT, r_gqFF, r_gqTF, r_gqFT, r_not, r_lss, r_leq, r_gtr, r_geq, r_eql, r_neq, r_add, r_sub, r_min2, r_max2, r_min3, r_max3, r_fa, r_iaS, r_iaA, r_ex2a, r_ex2b, r_ex3a, r_ex3b, r_ex3c, r_nc, r_keepE, Nat.zero_add, Nat.add_zero, Nat.mul_one, Int.toNat_natCast, toNat_sub1, toNat_add1, decide_true, decide_false, Bool.not_true, Bool.not_false, if_true, if_false, Bool.false_eq_true, reduceCtorEq, hm]
        refine hkk _ _ _ ⟨?_, rfl, rfl⟩
        congr 1
        rw [Bool.true_and, decide_eq_decide]
        omega
  rintro _ _ _ ⟨rfl, rfl, rfl⟩
  try simp (disch := omega) only [r_ln, r_pick, r_pickT, r_pickF, r_condT, r_condF, r_gdTT, r_gdFF, r_gdTF, r_gdFT, r_gqTT, r_gqFF, r_gqTF, r_gqFT, r_not, r_lss, r_leq, r_gtr, r_geq, r_eql, r_neq, r_add, r_sub, r_min2, r_max2, r_min3, r_max3, r_fa, r_iaS, r_iaA, r_ex2a, r_ex2b, r_ex3a, r_ex3b, r_ex3c, r_nc, r_keepE, Nat.zero_add, Nat.add_zero, Nat.mul_one, Int.toNat_natCast, toNat_sub1, toNat_add1, decide_true, decide_false, Bool.not_true, Bool.not_false, if_true, if_false, Bool.false_eq_true, reduceCtorEq]
  have hcell : cellF l B W B.length y s x = stS l B B.length y x s1 := by rw [cellF, hs1]
  refine ⟨⟨x + 1, by omega, by first | rfl | go_num, by rw [hsx, hcell], by rw [hsx, hcell], Kp.trans kq (Kp.trans y2 (Kp.trans v2 (Kp.trans y3 y4)))⟩, by simp only [intOf]; omega⟩
abbrev pb (b : Nat) : Value := .pointer (some ⟨b, 0, none⟩)

end Go.Proofs.YtfmppkplmfbjpaaGreatDoor
