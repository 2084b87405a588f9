/- Texts of my own, merged by program: Wj Wk. -/
import Derived.Test.YtfmppkplmfbjpaaGreatDoorM29
set_option linter.all false
/- How many closed boards, as the program counts. -/
namespace Go.Proofs.YtfmppkplmfbjpaaGreatDoor
open Go.Lf Go.RowKit Go.Wg

def closedV (l : List Tile) (W h : Nat) : Int := (closedS (8 ^ W) h (closedL (linesL l W))).1
theorem closed_both {l : List Tile} (hs : IsSet l) {W h : Nat} (hW : 1 ≤ W ∧ W ≤ 4) (hh : 0 < h) : (closedS (8 ^ W) h (closedL (linesL l W))).1 = closedV l W h := rfl
theorem closedV_exact {l : List Tile} (hs : IsSet l) {W h : Nat} (hW : 1 ≤ W ∧ W ≤ 4) (hh : 0 < h) : closedV l W h = capI (roundN (closedL (linesL l W)) lnN lnSo h) :=
  closed_exact (fun x hx => lines_ok hs hW.2 x (List.mem_filter.1 hx).1) hh

end Go.Proofs.YtfmppkplmfbjpaaGreatDoor

/- Picked by pick.py. -/
namespace Go.Proofs.YtfmppkplmfbjpaaGreatDoor
open Go.Lf Go.RowKit Go.Wg

theorem least {P : Nat → Prop} (h : ∃ n, P n) : ∃ n, P n ∧ ∀ m, P m → n ≤ m := by
  obtain ⟨n, hn⟩ := h
  induction n using Nat.strongRecOn with
  | ind n ih =>
    by_cases hx : ∃ m, m < n ∧ P m
    · obtain ⟨m, h1, h2⟩ := hx
      exact ih m h1 h2
    · exact ⟨n, hn, fun m hm => Nat.le_of_not_lt fun hlt => hx ⟨m, hlt, hm⟩⟩
/-- Is a closed board of so many cells and this width there? -/
def leastP (l : List Tile) (A w : Nat) : Bool := decide (A / w * w = A) && decide (A / w ≤ 4) && decide (0 < closedV l w (A / w))
/-- The least width, less one. -/
def findW (l : List Tile) (A : Nat) : Option Nat := (List.range 4).find? fun i => leastP l A (i + 1)
/-- The measures of the least closed board. -/
def leastM (l : List Tile) : Option (Nat × Nat) := (List.range 16).findSome? fun a => (findW l (a + 1)).map fun i => (i + 1, (a + 1) / (i + 1))
def leastV (l : List Tile) : Value := if setB l = true then (match leastM l with
  | some m => .tuple #[.int .i64 m.1, .int .i64 m.2, .int .i64 0]
  | none => .tuple #[.int .i64 0, .int .i64 0, .int .i64 10]) else .tuple #[.int .i64 0, .int .i64 0, .int .i64 2]
theorem find_first {p : Nat → Bool} {n i : Nat} (hi : i < n) (h1 : ∀ j, j < i → p j = false) (h2 : p i = true) : (List.range n).find? p = some i := by
  rw [List.find?_range_eq_some]
  exact ⟨h2, List.mem_range.2 hi, fun j hj => by rw [h1 j hj]; rfl⟩
theorem find_none {p : Nat → Bool} {n : Nat} (h : ∀ j, j < n → p j = false) : (List.range n).find? p = none := by
  rw [List.find?_eq_none]
  intro x hx hp
  rw [h x (List.mem_range.1 hx)] at hp
  cases hp
theorem findSome_first {α : Type} {f : Nat → Option α} {n i : Nat} {x : α} (hi : i < n) (h1 : ∀ j, j < i → f j = none) (h2 : f i = some x) : (List.range n).findSome? f = some x := by
  have e : List.range n = List.range i ++ i :: (List.range n).drop (i + 1) := by
    have h : (List.range n)[i]'(by simpa using hi) = i := List.getElem_range _
    have h3 := List.drop_eq_getElem_cons (l := List.range n) (i := i) (by simpa using hi)
    rw [h] at h3
    have h4 : (List.range n).take i = List.range i := by rw [List.take_range, Nat.min_eq_left (by omega)]
    rw [← h3, ← h4, List.take_append_drop]
  rw [e, List.findSome?_append, List.findSome?_cons, h2]
  have : (List.range i).findSome? f = none := by
    rw [List.findSome?_eq_none_iff]
    intro j hj
    exact h1 j (List.mem_range.1 hj)
  rw [this]; rfl
theorem findSome_none {α : Type} {f : Nat → Option α} {n : Nat} (h : ∀ j, j < n → f j = none) : (List.range n).findSome? f = none := by
  rw [List.findSome?_eq_none_iff]
  intro j hj
  exact h j (List.mem_range.1 hj)
set_option maxRecDepth 100000 in
set_option maxHeartbeats 1000000 in
theorem r37_1 {sv t6 : Value} {l : List Tile} {a : Nat} {w0 w : World} {next : Value → Value → Value → World → Prop} {k : Value → Value → World → Prop} (hs : IsSet l) (hr : RdT w0 sv l) (ha : a < 16) (hk0 : Kp w0 w)
    (hf : ∀ i w', findW l (a + 1) = some i → i < 4 → Kp w0 w' → k (.int .i64 ((i + 1 : Nat) : Int)) (.int .i64 (((a + 1) / (i + 1) : Nat) : Int)) w')
    (hn : ∀ t w', findW l (a + 1) = none → Kp w0 w' → next (.int .i64 5) t (.int .i64 (((a + 1 : Nat) : Int) + 1)) w') : S5L1 sv t6 (.int .i64 (a + 1 : Nat)) next k w := by
  unfold S5L1
  refine ⟨fun t5 _ wr => ∃ i : Nat, i ≤ 4 ∧ t5 = .int .i64 (i + 1 : Nat) ∧ (∀ j, j < i → leastP l (a + 1) (j + 1) = false) ∧ Kp w0 wr, fun t5 _ _ => 5 - (intOf t5).toNat, ⟨0, by omega, rfl, fun j hj => by omega, hk0⟩, ?_⟩
  rintro _ _ _ wr ⟨i, hi, rfl, hno, kr⟩
  by_cases hlt : i < 4
  case neg =>
    have hlt' : ¬ ((i + 1 : Nat) : Int) ≤ 4 := by omega
    have ei : i = 4 := by omega
    subst ei
    simp only [r_leq, hlt', decide_false, r_condF]
    rw [r_add _ _ (by omega) (by omega)]
    exact hn _ wr (find_none hno) kr
  have hlt' : ((i + 1 : Nat) : Int) ≤ 4 := by omega
  have hdm : (a + 1) / (i + 1) * (i + 1) ≤ a + 1 := Nat.div_mul_le_self _ _
  have hdl : (a + 1) / (i + 1) ≤ a + 1 := Nat.div_le_self _ _
  simp only [r_leq, decide_eq_true hlt', r_condT]
  rw [r_quoN _ _ (by omega) (by omega), r_mulN _ _ (by omega)]
  have skip : leastP l (a + 1) (i + 1) = false → ∀ (w' : World) (t : Value), Kp w0 w' → (∃ i_1 : Nat, i_1 ≤ 4 ∧ Value.int .i64 (((i + 1 : Nat) : Int) + 1) = .int .i64 (i_1 + 1 : Nat) ∧ (∀ j, j < i_1 → leastP l (a + 1) (j + 1) = false) ∧ Kp w0 w') ∧ 5 - (intOf (.int .i64 (((i + 1 : Nat) : Int) + 1))).toNat < 5 - (intOf (.int .i64 ((i + 1 : Nat) : Int))).toNat := fun hf' w' _ k' =>
    ⟨⟨i + 1, by omega, by go_num, fun j hj => by
      by_cases e : j = i
      · subst e; exact hf'
      · exact hno j (by omega), k'⟩, by simp only [intOf]; omega⟩
  by_cases g1 : (a + 1) / (i + 1) * (i + 1) = a + 1
  case neg =>
    have g1' : ¬ (((a + 1) / (i + 1) * (i + 1) : Nat) : Int) = ((a + 1 : Nat) : Int) := by omega
    simp only [r_eql, g1', decide_false, r_gdFT, r_gdU, r_pickF, r_condF]
    rw [r_add _ _ (by omega) (by omega)]
    exact skip (by rw [leastP, decide_eq_false g1]; rfl) wr (.int .i64 0) kr
  have g1' : (((a + 1) / (i + 1) * (i + 1) : Nat) : Int) = ((a + 1 : Nat) : Int) := by omega
  have hpos : 1 ≤ (a + 1) / (i + 1) := by
    refine Nat.pos_of_ne_zero fun h => ?_
    rw [h] at g1; omega
  simp only [r_eql, decide_eq_true g1', r_gdTT]
  refine r_use fok13 (side_calls _ wr) rfl ?_
  rintro _ _ ⟨rfl, rfl⟩
  refine ⟨_, rfl, ?_⟩
  by_cases g2 : (a + 1) / (i + 1) ≤ 4
  case neg =>
    have hsd : sideB ((((a + 1) / (i + 1) : Nat)) : Int) = false := by unfold sideB; exact decide_eq_false (by omega)
    rw [hsd]
    simp only [r_pickT, r_gdFT, r_gdU, r_pickF, r_condF]
    rw [r_add _ _ (by omega) (by omega)]
    exact skip (by rw [leastP, decide_eq_false g2, Bool.and_false]; rfl) wr (.int .i64 0) kr
  have hsd : sideB ((((a + 1) / (i + 1) : Nat)) : Int) = true := by unfold sideB; exact decide_eq_true (by omega)
  rw [hsd]
  simp only [r_pickT, r_gdTT]
  refine r_use fok14 (closed86_calls hs (W := i + 1) (h := (a + 1) / (i + 1)) (by omega) g2 wr (hr.kp kr)) rfl ?_
  rintro _ w2 ⟨rfl, k2⟩
  refine ⟨_, rfl, ?_⟩
  rw [closed_both hs (by omega) (by omega)]
  have k02 := Kp.trans kr k2
  have eP : leastP l (a + 1) (i + 1) = decide (0 < closedV l (i + 1) ((a + 1) / (i + 1))) := by
    rw [leastP, decide_eq_true g1, decide_eq_true g2]; rfl
  by_cases g3 : 0 < closedV l (i + 1) ((a + 1) / (i + 1))
  · simp only [r_gtr, decide_eq_true g3, r_pickT, r_condT]
    exact hf i w2 (find_first hlt hno (by rw [eP, decide_eq_true g3])) hlt k02
  · simp only [r_gtr, g3, decide_false, r_pickT, r_condF]
    rw [r_add _ _ (by omega) (by omega)]
    exact skip (by rw [eP, decide_eq_false g3]) w2 (.int .i64 0) k02
set_option maxRecDepth 100000 in
theorem least_calls {sv : Value} {l : List Tile} (w : World) (hr : RdT w sv l) : Calls Tryz.prog 5 #[sv] w fun e w' => e = .returned (leastV l) ∧ Kp w w' := by
  refine lift5 ?_
  unfold S5
  refine r_use fok12 (valid_calls w hr) rfl ?_
  rintro _ w1 ⟨rfl, k1⟩
  refine ⟨_, rfl, ?_⟩
  unfold leastV
  cases hset : setB l with
  | false =>
    simp only [r_not, Bool.not_false, r_condT]
    exact ⟨by first | rfl | trivial, k1⟩
  | true =>
  have hs := isSet_of hset
  simp only [r_not, Bool.not_true, r_condF]
  refine r_join2 (fun p q w' => Kp w w' ∧ ((∃ i m : Nat, i < 4 ∧ p = .int .i64 ((i + 1 : Nat) : Int) ∧ q = .int .i64 (m : Nat) ∧ leastM l = some (i + 1, m)) ∨ (p = .int .i64 5 ∧ leastM l = none))) ?_ fun k' hk' => ?_
  · rintro p q w' ⟨kw, ⟨i, m, hi, rfl, rfl, hm⟩ | ⟨rfl, hm⟩⟩
    · have h4 : ¬ (4 : Int) < ((i + 1 : Nat) : Int) := by omega
      rw [hm]
      simp only [r_gtr, h4, decide_false, r_condF]
      exact ⟨by first | rfl | trivial, kw⟩
    · rw [hm]
      simp only [r_ln, r_pick, r_pickT, r_pickF, r_condT, r_condF, r_gdTT, r_gdFF, r_gdTF, r_gdFT, r_gqTT, r_gqFF, r_gqTF, r_gqFT, r_not, r_lss, r_leq, r_gtr, r_geq, r_eql, r_neq, r_add, r_sub, r_min2, r_max2, r_min3, r_max3, r_fa, r_iaS, r_iaA, r_ex2a, r_ex2b, r_ex3a, r_ex3b, r_ex3c, r_nc, r_keepE, Nat.zero_add, Nat.add_zero, Nat.mul_one, Int.toNat_natCast, toNat_sub1, toNat_add1, decide_true, decide_false, Bool.not_true, Bool.not_false, if_true, if_false, Bool.false_eq_true, reduceCtorEq]
      exact ⟨by first | rfl | trivial, kw⟩
  unfold S5L0
  refine ⟨fun t5 t6 t7 wr => ∃ a : Nat, a ≤ 16 ∧ t7 = .int .i64 ((a + 1 : Nat) : Int) ∧ (∀ j, j < a → findW l (j + 1) = none) ∧ (a = 0 ∨ t5 = .int .i64 5) ∧ Kp w wr, fun _ _ t7 _ => 17 - (intOf t7).toNat, ⟨0, by omega, rfl, fun j hj => by omega, .inl rfl, k1⟩, ?_⟩
  rintro _ t5 t6 _ wr ⟨a, ha, rfl, hno, h5, kr⟩
  by_cases hlt : a < 16
  case neg =>
    have hlt' : ¬ ((a + 1 : Nat) : Int) ≤ 16 := by omega
    have ea : a = 16 := by omega
    subst ea
    simp only [r_leq, hlt', decide_false, r_condF]
    refine hk' _ _ _ ⟨kr, .inr ⟨h5.resolve_left (by omega), findSome_none fun j hj => by rw [hno j hj]; rfl⟩⟩
  have hlt' : ((a + 1 : Nat) : Int) ≤ 16 := by omega
  simp only [r_leq, decide_eq_true hlt', r_condT]
  refine r37_1 hs hr hlt kr (fun i w' hf hi k2 => ?_) fun t w' hf k2 => ?_
  · exact hk' _ _ _ ⟨k2, .inl ⟨i, _, hi, rfl, rfl, findSome_first hlt (fun j hj => by rw [hno j hj]; rfl) (by rw [hf]; rfl)⟩⟩
  · refine ⟨⟨a + 1, by omega, by go_num, fun j hj => ?_, .inr rfl, k2⟩, by simp only [intOf]; omega⟩
    by_cases e : j = a
    · subst e; exact hf
    · exact hno j (by omega)
theorem findSome_of {α : Type} {f : Nat → Option α} {x : α} : ∀ {n : Nat}, (List.range n).findSome? f = some x → ∃ i, i < n ∧ f i = some x ∧ ∀ j, j < i → f j = none
  | 0, h => by simp at h
  | n + 1, h => by
    rw [List.range_succ, List.findSome?_append] at h
    cases hn : (List.range n).findSome? f with
    | some y =>
      rw [hn] at h
      simp at h
      subst h
      obtain ⟨i, h1, h2, h3⟩ := findSome_of hn
      exact ⟨i, by omega, h2, h3⟩
    | none =>
      rw [hn] at h
      simp at h
      rw [List.findSome?_eq_none_iff] at hn
      exact ⟨n, by omega, h, fun j hj => hn j (List.mem_range.2 hj)⟩
theorem least_spec {l : List Tile} (hs : IsSet l) {m : Nat × Nat} (h : leastM l = some m) : (1 ≤ m.1 ∧ m.1 ≤ 4) ∧ (1 ≤ m.2 ∧ m.2 ≤ 4) ∧ 0 < closedV l m.1 m.2 ∧ ∀ a b : Nat, (1 ≤ a ∧ a ≤ 4) → (1 ≤ b ∧ b ≤ 4) → a * b < m.1 * m.2 → closedV l a b = 0 := by
  obtain ⟨c, hc, h1, h2⟩ := findSome_of h
  cases hf : findW l (c + 1) with
  | none => rw [hf] at h1; cases h1
  | some i =>
    rw [hf] at h1
    simp only [Option.map_some, Option.some.injEq] at h1
    subst h1
    have hp := List.find?_some hf
    have hi := List.mem_range.1 (List.mem_of_find?_eq_some hf)
    simp only [leastP, Bool.and_eq_true, decide_eq_true_eq] at hp
    obtain ⟨⟨p1, p2⟩, p3⟩ := hp
    have hpos : 1 ≤ (c + 1) / (i + 1) := by
      refine Nat.pos_of_ne_zero fun h => ?_
      rw [h] at p1; omega
    refine ⟨by dsimp only; omega, ⟨hpos, p2⟩, p3, fun a b ha hb hlt => ?_⟩
    dsimp only at hlt
    rw [Nat.mul_comm (i + 1), p1] at hlt
    have hab : 1 ≤ a * b := Nat.mul_pos ha.1 hb.1
    have hn := h2 (a * b - 1) (by omega)
    rw [show a * b - 1 + 1 = a * b by omega] at hn
    have hfn : findW l (a * b) = none := by
      cases hq : findW l (a * b) with
      | none => rfl
      | some j => rw [hq] at hn; cases hn
    unfold findW at hfn
    rw [List.find?_eq_none] at hfn
    have h3 := hfn (a - 1) (List.mem_range.2 (by omega))
    rw [show a - 1 + 1 = a by omega] at h3
    have hd : a * b / a = b := Nat.mul_div_cancel_left b (by omega)
    have h4 : ¬ 0 < closedV l a b := fun h0 => h3 (by
      simp only [leastP, Bool.and_eq_true, decide_eq_true_eq]
      rw [hd]
      exact ⟨⟨Nat.mul_comm b a, hb.2⟩, h0⟩)
    rw [closedV_exact hs ha (by omega)] at h4 ⊢
    unfold capI at h4 ⊢
    omega

end Go.Proofs.YtfmppkplmfbjpaaGreatDoor
