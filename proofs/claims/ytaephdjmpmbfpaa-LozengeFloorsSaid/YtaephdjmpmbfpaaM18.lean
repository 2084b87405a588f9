/- Texts of my own, merged by program: N3 N4 N5. -/
import Derived.Test.YtaephdjmpmbfpaaM17
import Derived.Test.YtaephdjmpmbfpaaM16
import Derived.Shelf.SlSortCmp.WholeK
set_option linter.all false
/- Contracts: what Floor lists, before it is sorted; Floor of the specification. -/
namespace Go.Proofs.Ytaephdjmpmbfpaa
open Go.Lf Go.RowKit Go.Hp

def z0 (h : List (List Int)) (i j : Nat) : Loz := (0, (j : Int) - i, hat h i j - i)
def z1 (h : List (List Int)) (k i : Nat) : Loz := (1, ((cnt (h.getD i []) k : Nat) : Int) - i, (k : Int) - i)
def z2 (A B : Nat) (h : List (List Int)) (k j : Nat) : Loz := (2, (j : Int) - (cnt ((transM A B h).getD j []) k : Nat), (k : Int) - (cnt ((transM A B h).getD j []) k : Nat))

def floorP (A B C : Nat) (h : List (List Int)) : List Loz :=
  (List.range A).flatMap (fun i => (List.range B).map (z0 h i)) ++ (List.range C).flatMap (fun k => (List.range A).map (z1 h k) ++ (List.range B).map (z2 A B h k))
def floorR (A B C : Nat) (h : List (List Int)) : List Loz :=
  (List.range A).flatMap (fun i => (List.range B).map (z0 h i) ++ (List.range C).map (fun k => z1 h k i)) ++ (List.range B).flatMap (fun j => (List.range C).map (fun k => z2 A B h k j))

theorem flatMap_two {α β : Type} (f g : α → List β) : ∀ l : List α, (l.flatMap fun x => f x ++ g x).Perm (l.flatMap f ++ l.flatMap g)
  | [] => List.Perm.refl _
  | x :: l => by
    simp only [List.flatMap_cons]
    have h := flatMap_two f g l
    have h1 : (f x ++ g x ++ List.flatMap (fun x => f x ++ g x) l).Perm (f x ++ g x ++ (l.flatMap f ++ l.flatMap g)) := List.Perm.append_left _ h
    refine h1.trans ?_
    rw [List.append_assoc, List.append_assoc]
    refine List.Perm.append_left _ ?_
    rw [← List.append_assoc, ← List.append_assoc]
    exact List.Perm.append_right _ List.perm_append_comm

theorem flatMap_swap {α β γ : Type} (F : α → β → γ) (l2 : List β) : ∀ l1 : List α, (l1.flatMap fun a => l2.map (F a)).Perm (l2.flatMap fun b => l1.map fun a => F a b)
  | [] => by simp
  | x :: l1 => by
    simp only [List.flatMap_cons]
    have h := flatMap_swap F l2 l1
    have e : (l2.flatMap fun b => (x :: l1).map fun a => F a b) = l2.flatMap fun b => [F x b] ++ l1.map fun a => F a b := rfl
    rw [e]
    refine List.Perm.trans ?_ (flatMap_two (fun b => [F x b]) (fun b => l1.map fun a => F a b) l2).symm
    have e2 : ∀ l : List β, (l.flatMap fun b => [F x b]) = l.map (F x) := fun l => by
      induction l with
      | nil => rfl
      | cons y l ih => rw [List.flatMap_cons, ih]; rfl
    rw [e2]
    exact List.Perm.append_left _ h

theorem floor_perm (A B C : Nat) (h : List (List Int)) : (floorR A B C h).Perm (floorP A B C h) := by
  unfold floorR floorP
  have h1 := flatMap_two (fun i => (List.range B).map (z0 h i)) (fun i => (List.range C).map (fun k => z1 h k i)) (List.range A)
  have h2 := flatMap_two (fun k => (List.range A).map (z1 h k)) (fun k => (List.range B).map (z2 A B h k)) (List.range C)
  have h3 := flatMap_swap (fun i k => z1 h k i) (List.range C) (List.range A)
  have h4 := flatMap_swap (fun j k => z2 A B h k j) (List.range C) (List.range B)
  refine (List.Perm.append h1 h4).trans ?_
  rw [List.append_assoc]
  refine List.Perm.append_left _ ?_
  exact ((List.Perm.append h3 (List.Perm.refl _))).trans h2.symm

theorem fl_len {α : Type} (f : Nat → List α) (m : Nat) (h : ∀ i, (f i).length = m) : ∀ n, ((List.range n).flatMap f).length = n * m
  | 0 => by simp
  | n + 1 => by
    rw [List.range_succ, List.flatMap_append, List.length_append, fl_len f m h n]
    simp [h, Nat.add_mul]
theorem fl_succ {α : Type} (f : Nat → List α) (n : Nat) : (List.range (n + 1)).flatMap f = (List.range n).flatMap f ++ f n := by
  rw [List.range_succ, List.flatMap_append]; simp
theorem floorP_len (A B C : Nat) (h : List (List Int)) : (floorP A B C h).length = A * B + C * (A + B) := by
  unfold floorP
  rw [List.length_append, fl_len _ B (fun i => by simp), fl_len _ (A + B) (fun i => by simp)]
theorem floorR_len (A B C : Nat) (h : List (List Int)) : (floorR A B C h).length = A * B + C * (A + B) := (floor_perm A B C h).length_eq.trans (floorP_len A B C h)
theorem floor_len48 {A B C : Nat} (hA : A ≤ 4) (hB : B ≤ 4) (hC : C ≤ 4) : A * B + C * (A + B) ≤ 48 := by
  have h1 : A * B ≤ 16 := Nat.mul_le_mul hA hB
  have h2 : C * (A + B) ≤ 4 * 8 := Nat.mul_le_mul hC (by omega)
  omega

theorem trans_row {A B j : Nat} {h : List (List Int)} : ((transM A B h).getD j []).length ≤ A := by
  by_cases hj : j < B
  · unfold transM
    rw [(tabM_sized B A fun j i => hat h i j).2 j hj]
    exact Nat.le_refl _
  · have : (transM A B h).getD j [] = [] := by
      unfold transM
      have := (tabM_sized B A fun j i => hat h i j).1
      rw [List.getD_eq_getElem?_getD, List.getElem?_eq_none (by omega)]; rfl
    rw [this]
    simp

set_option maxRecDepth 100000 in
theorem r_pushLozAt {base : Nat} {w : World} {ty : TypeId} {v : Value} {P : List Loz} {x y z : Int} {K : Value → World → Prop} (h : LozAt base w v P) (hn : P.length + 1 ≤ 1000000) (hb : base ≤ w.heap.size)
    (hk : ∀ v' w', LozAt base w' v' (P ++ [(x, y, z)]) → Chg (fun k => v.ownBlock = some k) w w' → (v'.ownBlock = v.ownBlock ∨ ∃ b, v'.ownBlock = some b ∧ w.heap.size ≤ b) → K v' w') :
    bsW Try.prog 62 1 [(0, .agg #[.int .i64 x, .int .i64 y, .int .i64 z])] w fun s w => semW Try.prog (apS [62, 62] ty [v, s]) w K :=
  r_pushAt slt62 (bs62 _ _ _ _) rfl (by intro u hu; simp [Value.cells] at hu; rcases hu with rfl | rfl | rfl <;> rfl) h (by omega) (by omega) hb fun v' w' ho hg hat => by
    refine hk v' w' ?_ (Chg.of_grown hg fun k hk => hk) hat
    unfold LozAt
    rw [lozCells_append, List.length_append]
    simpa [Value.cells, lozCells, lozC] using ho

def FloorRes (A B C : Int) (h : List (List Int)) (w w' : World) (v : Value) (err : Int) : Prop :=
  err = heapErr A B C h ∧ if err = 0 then LozAt w.heap.size w' v (lzSort (floorP A.toNat B.toNat C.toNat h)) else v = nilS

set_option maxRecDepth 100000 in
set_option maxHeartbeats 1000000 in
theorem reffloor_calls (A B C : Int) (v : Value) (h : List (List Int)) (w : World) (hr : RdRows w v h) :
    Calls Try.prog 45 #[boxV A B C, v] w fun e w' => ∃ v' err, e = .returned (.tuple #[v', .int .i64 err]) ∧ Kp w w' ∧ FloorRes A B C h w w' v' err := by
  refine lift45 ?_
  unfold S45
  refine r_box fun b w1 hbw hsz hb hk => ?_
  rw [r_ldRow (n := 3) hb rfl]
  refine r_use fok62 (good_calls A B C w1) rfl ?_
  rintro _ w2 ⟨rfl, k2⟩
  refine ⟨_, rfl, ?_⟩
  have hk2 := Kp.trans hk k2
  have h20 : ¬ ((2 : Int) = 0) := by decide
  by_cases hv : validB A B C = true
  case neg =>
    have hv' : validB A B C = false := by simpa using hv
    have he : heapErr A B C h = 2 := by unfold heapErr; rw [if_neg fun e => hv e.1]
    simp (disch := omega) only [r_ln, r_pick, r_pickT, r_pickF, r_condT, r_condF, r_gdTT, r_gdFF, r_gdTF, r_gdFT, r_gqTT, r_gqFF, r_gqTF, r_gqFT, r_not, r_lss, r_leq, r_gtr, r_geq, r_eql, r_neq, r_add, r_sub, r_min2, r_max2, r_min3, r_max3, r_fa, r_iaS, r_iaA, r_ex2a, r_ex2b, r_ex3a, r_ex3b, r_ex3c, r_nc, r_keepE, Nat.zero_add, Nat.add_zero, Nat.mul_one, Int.toNat_natCast, toNat_sub1, toNat_add1, decide_true, decide_false, Bool.not_true, Bool.not_false, if_true, if_false, Bool.false_eq_true, reduceCtorEq, hv']
    exact ⟨nilS, 2, rfl, hk2, he.symm, by rw [if_neg h20]⟩
  have hb2 := block_below hb k2
  simp (disch := omega) only [r_ln, r_pick, r_pickT, r_pickF, r_condT, r_condF, r_gdTT, r_gdFF, r_gdTF, r_gdFT, r_gqTT, r_gqFF, r_gqTF, r_gqFT, r_not, r_lss, r_leq, r_gtr, r_geq, r_eql, r_neq, r_add, r_sub, r_min2, r_max2, r_min3, r_max3, r_fa, r_iaS, r_iaA, r_ex2a, r_ex2b, r_ex3a, r_ex3b, r_ex3c, r_nc, r_keepE, Nat.zero_add, Nat.add_zero, Nat.mul_one, Int.toNat_natCast, toNat_sub1, toNat_add1, decide_true, decide_false, Bool.not_true, Bool.not_false, if_true, if_false, Bool.false_eq_true, reduceCtorEq, hv, r_ldRow (n := 3) hb2 rfl]
  refine r_use fok15 (in_calls A B C v h w2 (hr.below hk2)) rfl ?_
  rintro _ w3 ⟨rfl, k3⟩
  refine ⟨_, rfl, ?_⟩
  have hk3 := Kp.trans hk2 k3
  by_cases ho : heapOk A B C h = true
  case neg =>
    have ho' : heapOk A B C h = false := by simpa using ho
    have he : heapErr A B C h = 2 := by unfold heapErr; rw [if_neg fun e => ho e.2]
    simp (disch := omega) only [r_ln, r_pick, r_pickT, r_pickF, r_condT, r_condF, r_gdTT, r_gdFF, r_gdTF, r_gdFT, r_gqTT, r_gqFF, r_gqTF, r_gqFT, r_not, r_lss, r_leq, r_gtr, r_geq, r_eql, r_neq, r_add, r_sub, r_min2, r_max2, r_min3, r_max3, r_fa, r_iaS, r_iaA, r_ex2a, r_ex2b, r_ex3a, r_ex3b, r_ex3c, r_nc, r_keepE, Nat.zero_add, Nat.add_zero, Nat.mul_one, Int.toNat_natCast, toNat_sub1, toNat_add1, decide_true, decide_false, Bool.not_true, Bool.not_false, if_true, if_false, Bool.false_eq_true, reduceCtorEq, ho']
    exact ⟨nilS, 2, rfl, hk3, he.symm, by rw [if_neg h20]⟩
  have he : heapErr A B C h = 0 := by unfold heapErr; rw [if_pos ⟨hv, ho⟩]
  obtain ⟨a, b', c, rfl, rfl, rfl, hA, hB, hC, hh⟩ := isHeap_of he
  have hs := sized_of hh
  have hb3 := block_below hb2 k3
  have hl1 := hs.1
  have hab : a * b' ≤ 16 := Nat.mul_le_mul hA.2 hB.2
  simp (disch := omega) only [r_ln, r_pick, r_pickT, r_pickF, r_condT, r_condF, r_gdTT, r_gdFF, r_gdTF, r_gdFT, r_gqTT, r_gqFF, r_gqTF, r_gqFT, r_not, r_lss, r_leq, r_gtr, r_geq, r_eql, r_neq, r_add, r_sub, r_min2, r_max2, r_min3, r_max3, r_fa, r_iaS, r_iaA, r_ex2a, r_ex2b, r_ex3a, r_ex3b, r_ex3c, r_nc, r_keepE, Nat.zero_add, Nat.add_zero, Nat.mul_one, Int.toNat_natCast, toNat_sub1, toNat_add1, decide_true, decide_false, Bool.not_true, Bool.not_false, if_true, if_false, Bool.false_eq_true, reduceCtorEq, ho]
  -- the rows
  refine ⟨fun t6 t7 wr => ∃ i : Nat, i ≤ a ∧ t7 = .int .i64 i ∧ Kp w3 wr ∧ LozAt w3.heap.size wr t6 ((List.range i).flatMap (fun i => (List.range b').map (z0 h i) ++ (List.range c).map (fun k => z1 h k i))), fun _ t7 _ => a - (intOf t7).toNat,
    ⟨0, by omega, rfl, Kp.refl _, LozAt.nil _ _⟩, ?_⟩
  rintro _ t6 _ wr ⟨i, hi, rfl, hkr, hL⟩
  have hbr := block_below hb3 hkr
  obtain ⟨c0, c1, c2⟩ := box3 hbr
  have hlen0 := fl_len (fun i => (List.range b').map (z0 h i) ++ (List.range c).map (fun k => z1 h k i)) (b' + c) (fun i => by simp) i
  have hib : i * (b' + c) ≤ 32 := Nat.mul_le_mul (show i ≤ 4 by omega) (show b' + c ≤ 8 by omega)
  by_cases hlt : i < a
  case pos =>
    have hlt' : (i : Int) < (a : Int) := by omega
    simp (disch := omega) only [r_ln, r_pick, r_pickT, r_pickF, r_condT, r_condF, r_gdTT, r_gdFF, r_gdTF, r_gdFT, r_gqTT, r_gqFF, r_gqTF, r_gqFT, r_not, r_lss, r_leq, r_gtr, r_geq, r_eql, r_neq, r_add, r_sub, r_min2, r_max2, r_min3, r_max3, r_fa, r_iaS, r_iaA, r_ex2a, r_ex2b, r_ex3a, r_ex3b, r_ex3c, r_nc, r_keepE, Nat.zero_add, Nat.add_zero, Nat.mul_one, Int.toNat_natCast, toNat_sub1, toNat_add1, decide_true, decide_false, Bool.not_true, Bool.not_false, if_true, if_false, Bool.false_eq_true, reduceCtorEq, r_ld c0, hlt']
    refine ⟨fun t6 t8 wq => ∃ j : Nat, j ≤ b' ∧ t8 = .int .i64 j ∧ Kp w3 wq ∧ LozAt w3.heap.size wq t6 ((List.range i).flatMap (fun i => (List.range b').map (z0 h i) ++ (List.range c).map (fun k => z1 h k i)) ++ (List.range j).map (z0 h i)), fun _ t8 _ => b' - (intOf t8).toNat,
      ⟨0, by omega, rfl, hkr, by simpa using hL⟩, ?_⟩
    rintro _ t6 _ wq ⟨j, hj, rfl, hkq, hLq⟩
    have hbq := block_below hb3 hkq
    obtain ⟨c0, c1, c2⟩ := box3 hbq
    obtain ⟨sb, so, sc, rv, rfl, hc, hrow⟩ := (hr.below (Kp.trans hk3 hkq)).row (i := i) (by omega)
    by_cases hjl : j < b'
    case pos =>
      have hjl' : (j : Int) < (b' : Int) := by omega
      have hrl := hs.2 i hlt
      obtain ⟨rb, ro, rcap, rfl, hx⟩ := hrow.at (j := j) (by omega)
      have p1 := hh.pos i j (by omega) (by omega)
      have p2 := hh.top i j (by omega) (by omega)
      have ehat : (h.getD i []).getD j 0 = hat h i j := rfl
      rw [ehat] at hx
      simp (disch := omega) only [r_ln, r_pick, r_pickT, r_pickF, r_condT, r_condF, r_gdTT, r_gdFF, r_gdTF, r_gdFT, r_gqTT, r_gqFF, r_gqTF, r_gqFT, r_not, r_lss, r_leq, r_gtr, r_geq, r_eql, r_neq, r_add, r_sub, r_min2, r_max2, r_min3, r_max3, r_fa, r_iaS, r_iaA, r_ex2a, r_ex2b, r_ex3a, r_ex3b, r_ex3c, r_nc, r_keepE, Nat.zero_add, Nat.add_zero, Nat.mul_one, Int.toNat_natCast, toNat_sub1, toNat_add1, decide_true, decide_false, Bool.not_true, Bool.not_false, if_true, if_false, Bool.false_eq_true, reduceCtorEq, r_ld c1, hjl', r_ld hc, r_ld hx, bd68]
      refine r_pushLoz (w1 := w3) hLq (by rw [List.length_append, hlen0]; simp; omega) hkq fun v' w' ho' k' => ?_
      try simp (disch := omega) only [r_ln, r_pick, r_pickT, r_pickF, r_condT, r_condF, r_gdTT, r_gdFF, r_gdTF, r_gdFT, r_gqTT, r_gqFF, r_gqTF, r_gqFT, r_not, r_lss, r_leq, r_gtr, r_geq, r_eql, r_neq, r_add, r_sub, r_min2, r_max2, r_min3, r_max3, r_fa, r_iaS, r_iaA, r_ex2a, r_ex2b, r_ex3a, r_ex3b, r_ex3c, r_nc, r_keepE, Nat.zero_add, Nat.add_zero, Nat.mul_one, Int.toNat_natCast, toNat_sub1, toNat_add1, decide_true, decide_false, Bool.not_true, Bool.not_false, if_true, if_false, Bool.false_eq_true, reduceCtorEq]
      refine ⟨⟨j + 1, by omega, by go_num, k', ?_⟩, by simp only [intOf]; omega⟩
      rw [range_map_succ, ← List.append_assoc]
      exact ho'
    have hjl' : ¬ (j : Int) < (b' : Int) := by omega
    have ej : j = b' := by omega
    subst ej
    simp (disch := omega) only [r_ln, r_pick, r_pickT, r_pickF, r_condT, r_condF, r_gdTT, r_gdFF, r_gdTF, r_gdFT, r_gqTT, r_gqFF, r_gqTF, r_gqFT, r_not, r_lss, r_leq, r_gtr, r_geq, r_eql, r_neq, r_add, r_sub, r_min2, r_max2, r_min3, r_max3, r_fa, r_iaS, r_iaA, r_ex2a, r_ex2b, r_ex3a, r_ex3b, r_ex3c, r_nc, r_keepE, Nat.zero_add, Nat.add_zero, Nat.mul_one, Int.toNat_natCast, toNat_sub1, toNat_add1, decide_true, decide_false, Bool.not_true, Bool.not_false, if_true, if_false, Bool.false_eq_true, reduceCtorEq, r_ld c1, hjl']
    refine ⟨fun t6 t9 wz => ∃ k : Nat, k ≤ c ∧ t9 = .int .i64 k ∧ Kp w3 wz ∧ LozAt w3.heap.size wz t6 ((List.range i).flatMap (fun i => (List.range j).map (z0 h i) ++ (List.range c).map (fun k => z1 h k i)) ++ (List.range j).map (z0 h i) ++ (List.range k).map (fun k => z1 h k i)), fun _ t9 _ => c - (intOf t9).toNat,
      ⟨0, by omega, rfl, hkq, by simpa using hLq⟩, ?_⟩
    rintro _ t6 _ wz ⟨k, hkc, rfl, hkz, hLz⟩
    have hbz := block_below hb3 hkz
    obtain ⟨c0, c1, c2⟩ := box3 hbz
    obtain ⟨sb, so, sc, rv, e1, hc, hrow⟩ := (hr.below (Kp.trans hk3 hkz)).row (i := i) (by omega)
    cases e1
    by_cases hkl : k < c
    case pos =>
      have hkl' : (k : Int) < (c : Int) := by omega
      simp (disch := omega) only [r_ln, r_pick, r_pickT, r_pickF, r_condT, r_condF, r_gdTT, r_gdFF, r_gdTF, r_gdFT, r_gqTT, r_gqFF, r_gqTF, r_gqFT, r_not, r_lss, r_leq, r_gtr, r_geq, r_eql, r_neq, r_add, r_sub, r_min2, r_max2, r_min3, r_max3, r_fa, r_iaS, r_iaA, r_ex2a, r_ex2b, r_ex3a, r_ex3b, r_ex3c, r_nc, r_keepE, Nat.zero_add, Nat.add_zero, Nat.mul_one, Int.toNat_natCast, toNat_sub1, toNat_add1, decide_true, decide_false, Bool.not_true, Bool.not_false, if_true, if_false, Bool.false_eq_true, reduceCtorEq, r_ld c2, hkl', r_ld hc]
      refine r_use fok82 (above_calls _ _ k wz hrow) rfl ?_
      rintro _ _ ⟨rfl, rfl⟩
      refine ⟨_, rfl, ?_⟩
      have hcl := cnt_le (h.getD i []) k
      rw [hs.2 i hlt] at hcl
      simp (disch := omega) only [r_ln, r_pick, r_pickT, r_pickF, r_condT, r_condF, r_gdTT, r_gdFF, r_gdTF, r_gdFT, r_gqTT, r_gqFF, r_gqTF, r_gqFT, r_not, r_lss, r_leq, r_gtr, r_geq, r_eql, r_neq, r_add, r_sub, r_min2, r_max2, r_min3, r_max3, r_fa, r_iaS, r_iaA, r_ex2a, r_ex2b, r_ex3a, r_ex3b, r_ex3c, r_nc, r_keepE, Nat.zero_add, Nat.add_zero, Nat.mul_one, Int.toNat_natCast, toNat_sub1, toNat_add1, decide_true, decide_false, Bool.not_true, Bool.not_false, if_true, if_false, Bool.false_eq_true, reduceCtorEq, bd68]
      refine r_pushLoz (w1 := w3) hLz (by rw [List.length_append, List.length_append, hlen0]; simp; omega) hkz fun v' w' ho' k' => ?_
      try simp (disch := omega) only [r_ln, r_pick, r_pickT, r_pickF, r_condT, r_condF, r_gdTT, r_gdFF, r_gdTF, r_gdFT, r_gqTT, r_gqFF, r_gqTF, r_gqFT, r_not, r_lss, r_leq, r_gtr, r_geq, r_eql, r_neq, r_add, r_sub, r_min2, r_max2, r_min3, r_max3, r_fa, r_iaS, r_iaA, r_ex2a, r_ex2b, r_ex3a, r_ex3b, r_ex3c, r_nc, r_keepE, Nat.zero_add, Nat.add_zero, Nat.mul_one, Int.toNat_natCast, toNat_sub1, toNat_add1, decide_true, decide_false, Bool.not_true, Bool.not_false, if_true, if_false, Bool.false_eq_true, reduceCtorEq]
      refine ⟨⟨k + 1, by omega, by go_num, k', ?_⟩, by simp only [intOf]; omega⟩
      rw [range_map_succ, ← List.append_assoc]
      exact ho'
    have hkl' : ¬ (k : Int) < (c : Int) := by omega
    have ek : k = c := by omega
    subst ek
    simp (disch := omega) only [r_ln, r_pick, r_pickT, r_pickF, r_condT, r_condF, r_gdTT, r_gdFF, r_gdTF, r_gdFT, r_gqTT, r_gqFF, r_gqTF, r_gqFT, r_not, r_lss, r_leq, r_gtr, r_geq, r_eql, r_neq, r_add, r_sub, r_min2, r_max2, r_min3, r_max3, r_fa, r_iaS, r_iaA, r_ex2a, r_ex2b, r_ex3a, r_ex3b, r_ex3c, r_nc, r_keepE, Nat.zero_add, Nat.add_zero, Nat.mul_one, Int.toNat_natCast, toNat_sub1, toNat_add1, decide_true, decide_false, Bool.not_true, Bool.not_false, if_true, if_false, Bool.false_eq_true, reduceCtorEq, r_ld c2, hkl']
    refine ⟨⟨i + 1, by omega, by go_num, hkz, ?_⟩, by simp only [intOf]; omega⟩
    rw [fl_succ, ← List.append_assoc]
    exact hLz
  have hlt' : ¬ (i : Int) < (a : Int) := by omega
  have ei : i = a := by omega
  subst ei
  simp (disch := omega) only [r_ln, r_pick, r_pickT, r_pickF, r_condT, r_condF, r_gdTT, r_gdFF, r_gdTF, r_gdFT, r_gqTT, r_gqFF, r_gqTF, r_gqFT, r_not, r_lss, r_leq, r_gtr, r_geq, r_eql, r_neq, r_add, r_sub, r_min2, r_max2, r_min3, r_max3, r_fa, r_iaS, r_iaA, r_ex2a, r_ex2b, r_ex3a, r_ex3b, r_ex3c, r_nc, r_keepE, Nat.zero_add, Nat.add_zero, Nat.mul_one, Int.toNat_natCast, toNat_sub1, toNat_add1, decide_true, decide_false, Bool.not_true, Bool.not_false, if_true, if_false, Bool.false_eq_true, reduceCtorEq, r_ld c0, hlt', r_ldRow (n := 3) hbr rfl]
  refine r_use fok50 (reftrans_calls hh hA hB hC _ wr (hr.below (Kp.trans hk3 hkr))) rfl ?_
  rintro _ w5 ⟨vt, rfl, k5, ht⟩
  refine ⟨_, rfl, ?_⟩
  have hk35 := Kp.trans hkr k5
  have htl : (transM i b' h).length = b' := (tabM_sized b' i fun j i => hat h i j).1
  obtain ⟨g, bs, ho, hg, hbs⟩ := ht
  have sr5 := k5.size
  have glt : g < w5.heap.size := by obtain ⟨_, _, _, q, _⟩ := ho.outer; exact block_lt q
  have blt : ∀ q, q < (transM i b' h).length → bs q < w5.heap.size := fun q hq => by obtain ⟨_, q, _⟩ := ho.rows q hq; exact block_lt q
  have sr3 := hkr.size
  refine ⟨fun t6 t12 wq => ∃ j : Nat, j ≤ b' ∧ t12 = .int .i64 j ∧ Kp w3 wq ∧ w5.heap.size ≤ wq.heap.size ∧ OwnRows wq vt g bs (transM i b' h) ∧ (∀ k, t6.ownBlock = some k → k < wr.heap.size ∨ w5.heap.size ≤ k) ∧
      LozAt w3.heap.size wq t6 ((List.range i).flatMap (fun i => (List.range b').map (z0 h i) ++ (List.range c).map (fun k => z1 h k i)) ++ (List.range j).flatMap (fun j => (List.range c).map (fun k => z2 i b' h k j))), fun _ t12 _ => b' - (intOf t12).toNat,
    ⟨0, by omega, rfl, hk35, Nat.le_refl _, ho, fun k hk => .inl (World.ownsRow.lt hL k hk).2, by simpa using hL.kp k5⟩, ?_⟩
  rintro _ t6 _ wq ⟨j, hj, rfl, hkq, hsq, hoq, hap, hLq⟩
  have hbq := block_below hb3 hkq
  obtain ⟨c0, c1, c2⟩ := box3 hbq
  have hlen1 := fl_len (fun j => (List.range c).map (fun k => z2 i b' h k j)) c (fun i => by simp) j
  have hjc : j * c ≤ 16 := Nat.mul_le_mul (show j ≤ 4 by omega) hC.2
  by_cases hjl : j < b'
  case neg =>
    have hjl' : ¬ (j : Int) < (b' : Int) := by omega
    have ej : j = b' := by omega
    subst ej
    simp (disch := omega) only [r_ln, r_pick, r_pickT, r_pickF, r_condT, r_condF, r_gdTT, r_gdFF, r_gdTF, r_gdFT, r_gqTT, r_gqFF, r_gqTF, r_gqFT, r_not, r_lss, r_leq, r_gtr, r_geq, r_eql, r_neq, r_add, r_sub, r_min2, r_max2, r_min3, r_max3, r_fa, r_iaS, r_iaA, r_ex2a, r_ex2b, r_ex3a, r_ex3b, r_ex3c, r_nc, r_keepE, Nat.zero_add, Nat.add_zero, Nat.mul_one, Int.toNat_natCast, toNat_sub1, toNat_add1, decide_true, decide_false, Bool.not_true, Bool.not_false, if_true, if_false, Bool.false_eq_true, reduceCtorEq, r_ld c1, hjl']
    have hfl : LozAt w3.heap.size wq t6 (floorR i j c h) := hLq
    have h48 := floor_len48 hA.2 hB.2 hC.2
    refine r_use fok83 (sorted_calls hfl (by rw [floorR_len]; omega)) rfl ?_
    rintro _ w6 ⟨v6, rfl, k6, ho6⟩
    refine ⟨_, rfl, v6, 0, rfl, Kp.trans hk3 (Kp.trans hkq k6), he.symm, ?_⟩
    simp only [if_true, Int.toNat_natCast]
    rw [lzSort_congr (floor_perm i j c h)] at ho6
    exact ho6.down (Kp.trans hk3 hkq).size
  have hjl' : (j : Int) < (b' : Int) := by omega
  simp (disch := omega) only [r_ln, r_pick, r_pickT, r_pickF, r_condT, r_condF, r_gdTT, r_gdFF, r_gdTF, r_gdFT, r_gqTT, r_gqFF, r_gqTF, r_gqFT, r_not, r_lss, r_leq, r_gtr, r_geq, r_eql, r_neq, r_add, r_sub, r_min2, r_max2, r_min3, r_max3, r_fa, r_iaS, r_iaA, r_ex2a, r_ex2b, r_ex3a, r_ex3b, r_ex3c, r_nc, r_keepE, Nat.zero_add, Nat.add_zero, Nat.mul_one, Int.toNat_natCast, toNat_sub1, toNat_add1, decide_true, decide_false, Bool.not_true, Bool.not_false, if_true, if_false, Bool.false_eq_true, reduceCtorEq, r_ld c1, hjl']
  refine ⟨fun t6 t13 wz => ∃ k : Nat, k ≤ c ∧ t13 = .int .i64 k ∧ Kp w3 wz ∧ w5.heap.size ≤ wz.heap.size ∧ OwnRows wz vt g bs (transM i b' h) ∧ (∀ k, t6.ownBlock = some k → k < wr.heap.size ∨ w5.heap.size ≤ k) ∧
      LozAt w3.heap.size wz t6 ((List.range i).flatMap (fun i => (List.range b').map (z0 h i) ++ (List.range c).map (fun k => z1 h k i)) ++ (List.range j).flatMap (fun j => (List.range c).map (fun k => z2 i b' h k j)) ++ (List.range k).map (fun k => z2 i b' h k j)), fun _ t13 _ => c - (intOf t13).toNat,
    ⟨0, by omega, rfl, hkq, hsq, hoq, hap, by simpa using hLq⟩, ?_⟩
  rintro _ t6 _ wz ⟨k, hkc, rfl, hkz, hsz2, hoz, hapz, hLz⟩
  have hbz := block_below hb3 hkz
  obtain ⟨c0, c1, c2⟩ := box3 hbz
  obtain ⟨sb, so, sc, rv, rfl, hc, hrow⟩ := hoz.rd.row (i := j) (by omega)
  by_cases hkl : k < c
  case pos =>
    have hkl' : (k : Int) < (c : Int) := by omega
    simp (disch := omega) only [r_ln, r_pick, r_pickT, r_pickF, r_condT, r_condF, r_gdTT, r_gdFF, r_gdTF, r_gdFT, r_gqTT, r_gqFF, r_gqTF, r_gqFT, r_not, r_lss, r_leq, r_gtr, r_geq, r_eql, r_neq, r_add, r_sub, r_min2, r_max2, r_min3, r_max3, r_fa, r_iaS, r_iaA, r_ex2a, r_ex2b, r_ex3a, r_ex3b, r_ex3c, r_nc, r_keepE, Nat.zero_add, Nat.add_zero, Nat.mul_one, Int.toNat_natCast, toNat_sub1, toNat_add1, decide_true, decide_false, Bool.not_true, Bool.not_false, if_true, if_false, Bool.false_eq_true, reduceCtorEq, r_ld c2, hkl', r_ld hc]
    refine r_use fok82 (above_calls _ _ k wz hrow) rfl ?_
    rintro _ _ ⟨rfl, rfl⟩
    refine ⟨_, rfl, ?_⟩
    have hcl := cnt_le ((transM i b' h).getD j []) k
    have htr := trans_row (A := i) (B := b') (j := j) (h := h)
    simp (disch := omega) only [r_ln, r_pick, r_pickT, r_pickF, r_condT, r_condF, r_gdTT, r_gdFF, r_gdTF, r_gdFT, r_gqTT, r_gqFF, r_gqTF, r_gqFT, r_not, r_lss, r_leq, r_gtr, r_geq, r_eql, r_neq, r_add, r_sub, r_min2, r_max2, r_min3, r_max3, r_fa, r_iaS, r_iaA, r_ex2a, r_ex2b, r_ex3a, r_ex3b, r_ex3c, r_nc, r_keepE, Nat.zero_add, Nat.add_zero, Nat.mul_one, Int.toNat_natCast, toNat_sub1, toNat_add1, decide_true, decide_false, Bool.not_true, Bool.not_false, if_true, if_false, Bool.false_eq_true, reduceCtorEq, bd68]
    refine r_pushLozAt hLz (by rw [List.length_append, List.length_append, hlen0, hlen1]; simp; omega) hkz.size fun v' w' ho' hcg hat => ?_
    try simp (disch := omega) only [r_ln, r_pick, r_pickT, r_pickF, r_condT, r_condF, r_gdTT, r_gdFF, r_gdTF, r_gdFT, r_gqTT, r_gqFF, r_gqTF, r_gqFT, r_not, r_lss, r_leq, r_gtr, r_geq, r_eql, r_neq, r_add, r_sub, r_min2, r_max2, r_min3, r_max3, r_fa, r_iaS, r_iaA, r_ex2a, r_ex2b, r_ex3a, r_ex3b, r_ex3c, r_nc, r_keepE, Nat.zero_add, Nat.add_zero, Nat.mul_one, Int.toNat_natCast, toNat_sub1, toNat_add1, decide_true, decide_false, Bool.not_true, Bool.not_false, if_true, if_false, Bool.false_eq_true, reduceCtorEq]
    have hsw := hcg.size
    refine ⟨⟨k + 1, by omega, by go_num, Kp.of_chg hkz hcg fun q hq => (World.ownsRow.lt hLz q hq).1, by omega, hoz.chg hcg (fun e => by have := hapz _ e; omega) (fun q hq e => by have := hapz _ e; have := blt q hq; have := hbs q hq; omega), ?_, ?_⟩, by simp only [intOf]; omega⟩
    · intro q hq
      rcases hat with e | ⟨b, e, hbl⟩
      · rw [e] at hq; exact hapz q hq
      · rw [e] at hq; cases hq; right; omega
    · rw [range_map_succ, ← List.append_assoc]
      exact ho'
  have hkl' : ¬ (k : Int) < (c : Int) := by omega
  have ek : k = c := by omega
  subst ek
  simp (disch := omega) only [r_ln, r_pick, r_pickT, r_pickF, r_condT, r_condF, r_gdTT, r_gdFF, r_gdTF, r_gdFT, r_gqTT, r_gqFF, r_gqTF, r_gqFT, r_not, r_lss, r_leq, r_gtr, r_geq, r_eql, r_neq, r_add, r_sub, r_min2, r_max2, r_min3, r_max3, r_fa, r_iaS, r_iaA, r_ex2a, r_ex2b, r_ex3a, r_ex3b, r_ex3c, r_nc, r_keepE, Nat.zero_add, Nat.add_zero, Nat.mul_one, Int.toNat_natCast, toNat_sub1, toNat_add1, decide_true, decide_false, Bool.not_true, Bool.not_false, if_true, if_false, Bool.false_eq_true, reduceCtorEq, r_ld c2, hkl']
  refine ⟨⟨j + 1, by omega, by go_num, hkz, hsz2, hoz, hapz, ?_⟩, by simp only [intOf]; omega⟩
  rw [fl_succ, ← List.append_assoc]
  exact hLz

end Go.Proofs.Ytaephdjmpmbfpaa

/- Contract: the program's sort of lozenges, by the shelf's contract of slices.SortFunc at structs. -/
namespace Go.Proofs.Ytaephdjmpmbfpaa
open Go.Lf Go.RowKit Go.Hp Go.Shelf Go.Proofs

def sortI_ren : Go.Shelf.Ren := ⟨fun | 6 => 78 | 15 => 92 | 14 => 91 | 28 => 104 | 29 => 105 | 20 => 96 | 21 => 97 | 22 => 98 | 23 => 99 | 24 => 100 | 25 => 101 | 26 => 102 | 27 => 103 | 46 => 106 | 47 => 107 | 48 => 108 | 49 => 109 | 50 => 110 | 57 => 111 | n => n, fun | 22 => 62 | 24 => 68 | 25 => 100 | 3 => 3 | 39 => 110 | 0 => 0 | 53 => 22 | 55 => 123 | 4 => 4 | 46 => 116 | 45 => 115 | 50 => 103 | 5 => 5 | 9 => 9 | 66 => 124 | 70 => 128 | 76 => 130 | 77 => 131 | n => n, fun n => n⟩
set_option maxRecDepth 100000 in
theorem sortI : SlLaysF0.n6 Try.prog sortI_ren :=
  { mixed := by kernel_rfl,
    f6 := ⟨Try.f78.name, by decide, Try.func78.trans (congrArg some (by kernel_rfl))⟩,
    f14 := ⟨Try.f91.name, by decide, Try.func91.trans (congrArg some (by kernel_rfl))⟩,
    f15 := Try.func92.trans (congrArg some (by kernel_rfl)),
    f20 := ⟨Try.f96.name, by decide, Try.func96.trans (congrArg some (by kernel_rfl))⟩,
    f21 := ⟨Try.f97.name, by decide, Try.func97.trans (congrArg some (by kernel_rfl))⟩,
    f22 := ⟨Try.f98.name, by decide, Try.func98.trans (congrArg some (by kernel_rfl))⟩,
    f23 := ⟨Try.f99.name, by decide, Try.func99.trans (congrArg some (by kernel_rfl))⟩,
    f24 := ⟨Try.f100.name, by decide, Try.func100.trans (congrArg some (by kernel_rfl))⟩,
    f25 := ⟨Try.f101.name, by decide, Try.func101.trans (congrArg some (by kernel_rfl))⟩,
    f26 := ⟨Try.f102.name, by decide, Try.func102.trans (congrArg some (by kernel_rfl))⟩,
    f27 := ⟨Try.f103.name, by decide, Try.func103.trans (congrArg some (by kernel_rfl))⟩,
    f28 := Try.func104.trans (congrArg some (by kernel_rfl)),
    f29 := Try.func105.trans (congrArg some (by kernel_rfl)),
    f46 := ⟨Try.f106.name, by decide, Try.func106.trans (congrArg some (by kernel_rfl))⟩,
    f47 := Try.func107.trans (congrArg some (by kernel_rfl)),
    f48 := Try.func108.trans (congrArg some (by kernel_rfl)),
    f49 := ⟨Try.f109.name, by decide, Try.func109.trans (congrArg some (by kernel_rfl))⟩,
    f50 := ⟨Try.f110.name, by decide, Try.func110.trans (congrArg some (by kernel_rfl))⟩,
    f57 := ⟨Try.f111.name, by decide, Try.func111.trans (congrArg some (by kernel_rfl))⟩,
    t0 := Try.underlying0,
    a0 := Try.isAgg0,
    z0 := Try.sizeOf0,
    v0 := Try.zeroValue0,
    t3 := Try.underlying3,
    a3 := Try.isAgg3,
    z3 := Try.sizeOf3,
    v3 := Try.zeroValue3,
    t4 := Try.underlying4,
    a4 := Try.isAgg4,
    z4 := Try.sizeOf4,
    v4 := Try.zeroValue4,
    t5 := Try.underlying5,
    a5 := Try.isAgg5,
    z5 := Try.sizeOf5,
    v5 := Try.zeroValue5,
    t9 := Try.underlying9,
    a9 := Try.isAgg9,
    z9 := Try.sizeOf9,
    v9 := Try.zeroValue9,
    t22 := Try.underlying62,
    a22 := Try.isAgg62,
    z22 := Try.sizeOf62,
    v22 := Try.zeroValue62,
    t25 := Try.underlying100,
    a25 := Try.isAgg100,
    z25 := Try.sizeOf100,
    v25 := Try.zeroValue100,
    t39 := Try.underlying110,
    a39 := Try.isAgg110,
    z39 := Try.sizeOf110,
    v39 := Try.zeroValue110,
    t45 := Try.underlying115,
    a45 := Try.isAgg115,
    z45 := Try.sizeOf115,
    v45 := Try.zeroValue115,
    t46 := Try.underlying116,
    a46 := Try.isAgg116,
    z46 := Try.sizeOf116,
    v46 := Try.zeroValue116,
    t50 := Try.underlying103,
    a50 := Try.isAgg103,
    z50 := Try.sizeOf103,
    v50 := Try.zeroValue103,
    t53 := Try.underlying22,
    a53 := Try.isAgg22,
    z53 := Try.sizeOf22,
    v53 := Try.zeroValue22,
    t55 := Try.underlying123,
    a55 := Try.isAgg123,
    z55 := Try.sizeOf123,
    v55 := Try.zeroValue123,
    t66 := Try.underlying124,
    a66 := Try.isAgg124,
    z66 := Try.sizeOf124,
    v66 := Try.zeroValue124,
    t70 := Try.underlying128,
    a70 := Try.isAgg128,
    z70 := Try.sizeOf128,
    v70 := Try.zeroValue128,
    t76 := Try.underlying130,
    a76 := Try.isAgg130,
    z76 := Try.sizeOf130,
    v76 := Try.zeroValue130,
    t77 := Try.underlying131,
    a77 := Try.isAgg131,
    z77 := Try.sizeOf131,
    v77 := Try.zeroValue131 }


def orI : List Int → Int
  | [] => 0
  | x :: l => if x = 0 then orI l else x

set_option maxRecDepth 100000 in
theorem or_calls (v : Value) (l : List Int) (w : World) (h : RdInts w v l) : Calls Try.prog 80 #[v] w fun e w' => e = .returned (.int .i64 (orI l)) ∧ w = w' := by
  obtain ⟨a, cap, rfl, hlen⟩ := h.len
  refine lift80 ?_
  unfold S80
  simp (disch := omega) only [r_ln, r_pick, r_pickT, r_pickF, r_condT, r_condF, r_gdTT, r_gdFF, r_gdTF, r_gdFT, r_gqTT, r_gqFF, r_gqTF, r_gqFT, r_not, r_lss, r_leq, r_gtr, r_geq, r_eql, r_neq, r_add, r_sub, r_min2, r_max2, r_min3, r_max3, r_fa, r_iaS, r_iaA, r_ex2a, r_ex2b, r_ex3a, r_ex3b, r_ex3c, r_nc, r_keepE, Nat.zero_add, Nat.add_zero, Nat.mul_one, Int.toNat_natCast, toNat_sub1, toNat_add1, decide_true, decide_false, Bool.not_true, Bool.not_false, if_true, if_false, Bool.false_eq_true, reduceCtorEq]
  refine ⟨fun t8 wr => ∃ j : Nat, j ≤ l.length ∧ t8 = .int .i64 j ∧ orI l = orI (l.drop j) ∧ w = wr, fun t8 _ => l.length - (intOf t8).toNat, ⟨0, by omega, rfl, rfl, rfl⟩, ?_⟩
  rintro _ _ _ ⟨j, hj, rfl, ho, rfl⟩
  by_cases hlt : j < l.length
  case neg =>
    have hlt' : ¬ (j : Int) < (l.length : Int) := by omega
    simp (disch := omega) only [r_ln, r_pick, r_pickT, r_pickF, r_condT, r_condF, r_gdTT, r_gdFF, r_gdTF, r_gdFT, r_gqTT, r_gqFF, r_gqTF, r_gqFT, r_not, r_lss, r_leq, r_gtr, r_geq, r_eql, r_neq, r_add, r_sub, r_min2, r_max2, r_min3, r_max3, r_fa, r_iaS, r_iaA, r_ex2a, r_ex2b, r_ex3a, r_ex3b, r_ex3c, r_nc, r_keepE, Nat.zero_add, Nat.add_zero, Nat.mul_one, Int.toNat_natCast, toNat_sub1, toNat_add1, decide_true, decide_false, Bool.not_true, Bool.not_false, if_true, if_false, Bool.false_eq_true, reduceCtorEq, hlt']
    rw [ho, List.drop_eq_nil_of_le (by omega)]
    exact ⟨rfl, trivial⟩
  have hlt' : (j : Int) < (l.length : Int) := by omega
  obtain ⟨b, off, _, e1, hc⟩ := h.at hlt
  cases e1
  have hd : orI (l.drop j) = if l.getD j 0 = 0 then orI (l.drop (j + 1)) else l.getD j 0 := by
    rw [List.drop_eq_getElem_cons hlt, orI, getD_lt _ _ _ hlt]
  by_cases hx : l.getD j 0 = 0
  · rw [if_pos hx] at hd
    simp (disch := omega) only [r_ln, r_pick, r_pickT, r_pickF, r_condT, r_condF, r_gdTT, r_gdFF, r_gdTF, r_gdFT, r_gqTT, r_gqFF, r_gqTF, r_gqFT, r_not, r_lss, r_leq, r_gtr, r_geq, r_eql, r_neq, r_add, r_sub, r_min2, r_max2, r_min3, r_max3, r_fa, r_iaS, r_iaA, r_ex2a, r_ex2b, r_ex3a, r_ex3b, r_ex3c, r_nc, r_keepE, Nat.zero_add, Nat.add_zero, Nat.mul_one, Int.toNat_natCast, toNat_sub1, toNat_add1, decide_true, decide_false, Bool.not_true, Bool.not_false, if_true, if_false, Bool.false_eq_true, reduceCtorEq, hlt', r_ld hc, decide_eq_true hx]
    exact ⟨⟨j + 1, by omega, by go_num, by rw [ho, hd], trivial⟩, by simp only [intOf]; omega⟩
  · rw [if_neg hx] at hd
    simp (disch := omega) only [r_ln, r_pick, r_pickT, r_pickF, r_condT, r_condF, r_gdTT, r_gdFF, r_gdTF, r_gdFT, r_gqTT, r_gqFF, r_gqTF, r_gqFT, r_not, r_lss, r_leq, r_gtr, r_geq, r_eql, r_neq, r_add, r_sub, r_min2, r_max2, r_min3, r_max3, r_fa, r_iaS, r_iaA, r_ex2a, r_ex2b, r_ex3a, r_ex3b, r_ex3c, r_nc, r_keepE, Nat.zero_add, Nat.add_zero, Nat.mul_one, Int.toNat_natCast, toNat_sub1, toNat_add1, decide_true, decide_false, Bool.not_true, Bool.not_false, if_true, if_false, Bool.false_eq_true, reduceCtorEq, hlt', r_ld hc, hx]
    rw [ho, hd]
    exact ⟨rfl, trivial⟩

def cmpZ (p q : Loz) : Int := orI [cmpI p.1 q.1, cmpI p.2.1 q.2.1, cmpI p.2.2 q.2.2]

theorem ltOf_cmpZ : ltOf cmpZ = lzLt := by
  funext p q
  unfold ltOf lzLt cmpZ
  rw [decide_eq_decide]
  simp only [orI, cmpI]
  by_cases h1 : p.1 < q.1
  · simp [h1]
  · by_cases h2 : q.1 < p.1
    · simp [h1, h2]; omega
    · have e1 : p.1 = q.1 := by omega
      by_cases h3 : p.2.1 < q.2.1
      · simp [e1, h3]
      · by_cases h4 : q.2.1 < p.2.1
        · simp [e1, h3, h4]; omega
        · have e2 : p.2.1 = q.2.1 := by omega
          by_cases h5 : p.2.2 < q.2.2
          · simp [e1, e2, h5]
          · by_cases h6 : q.2.2 < p.2.2
            · simp [e1, e2, h5, h6]
            · simp [e1, e2, h5, h6]

theorem swoL : Go.Sort.SWO (ltOf cmpZ) := by
  rw [ltOf_cmpZ]
  exact ⟨fun x => by rw [lzLt_not]; omega, fun x y z h1 h2 => by rw [lzLt_iff] at *; omega, fun x y z h1 h2 => lzLe_trans h2 h1⟩

theorem bs36x3 (x y z : Int) (w : World) (K : Value → World → Prop) : bsW Try.prog 36 3 [(0, .int .i64 x), (1, .int .i64 y), (2, .int .i64 z)] w K = K (.slice (some ⟨w.heap.size, 0, none⟩) 3 3) (w.alloc (.cells #[.int .i64 x, .int .i64 y, .int .i64 z] 3)) := by kernel_rfl

set_option maxRecDepth 100000 in
theorem cmp79_calls (x y : Loz) (W : World) : Calls Try.prog 79 #[lozV x, lozV y] W fun e w' => e = .returned (.int .i64 (cmpZ x y)) ∧ ∃ q os, w' = Go.Sort.grow (W.drewN q) os := by
  refine lift79 ?_
  unfold S79
  simp only [boxW, Drew]
  have g1 : ((W.alloc (.cells (lozV x).cells 68)).alloc (.cells (lozV y).cells 68)).drew.heap[W.heap.size]? = some (.cells (lozV x).cells 68 (0, 0)) := block_below (heap_alloc_new W _) ((below_alloc _).drew)
  have g2 : ((W.alloc (.cells (lozV x).cells 68)).alloc (.cells (lozV y).cells 68)).drew.heap[(W.alloc (.cells (lozV x).cells 68)).heap.size]? = some (.cells (lozV y).cells 68 (0, 0)) := heap_alloc_new (W.alloc (.cells (lozV x).cells 68)) _
  obtain ⟨c0, c1, c2⟩ := loz3 g1
  obtain ⟨d0, d1, d2⟩ := loz3 g2
  simp (disch := omega) only [r_ln, r_pick, r_pickT, r_pickF, r_condT, r_condF, r_gdTT, r_gdFF, r_gdTF, r_gdFT, r_gqTT, r_gqFF, r_gqTF, r_gqFT, r_not, r_lss, r_leq, r_gtr, r_geq, r_eql, r_neq, r_add, r_sub, r_min2, r_max2, r_min3, r_max3, r_fa, r_iaS, r_iaA, r_ex2a, r_ex2b, r_ex3a, r_ex3b, r_ex3c, r_nc, r_keepE, Nat.zero_add, Nat.add_zero, Nat.mul_one, Int.toNat_natCast, toNat_sub1, toNat_add1, decide_true, decide_false, Bool.not_true, Bool.not_false, if_true, if_false, Bool.false_eq_true, reduceCtorEq, r_ld c0, r_ld c1, r_ld c2, r_ld d0, r_ld d1, r_ld d2]
  refine r_use fok81 (cmp_calls _ _ _) rfl ?_
  rintro _ _ ⟨rfl, rfl⟩
  refine ⟨_, rfl, Below.refl _ _, ?_⟩
  refine r_use fok81 (cmp_calls _ _ _) rfl ?_
  rintro _ _ ⟨rfl, rfl⟩
  refine ⟨_, rfl, Below.refl _ _, ?_⟩
  refine r_use fok81 (cmp_calls _ _ _) rfl ?_
  rintro _ _ ⟨rfl, rfl⟩
  refine ⟨_, rfl, ?_⟩
  rw [bs36x3]
  refine r_use fok80 (or_calls _ [cmpI x.1 y.1, cmpI x.2.1 y.2.1, cmpI x.2.2 y.2.2] _ ?_) rfl ?_
  · refine ⟨_, 3, rfl, by simp, fun _ => ⟨_, 0, rfl, fun i hi => ?_⟩⟩
    rw [Nat.zero_add, cell_row (heap_alloc_new _ _)]
    match i, hi with
    | 0, _ => rfl
    | 1, _ => rfl
    | 2, _ => rfl
  · rintro _ _ ⟨rfl, rfl⟩
    refine ⟨_, rfl, rfl, 1, #[Obj.cells (lozV x).cells 68, Obj.cells (lozV y).cells 68, Obj.cells #[.int .i64 (cmpI x.1 y.1), .int .i64 (cmpI x.2.1 y.2.1), .int .i64 (cmpI x.2.2 y.2.2)] 3], ?_⟩
    simp only [World.alloc, World.drew, Go.Sort.grow, World.drewN]
    congr 1

theorem lozC_one : ∀ x : Loz, ∀ v ∈ lozC x, v.oneCell' = true := by
  intro x v hv
  simp [lozC] at hv
  rcases hv with rfl | rfl | rfl <;> rfl

theorem lozCells_get : ∀ (P : List Loz) (t : Nat), t < P.length * 3 → (lozCells P)[t]? = (lozC (P.toArray[t / 3]!))[t % 3]? := by
  intro P t ht
  have hq : t / 3 < P.length := by omega
  have e : P[t / 3]? = some P[t / 3] := List.getElem?_eq_getElem hq
  have h := lozCells_drop P (t / 3) _ e
  have h2 : (((lozCells P).drop (t / 3 * 3)).take 3)[t % 3]? = (lozC P[t / 3])[t % 3]? := by rw [h]
  rw [List.getElem?_take, if_pos (Nat.mod_lt _ (by decide)), List.getElem?_drop, show t / 3 * 3 + t % 3 = t by omega] at h2
  rw [h2]
  simp [hq]

theorem flat_get (P : List Loz) (t : Nat) (ht : t < P.length * 3) : (lozCells P)[t]? = some (Go.Sort.flatK lozC 3 P.toArray)[t]! := by
  rw [Go.Sort.get_flatK _ _ _ _ (by simpa using ht), lozCells_get P t ht]
  have : t % 3 < 3 := Nat.mod_lt _ (by decide)
  generalize P.toArray[t / 3]! = p
  generalize t % 3 = r at *
  match r, this with
  | 0, _ => rfl
  | 1, _ => rfl
  | 2, _ => rfl

set_option maxRecDepth 100000 in
theorem sortf_calls {base : Nat} {v : Value} {P : List Loz} {w : World} (h : LozAt base w v P) (h0 : 0 < P.length) (hP : P.length ≤ 1000) :
    Calls Try.prog 78 #[v, .func (.func 79) #[] #[]] w fun e w' => e = .returned (.tuple #[]) ∧ LozAt base w' v (lzSort P) ∧ Chg (fun k => v.ownBlock = some k) w w' := by
  obtain ⟨g, cap, cur, rfl, hb, hg, hle, hm, hs, ht⟩ := h.blk h0
  have eg : ∀ args w, (callFunc 79 args).run Try.prog w = .ok (.enter 79 args) w := enters_of Try.func79 (by kernel_rfl) rfl
  have hH : Go.Sort.HoldsK lozC 3 w g 0 P.toArray := by
    intro j hj
    have hj' : j < P.length * 3 := by simpa using hj
    refine ⟨?_, by rw [Nat.zero_add]; exact frozen_row hg⟩
    rw [Nat.zero_add, cell_row hg]
    have e : cur.toList[j]? = (lozCells P)[j]? := by rw [← ht, List.getElem?_take, if_pos hj']
    rw [← Array.getElem?_toList, e, flat_get P j hj']
    rfl
  have hcon := AnyQ.slices_SortFunc sortI 3 Try.isAgg68 Try.sizeOf68 lozC (fun _ => rfl) lozC_one cmpZ swoL 79 #[] g 0 cap P.toArray w eg (fun _ _ _ _ x y => cmp79_calls x y _) hH (block_lt hg) (by simp; omega)
  have hsz : P.toArray.size = P.length := by simp
  rw [hsz] at hcon
  change Calls Try.prog 78 _ _ _ at hcon
  refine hcon.mono ?_
  rintro e w' ⟨rfl, d', n, os, hp, hso, rfl⟩
  have hdl : d'.size = P.length := by have := hp.1; simpa using this
  have hperm : d'.toList.Perm P := by
    have := hp.2.2
    have e1 : d'.extract 0 P.length = d' := by rw [← hdl]; simp
    have e2 : P.toArray.extract 0 P.length = P.toArray := by rw [← hsz]; simp
    rw [e1, e2] at this
    simpa using this
  have hsort : d'.toList = lzSort P := by
    refine lzSort_unique hperm ?_
    rw [List.pairwise_iff_getElem]
    intro i j hi hj hij
    have hi' : i < d'.size := by simpa using hi
    have hj' : j < d'.size := by simpa using hj
    have := hso i j (by omega) hij (by omega)
    rw [ltOf_cmpZ, getElem!_pos d' i hi', getElem!_pos d' j hj'] at this
    simpa using this
  have hHd := Go.Proofs.holdsK_sortWorldK_c lozC 3 w g 0 P.toArray d' n os hH (block_lt hg) (by simpa using hdl)
  have hblk : (sortWorldK lozC 3 w g 0 n d' os).heap[g]? = some (.cells (Go.Sort.putCells id 0 (Go.Sort.flatK lozC 3 d') cur) 68 (0, 0)) := by
    have hgl := block_lt hg
    show ((w.heap.modify g _) ++ os)[g]? = _
    rw [Array.getElem?_append_left (by simpa using hgl), Array.getElem?_modify, if_pos rfl, hg]
    rfl
  refine ⟨rfl, ⟨?_, .inr ⟨g, cap, _, ?_, hb, hblk, by rw [← hsort]; simp; omega, hm, by simp [Go.Sort.putCells, hs], ?_⟩⟩, ?_⟩
  · rw [lozCells_length]
  · rw [← hsort]; simp [hdl]
  · rw [← hsort]
    have hl2 : d'.toList.length = P.length := by simp [hdl]
    apply List.ext_getElem?
    intro t
    rw [hl2, List.getElem?_take]
    by_cases hlt : t < P.length * 3
    · rw [if_pos hlt, flat_get d'.toList t (by omega), Array.getElem?_toList]
      have := (hHd t (by simp [hdl]; omega)).1
      rw [Nat.zero_add, cell_row hblk] at this
      rw [this]
      rfl
    · rw [if_neg hlt, List.getElem?_eq_none (by rw [lozCells_length, hl2]; omega)]
  · refine ⟨rfl, rfl, rfl, ?_, fun k hk hn => ?_⟩
    · show _ ≤ ((w.heap.modify g _) ++ os).size
      simp
    · show ((w.heap.modify g _) ++ os)[k]? = _
      have hgk : ¬ g = k := fun e => hn (by rw [e]; rfl)
      rw [Array.getElem?_append_left (by simpa using hk), Array.getElem?_modify, if_neg hgk]
theorem fok78 : fnOk Try.prog 78 = true := by kernel_rfl

end Go.Proofs.Ytaephdjmpmbfpaa

/- Contract: Floor of the program. -/
namespace Go.Proofs.Ytaephdjmpmbfpaa
open Go.Lf Go.RowKit Go.Hp

set_option maxRecDepth 100000 in
set_option maxHeartbeats 1000000 in
theorem floor_calls (A B C : Int) (v : Value) (h : List (List Int)) (w : World) (hr : RdRows w v h) :
    Calls Try.prog 41 #[boxV A B C, v] w fun e w' => ∃ v' err, e = .returned (.tuple #[v', .int .i64 err]) ∧ Kp w w' ∧ FloorRes A B C h w w' v' err := by
  refine lift41 ?_
  unfold S41
  refine r_box fun b w1 hbw hsz hb hk => ?_
  rw [r_ldRow (n := 3) hb rfl]
  refine r_use fok47 (checked_calls A B C v h w1 (hr.below hk)) rfl ?_
  rintro _ w2 ⟨rfl, k2⟩
  refine ⟨_, rfl, ?_⟩
  have hk2 := Kp.trans hk k2
  have h20 : ¬ ((2 : Int) = 0) := by decide
  rcases heapErr_cases A B C h with he | he
  rotate_left
  · simp (disch := omega) only [r_ln, r_pick, r_pickT, r_pickF, r_condT, r_condF, r_gdTT, r_gdFF, r_gdTF, r_gdFT, r_gqTT, r_gqFF, r_gqTF, r_gqFT, r_not, r_lss, r_leq, r_gtr, r_geq, r_eql, r_neq, r_add, r_sub, r_min2, r_max2, r_min3, r_max3, r_fa, r_iaS, r_iaA, r_ex2a, r_ex2b, r_ex3a, r_ex3b, r_ex3c, r_nc, r_keepE, Nat.zero_add, Nat.add_zero, Nat.mul_one, Int.toNat_natCast, toNat_sub1, toNat_add1, decide_true, decide_false, Bool.not_true, Bool.not_false, if_true, if_false, Bool.false_eq_true, reduceCtorEq, he, h20]
    exact ⟨nilS, 2, rfl, hk2, he.symm, by rw [if_neg h20]⟩
  have hb2 := block_below hb k2
  simp (disch := omega) only [r_ln, r_pick, r_pickT, r_pickF, r_condT, r_condF, r_gdTT, r_gdFF, r_gdTF, r_gdFT, r_gqTT, r_gqFF, r_gqTF, r_gqFT, r_not, r_lss, r_leq, r_gtr, r_geq, r_eql, r_neq, r_add, r_sub, r_min2, r_max2, r_min3, r_max3, r_fa, r_iaS, r_iaA, r_ex2a, r_ex2b, r_ex3a, r_ex3b, r_ex3c, r_nc, r_keepE, Nat.zero_add, Nat.add_zero, Nat.mul_one, Int.toNat_natCast, toNat_sub1, toNat_add1, decide_true, decide_false, Bool.not_true, Bool.not_false, if_true, if_false, Bool.false_eq_true, reduceCtorEq, he, r_ldRow (n := 3) hb2 rfl]
  refine makes_trans A B C v h he w2 _ (hr.below hk2) fun vt w3 k3 ht => ?_
  obtain ⟨a, b', c, rfl, rfl, rfl, hA, hB, hC, hh⟩ := isHeap_of he
  simp only [Int.toNat_natCast] at ht
  have hs := sized_of hh
  have hk3 := Kp.trans hk2 k3
  have hb3 := block_below hb2 k3
  have hl1 := hs.1
  have hab : a * b' ≤ 16 := Nat.mul_le_mul hA.2 hB.2
  have htr := ht.rd
  have htl : (transM a b' h).length = b' := (tabM_sized b' a fun j i => hat h i j).1
  obtain ⟨va, vc, rfl, _⟩ := hr.len
  obtain ⟨ta, tc, rfl, _⟩ := htr.len
  simp (disch := omega) only [r_ln, r_pick, r_pickT, r_pickF, r_condT, r_condF, r_gdTT, r_gdFF, r_gdTF, r_gdFT, r_gqTT, r_gqFF, r_gqTF, r_gqFT, r_not, r_lss, r_leq, r_gtr, r_geq, r_eql, r_neq, r_add, r_sub, r_min2, r_max2, r_min3, r_max3, r_fa, r_iaS, r_iaA, r_ex2a, r_ex2b, r_ex3a, r_ex3b, r_ex3c, r_nc, r_keepE, Nat.zero_add, Nat.add_zero, Nat.mul_one, Int.toNat_natCast, toNat_sub1, toNat_add1, decide_true, decide_false, Bool.not_true, Bool.not_false, if_true, if_false, Bool.false_eq_true, reduceCtorEq, hl1, htl]
  refine ⟨fun t7 t30 wr => ∃ i : Nat, i ≤ a ∧ t30 = .int .i64 i ∧ Kp w3 wr ∧ LozAt w3.heap.size wr t7 ((List.range i).flatMap (fun i => (List.range b').map (z0 h i))), fun _ t30 _ => a - (intOf t30).toNat,
    ⟨0, by omega, rfl, Kp.refl _, LozAt.nil _ _⟩, ?_⟩
  rintro _ t7 _ wr ⟨i, hi, rfl, hkr, hL⟩
  have hlen0 := fl_len (fun i => (List.range b').map (z0 h i)) b' (fun i => by simp) i
  have hib : i * b' ≤ 16 := Nat.mul_le_mul (show i ≤ 4 by omega) hB.2
  by_cases hlt : i < a
  case pos =>
    have hlt' : (i : Int) < (a : Int) := by omega
    obtain ⟨sb, so, sc, rv, e1, hc, hrow⟩ := (hr.below (Kp.trans hk3 hkr)).row (i := i) (by omega)
    cases e1
    obtain ⟨ra, rc, rfl, _⟩ := hrow.len
    have hrl := hs.2 i hlt
    simp (disch := omega) only [r_ln, r_pick, r_pickT, r_pickF, r_condT, r_condF, r_gdTT, r_gdFF, r_gdTF, r_gdFT, r_gqTT, r_gqFF, r_gqTF, r_gqFT, r_not, r_lss, r_leq, r_gtr, r_geq, r_eql, r_neq, r_add, r_sub, r_min2, r_max2, r_min3, r_max3, r_fa, r_iaS, r_iaA, r_ex2a, r_ex2b, r_ex3a, r_ex3b, r_ex3c, r_nc, r_keepE, Nat.zero_add, Nat.add_zero, Nat.mul_one, Int.toNat_natCast, toNat_sub1, toNat_add1, decide_true, decide_false, Bool.not_true, Bool.not_false, if_true, if_false, Bool.false_eq_true, reduceCtorEq, hlt', r_ld hc, hrl]
    refine ⟨fun t7 t37 wq => ∃ j : Nat, j ≤ b' ∧ t37 = .int .i64 j ∧ Kp w3 wq ∧ LozAt w3.heap.size wq t7 ((List.range i).flatMap (fun i => (List.range b').map (z0 h i)) ++ (List.range j).map (z0 h i)), fun _ t37 _ => b' - (intOf t37).toNat,
      ⟨0, by omega, rfl, hkr, by simpa using hL⟩, ?_⟩
    rintro _ t7 _ wq ⟨j, hj, rfl, hkq, hLq⟩
    by_cases hjl : j < b'
    case pos =>
      have hjl' : (j : Int) < (b' : Int) := by omega
      obtain ⟨sb2, so2, sc2, rv2, e2, hc2, hrow2⟩ := (hr.below (Kp.trans hk3 hkq)).row (i := i) (by omega)
      cases e2
      obtain ⟨rb, ro, rcap, e3, hx⟩ := hrow.at (j := j) (by omega)
      cases e3
      have hx' : wq.cell? ⟨rb, ro + j, none⟩ = some (.int .i64 (hat h i j)) := by
        have hrq := hr.below (Kp.trans hk3 hkq)
        obtain ⟨sb3, so3, sc3, rv3, e4, hc3, hrow3⟩ := hrq.row (i := i) (by omega)
        cases e4
        have h1 := hr.row (i := i) (by omega)
        obtain ⟨sb4, so4, sc4, rv4, e5, hc4, hrow4⟩ := h1
        cases e5
        have g1 := cell_later (Kp.trans hk3 hkr) hc4
        rw [hc] at g1
        cases Option.some.inj g1
        have g2 := cell_later (Kp.trans hk3 hkq) hc4
        rw [hc3] at g2
        cases Option.some.inj g2
        obtain ⟨rb', ro', rcap', e6, hx6⟩ := hrow3.at (j := j) (by omega)
        cases e6
        exact hx6
      have p1 := hh.pos i j (by omega) (by omega)
      have p2 := hh.top i j (by omega) (by omega)
      simp (disch := omega) only [r_ln, r_pick, r_pickT, r_pickF, r_condT, r_condF, r_gdTT, r_gdFF, r_gdTF, r_gdFT, r_gqTT, r_gqFF, r_gqTF, r_gqFT, r_not, r_lss, r_leq, r_gtr, r_geq, r_eql, r_neq, r_add, r_sub, r_min2, r_max2, r_min3, r_max3, r_fa, r_iaS, r_iaA, r_ex2a, r_ex2b, r_ex3a, r_ex3b, r_ex3c, r_nc, r_keepE, Nat.zero_add, Nat.add_zero, Nat.mul_one, Int.toNat_natCast, toNat_sub1, toNat_add1, decide_true, decide_false, Bool.not_true, Bool.not_false, if_true, if_false, Bool.false_eq_true, reduceCtorEq, hjl', r_ld hx', bd68]
      refine r_pushLoz (w1 := w3) hLq (by rw [List.length_append, hlen0]; simp; omega) hkq fun v' w' ho' k' => ?_
      try simp (disch := omega) only [r_ln, r_pick, r_pickT, r_pickF, r_condT, r_condF, r_gdTT, r_gdFF, r_gdTF, r_gdFT, r_gqTT, r_gqFF, r_gqTF, r_gqFT, r_not, r_lss, r_leq, r_gtr, r_geq, r_eql, r_neq, r_add, r_sub, r_min2, r_max2, r_min3, r_max3, r_fa, r_iaS, r_iaA, r_ex2a, r_ex2b, r_ex3a, r_ex3b, r_ex3c, r_nc, r_keepE, Nat.zero_add, Nat.add_zero, Nat.mul_one, Int.toNat_natCast, toNat_sub1, toNat_add1, decide_true, decide_false, Bool.not_true, Bool.not_false, if_true, if_false, Bool.false_eq_true, reduceCtorEq]
      refine ⟨⟨j + 1, by omega, by go_num, k', ?_⟩, by simp only [intOf]; omega⟩
      rw [range_map_succ, ← List.append_assoc]
      exact ho'
    have hjl' : ¬ (j : Int) < (b' : Int) := by omega
    have ej : j = b' := by omega
    subst ej
    simp (disch := omega) only [r_ln, r_pick, r_pickT, r_pickF, r_condT, r_condF, r_gdTT, r_gdFF, r_gdTF, r_gdFT, r_gqTT, r_gqFF, r_gqTF, r_gqFT, r_not, r_lss, r_leq, r_gtr, r_geq, r_eql, r_neq, r_add, r_sub, r_min2, r_max2, r_min3, r_max3, r_fa, r_iaS, r_iaA, r_ex2a, r_ex2b, r_ex3a, r_ex3b, r_ex3c, r_nc, r_keepE, Nat.zero_add, Nat.add_zero, Nat.mul_one, Int.toNat_natCast, toNat_sub1, toNat_add1, decide_true, decide_false, Bool.not_true, Bool.not_false, if_true, if_false, Bool.false_eq_true, reduceCtorEq, hjl']
    refine ⟨⟨i + 1, by omega, by go_num, hkq, ?_⟩, by simp only [intOf]; omega⟩
    rw [fl_succ]
    exact hLq
  have hlt' : ¬ (i : Int) < (a : Int) := by omega
  have ei : i = a := by omega
  subst ei
  obtain ⟨c0, c1, c2⟩ := box3 (block_below hb3 hkr)
  simp (disch := omega) only [r_ln, r_pick, r_pickT, r_pickF, r_condT, r_condF, r_gdTT, r_gdFF, r_gdTF, r_gdFT, r_gqTT, r_gqFF, r_gqTF, r_gqFT, r_not, r_lss, r_leq, r_gtr, r_geq, r_eql, r_neq, r_add, r_sub, r_min2, r_max2, r_min3, r_max3, r_fa, r_iaS, r_iaA, r_ex2a, r_ex2b, r_ex3a, r_ex3b, r_ex3c, r_nc, r_keepE, Nat.zero_add, Nat.add_zero, Nat.mul_one, Int.toNat_natCast, toNat_sub1, toNat_add1, decide_true, decide_false, Bool.not_true, Bool.not_false, if_true, if_false, Bool.false_eq_true, reduceCtorEq, hlt', r_ld c2]
  refine ⟨fun t7 t56 wq => ∃ k : Nat, k ≤ c ∧ t56 = .int .i64 k ∧ Kp w3 wq ∧ LozAt w3.heap.size wq t7 ((List.range i).flatMap (fun i => (List.range b').map (z0 h i)) ++ (List.range k).flatMap (fun k => (List.range i).map (z1 h k) ++ (List.range b').map (z2 i b' h k))), fun _ t56 _ => c - (intOf t56).toNat,
    ⟨0, by omega, rfl, hkr, by simpa using hL⟩, ?_⟩
  rintro _ t7 _ wq ⟨k, hkc, rfl, hkq, hLq⟩
  have hlen1 := fl_len (fun k => (List.range i).map (z1 h k) ++ (List.range b').map (z2 i b' h k)) (i + b') (fun i => by simp) k
  have hkab : k * (i + b') ≤ 32 := Nat.mul_le_mul (show k ≤ 4 by omega) (show i + b' ≤ 8 by omega)
  by_cases hkl : k < c
  case neg =>
    have hkl' : ¬ (k : Int) < (c : Int) := by omega
    have ek : k = c := by omega
    subst ek
    simp (disch := omega) only [r_ln, r_pick, r_pickT, r_pickF, r_condT, r_condF, r_gdTT, r_gdFF, r_gdTF, r_gdFT, r_gqTT, r_gqFF, r_gqTF, r_gqFT, r_not, r_lss, r_leq, r_gtr, r_geq, r_eql, r_neq, r_add, r_sub, r_min2, r_max2, r_min3, r_max3, r_fa, r_iaS, r_iaA, r_ex2a, r_ex2b, r_ex3a, r_ex3b, r_ex3c, r_nc, r_keepE, Nat.zero_add, Nat.add_zero, Nat.mul_one, Int.toNat_natCast, toNat_sub1, toNat_add1, decide_true, decide_false, Bool.not_true, Bool.not_false, if_true, if_false, Bool.false_eq_true, reduceCtorEq, hkl']
    have hfl : LozAt w3.heap.size wq t7 (floorP i b' k h) := hLq
    have h48 := floor_len48 hA.2 hB.2 hC.2
    have hpos : 0 < i * b' := Nat.mul_pos (by omega) (by omega)
    refine r_use fok78 (sortf_calls hfl (by rw [floorP_len]; omega) (by rw [floorP_len]; omega)) rfl ?_
    rintro _ w6 ⟨rfl, ho6, hc6⟩
    refine ⟨_, rfl, t7, 0, rfl, Kp.trans hk3 (Kp.of_chg hkq hc6 fun q hq => (World.ownsRow.lt hLq q hq).1), he.symm, ?_⟩
    simp only [if_true, Int.toNat_natCast]
    exact ho6.down hk3.size
  have hkl' : (k : Int) < (c : Int) := by omega
  simp (disch := omega) only [r_ln, r_pick, r_pickT, r_pickF, r_condT, r_condF, r_gdTT, r_gdFF, r_gdTF, r_gdFT, r_gqTT, r_gqFF, r_gqTF, r_gqFT, r_not, r_lss, r_leq, r_gtr, r_geq, r_eql, r_neq, r_add, r_sub, r_min2, r_max2, r_min3, r_max3, r_fa, r_iaS, r_iaA, r_ex2a, r_ex2b, r_ex3a, r_ex3b, r_ex3c, r_nc, r_keepE, Nat.zero_add, Nat.add_zero, Nat.mul_one, Int.toNat_natCast, toNat_sub1, toNat_add1, decide_true, decide_false, Bool.not_true, Bool.not_false, if_true, if_false, Bool.false_eq_true, reduceCtorEq, hkl']
  refine ⟨fun t7 t61 wz => ∃ p : Nat, p ≤ i ∧ t61 = .int .i64 p ∧ Kp w3 wz ∧ LozAt w3.heap.size wz t7 ((List.range i).flatMap (fun i => (List.range b').map (z0 h i)) ++ (List.range k).flatMap (fun k => (List.range i).map (z1 h k) ++ (List.range b').map (z2 i b' h k)) ++ (List.range p).map (z1 h k)), fun _ t61 _ => i - (intOf t61).toNat,
    ⟨0, by omega, rfl, hkq, by simpa using hLq⟩, ?_⟩
  rintro _ t7 _ wz ⟨p, hp, rfl, hkz, hLz⟩
  by_cases hpl : p < i
  case pos =>
    have hpl' : (p : Int) < (i : Int) := by omega
    obtain ⟨sb, so, sc, rv, e1, hc, hrow⟩ := (hr.below (Kp.trans hk3 hkz)).row (i := p) (by omega)
    cases e1
    simp (disch := omega) only [r_ln, r_pick, r_pickT, r_pickF, r_condT, r_condF, r_gdTT, r_gdFF, r_gdTF, r_gdFT, r_gqTT, r_gqFF, r_gqTF, r_gqFT, r_not, r_lss, r_leq, r_gtr, r_geq, r_eql, r_neq, r_add, r_sub, r_min2, r_max2, r_min3, r_max3, r_fa, r_iaS, r_iaA, r_ex2a, r_ex2b, r_ex3a, r_ex3b, r_ex3c, r_nc, r_keepE, Nat.zero_add, Nat.add_zero, Nat.mul_one, Int.toNat_natCast, toNat_sub1, toNat_add1, decide_true, decide_false, Bool.not_true, Bool.not_false, if_true, if_false, Bool.false_eq_true, reduceCtorEq, hpl', r_ld hc]
    refine r_use fok77 (higher_calls _ _ k wz hrow) rfl ?_
    rintro _ _ ⟨rfl, rfl⟩
    refine ⟨_, rfl, ?_⟩
    have hcl := cnt_le (h.getD p []) k
    rw [hs.2 p hpl] at hcl
    simp (disch := omega) only [r_ln, r_pick, r_pickT, r_pickF, r_condT, r_condF, r_gdTT, r_gdFF, r_gdTF, r_gdFT, r_gqTT, r_gqFF, r_gqTF, r_gqFT, r_not, r_lss, r_leq, r_gtr, r_geq, r_eql, r_neq, r_add, r_sub, r_min2, r_max2, r_min3, r_max3, r_fa, r_iaS, r_iaA, r_ex2a, r_ex2b, r_ex3a, r_ex3b, r_ex3c, r_nc, r_keepE, Nat.zero_add, Nat.add_zero, Nat.mul_one, Int.toNat_natCast, toNat_sub1, toNat_add1, decide_true, decide_false, Bool.not_true, Bool.not_false, if_true, if_false, Bool.false_eq_true, reduceCtorEq, bd68]
    refine r_pushLoz (w1 := w3) hLz (by rw [List.length_append, List.length_append, hlen0, hlen1]; simp; omega) hkz fun v' w' ho' k' => ?_
    try simp (disch := omega) only [r_ln, r_pick, r_pickT, r_pickF, r_condT, r_condF, r_gdTT, r_gdFF, r_gdTF, r_gdFT, r_gqTT, r_gqFF, r_gqTF, r_gqFT, r_not, r_lss, r_leq, r_gtr, r_geq, r_eql, r_neq, r_add, r_sub, r_min2, r_max2, r_min3, r_max3, r_fa, r_iaS, r_iaA, r_ex2a, r_ex2b, r_ex3a, r_ex3b, r_ex3c, r_nc, r_keepE, Nat.zero_add, Nat.add_zero, Nat.mul_one, Int.toNat_natCast, toNat_sub1, toNat_add1, decide_true, decide_false, Bool.not_true, Bool.not_false, if_true, if_false, Bool.false_eq_true, reduceCtorEq]
    refine ⟨⟨p + 1, by omega, by go_num, k', ?_⟩, by simp only [intOf]; omega⟩
    rw [range_map_succ, ← List.append_assoc]
    exact ho'
  have hpl' : ¬ (p : Int) < (i : Int) := by omega
  have ep : p = i := by omega
  subst ep
  simp (disch := omega) only [r_ln, r_pick, r_pickT, r_pickF, r_condT, r_condF, r_gdTT, r_gdFF, r_gdTF, r_gdFT, r_gqTT, r_gqFF, r_gqTF, r_gqFT, r_not, r_lss, r_leq, r_gtr, r_geq, r_eql, r_neq, r_add, r_sub, r_min2, r_max2, r_min3, r_max3, r_fa, r_iaS, r_iaA, r_ex2a, r_ex2b, r_ex3a, r_ex3b, r_ex3c, r_nc, r_keepE, Nat.zero_add, Nat.add_zero, Nat.mul_one, Int.toNat_natCast, toNat_sub1, toNat_add1, decide_true, decide_false, Bool.not_true, Bool.not_false, if_true, if_false, Bool.false_eq_true, reduceCtorEq, hpl', htl]
  refine ⟨fun t7 t81 wz => ∃ j : Nat, j ≤ b' ∧ t81 = .int .i64 j ∧ Kp w3 wz ∧ LozAt w3.heap.size wz t7 ((List.range p).flatMap (fun i => (List.range b').map (z0 h i)) ++ (List.range k).flatMap (fun k => (List.range p).map (z1 h k) ++ (List.range b').map (z2 p b' h k)) ++ (List.range p).map (z1 h k) ++ (List.range j).map (z2 p b' h k)), fun _ t81 _ => b' - (intOf t81).toNat,
    ⟨0, by omega, rfl, hkz, by simpa using hLz⟩, ?_⟩
  rintro _ t7 _ wz ⟨j, hj, rfl, hkz, hLz⟩
  by_cases hjl : j < b'
  case pos =>
    have hjl' : (j : Int) < (b' : Int) := by omega
    obtain ⟨sb, so, sc, rv, e1, hc, hrow⟩ := (htr.below hkz).row (i := j) (by omega)
    rw [htl] at e1
    cases e1
    simp (disch := omega) only [r_ln, r_pick, r_pickT, r_pickF, r_condT, r_condF, r_gdTT, r_gdFF, r_gdTF, r_gdFT, r_gqTT, r_gqFF, r_gqTF, r_gqFT, r_not, r_lss, r_leq, r_gtr, r_geq, r_eql, r_neq, r_add, r_sub, r_min2, r_max2, r_min3, r_max3, r_fa, r_iaS, r_iaA, r_ex2a, r_ex2b, r_ex3a, r_ex3b, r_ex3c, r_nc, r_keepE, Nat.zero_add, Nat.add_zero, Nat.mul_one, Int.toNat_natCast, toNat_sub1, toNat_add1, decide_true, decide_false, Bool.not_true, Bool.not_false, if_true, if_false, Bool.false_eq_true, reduceCtorEq, hjl', r_ld hc]
    refine r_use fok77 (higher_calls _ _ k wz hrow) rfl ?_
    rintro _ _ ⟨rfl, rfl⟩
    refine ⟨_, rfl, ?_⟩
    have hcl := cnt_le ((transM p b' h).getD j []) k
    have htr2 := trans_row (A := p) (B := b') (j := j) (h := h)
    simp (disch := omega) only [r_ln, r_pick, r_pickT, r_pickF, r_condT, r_condF, r_gdTT, r_gdFF, r_gdTF, r_gdFT, r_gqTT, r_gqFF, r_gqTF, r_gqFT, r_not, r_lss, r_leq, r_gtr, r_geq, r_eql, r_neq, r_add, r_sub, r_min2, r_max2, r_min3, r_max3, r_fa, r_iaS, r_iaA, r_ex2a, r_ex2b, r_ex3a, r_ex3b, r_ex3c, r_nc, r_keepE, Nat.zero_add, Nat.add_zero, Nat.mul_one, Int.toNat_natCast, toNat_sub1, toNat_add1, decide_true, decide_false, Bool.not_true, Bool.not_false, if_true, if_false, Bool.false_eq_true, reduceCtorEq, bd68]
    refine r_pushLoz (w1 := w3) hLz (by rw [List.length_append, List.length_append, List.length_append, hlen0, hlen1]; simp; omega) hkz fun v' w' ho' k' => ?_
    try simp (disch := omega) only [r_ln, r_pick, r_pickT, r_pickF, r_condT, r_condF, r_gdTT, r_gdFF, r_gdTF, r_gdFT, r_gqTT, r_gqFF, r_gqTF, r_gqFT, r_not, r_lss, r_leq, r_gtr, r_geq, r_eql, r_neq, r_add, r_sub, r_min2, r_max2, r_min3, r_max3, r_fa, r_iaS, r_iaA, r_ex2a, r_ex2b, r_ex3a, r_ex3b, r_ex3c, r_nc, r_keepE, Nat.zero_add, Nat.add_zero, Nat.mul_one, Int.toNat_natCast, toNat_sub1, toNat_add1, decide_true, decide_false, Bool.not_true, Bool.not_false, if_true, if_false, Bool.false_eq_true, reduceCtorEq]
    refine ⟨⟨j + 1, by omega, by go_num, k', ?_⟩, by simp only [intOf]; omega⟩
    rw [range_map_succ, ← List.append_assoc]
    exact ho'
  have hjl' : ¬ (j : Int) < (b' : Int) := by omega
  have ej : j = b' := by omega
  subst ej
  simp (disch := omega) only [r_ln, r_pick, r_pickT, r_pickF, r_condT, r_condF, r_gdTT, r_gdFF, r_gdTF, r_gdFT, r_gqTT, r_gqFF, r_gqTF, r_gqFT, r_not, r_lss, r_leq, r_gtr, r_geq, r_eql, r_neq, r_add, r_sub, r_min2, r_max2, r_min3, r_max3, r_fa, r_iaS, r_iaA, r_ex2a, r_ex2b, r_ex3a, r_ex3b, r_ex3c, r_nc, r_keepE, Nat.zero_add, Nat.add_zero, Nat.mul_one, Int.toNat_natCast, toNat_sub1, toNat_add1, decide_true, decide_false, Bool.not_true, Bool.not_false, if_true, if_false, Bool.false_eq_true, reduceCtorEq, hjl']
  refine ⟨⟨k + 1, by omega, by go_num, hkz, ?_⟩, by simp only [intOf]; omega⟩
  rw [fl_succ]
  simp only [List.append_assoc] at hLz ⊢
  exact hLz

end Go.Proofs.Ytaephdjmpmbfpaa
