/- Contracts: fixed, each, Fixed of the program. -/
import Derived.Test.YtaephdjmpmbfpaaR1
set_option linter.all false
namespace Go.Proofs.Ytaephdjmpmbfpaa
open Go.Lf Go.RowKit Go.Hp

/-- The number at row i, column j of padded rows. -/
def hatL (L : List (List Int)) (i j : Nat) : Int := (L.getD i []).getD j 0

def wantM (A B : Nat) (C how : Int) (L : List (List Int)) (i j : Nat) : Int :=
  if how = 1 then C - hatL L (A - 1 - i) (B - 1 - j) else if how = 2 then hatL L j i else if how = 3 then (cnt ((L.getD j []).take B) i : Nat) else if how = 4 then C - hatL L (B - 1 - j) (A - 1 - i) else hatL L i j

def fixOk (A B C how : Int) : Bool := validB A B C && decide (0 ≤ how ∧ how ≤ 4 ∧ ((how = 2 ∨ how = 4) → A = B) ∧ (how = 3 → A = B ∧ B = C))

/-- Padded rows: A of them, of four small numbers each. -/
structure Pad (A : Nat) (L : List (List Int)) : Prop where
  len : L.length = A
  four : ∀ i, i < A → (L.getD i []).length = 4
  small : ∀ i k, 0 ≤ (L.getD i []).getD k 0 ∧ (L.getD i []).getD k 0 ≤ 4

theorem pad_cell {A : Nat} {L : List (List Int)} (p : Pad A L) {i j : Nat} (hi : i < A) (hj : j < 4) : (L.flatMap intCells)[i * 4 + j]? = some (.int .i64 (hatL L i j)) := by
  have h := flat4 (rows := L) (fun r hr => by
    obtain ⟨q, hq, rfl⟩ := List.getElem_of_mem hr
    have := p.four q (by rw [← p.len]; exact hq)
    rwa [getD_lt _ _ _ hq] at this) (i := i) (by rw [p.len]; exact hi)
  have h2 : (((L.flatMap intCells).drop (i * 4)).take 4)[j]? = (intCells (L.getD i []))[j]? := by rw [h]
  rw [List.getElem?_take, if_pos hj, List.getElem?_drop] at h2
  rw [h2, intCells_get (by rw [p.four i hi]; exact hj)]
  rfl

theorem pad_flat_length {A : Nat} {L : List (List Int)} (p : Pad A L) : (L.flatMap intCells).length = A * 4 := by
  rw [List.length_flatMap]
  have e : L.map (fun r => (intCells r).length) = List.replicate A 4 := by
    refine List.ext_getElem (by simp [p.len]) fun i h1 h2 => ?_
    simp only [List.length_map] at h1
    have := p.four i (by rw [← p.len]; exact h1)
    rw [getD_lt _ _ _ h1] at this
    simp [intCells, this]
  rw [e]; simp

theorem pad_set {A : Nat} {L : List (List Int)} (p : Pad A L) {i : Nat} (hi : i < A) {r : List Int} (hr : r.length = 4) :
    (L.flatMap intCells).take (i * 4) ++ intCells r ++ (L.flatMap intCells).drop (i * 4 + 4) = (L.set i r).flatMap intCells := by
  have h4 : ∀ q ∈ L, q.length = 4 := fun q hq => by
    obtain ⟨k, hk, rfl⟩ := List.getElem_of_mem hq
    have := p.four k (by rw [← p.len]; exact hk)
    rwa [getD_lt _ _ _ hk] at this
  have hl : i < L.length := by rw [p.len]; exact hi
  clear p hi
  induction L generalizing i with
  | nil => simp at hl
  | cons q L ih =>
    have hq : (intCells q).length = 4 := by rw [intCells_length]; exact h4 q (by simp)
    cases i with
    | zero =>
      simp only [List.flatMap_cons, List.set_cons_zero, Nat.zero_mul, List.take_zero, List.nil_append, Nat.zero_add]
      rw [List.drop_append, hq, List.drop_eq_nil_of_le (by omega)]
      simp
    | succ i =>
      have := ih (i := i) (fun q hq => h4 q (by simp [hq])) (by simpa using hl)
      simp only [List.flatMap_cons, List.set_cons_succ]
      rw [← this, List.take_append, List.drop_append, hq, List.take_of_length_le (by omega), List.drop_eq_nil_of_le (by omega), show (i + 1) * 4 - 4 = i * 4 by omega, show (i + 1) * 4 + 4 - 4 = i * 4 + 4 by omega]
      simp

theorem getD_set {L : List (List Int)} {i : Nat} {r : List Int} (hi : i < L.length) (k : Nat) : (L.set i r).getD k [] = if k = i then r else L.getD k [] := by
  by_cases hk : k = i
  · subst hk; simp [List.getD_eq_getElem?_getD, hi]
  · simp [List.getD_eq_getElem?_getD, hk, List.getElem?_set_ne (Ne.symm hk)]

theorem Pad.set {A : Nat} {L : List (List Int)} (p : Pad A L) {i : Nat} (hi : i < A) {r : List Int} (hr : r.length = 4) (hs : ∀ k, 0 ≤ r.getD k 0 ∧ r.getD k 0 ≤ 4) : Pad A (L.set i r) := by
  have hl : i < L.length := by rw [p.len]; exact hi
  refine ⟨by simp [p.len], fun k hk => ?_, fun k m => ?_⟩
  · rw [getD_set hl]; split
    · exact hr
    · exact p.four k hk
  · rw [getD_set hl]; split
    · exact hs m
    · exact p.small k m

def fixP (A B : Nat) (C how : Int) (L : List (List Int)) : Prop := ∀ i, i < A → ∀ j, j < B → hatL L i j = wantM A B C how L i j
instance (A B : Nat) (C how : Int) (L : List (List Int)) : Decidable (fixP A B C how L) := by unfold fixP; infer_instance

theorem cut_sized {A B : Nat} {L : List (List Int)} (p : Pad A L) (hB : B ≤ 4) : Sized A B (L.map (·.take B)) := ⟨by simp [p.len], fun i hi => by
  have := p.four i hi
  have hl : i < L.length := by rw [p.len]; exact hi
  rw [getD_lt _ _ _ hl] at this
  simp [List.getD_eq_getElem?_getD, hl, this]; omega⟩
theorem cut_row {A B i : Nat} {L : List (List Int)} (p : Pad A L) (hi : i < A) : (L.map (·.take B)).getD i [] = (L.getD i []).take B := by
  have hl : i < L.length := by rw [p.len]; exact hi
  simp [List.getD_eq_getElem?_getD, hl]
theorem cut_hat {A B i j : Nat} {L : List (List Int)} (p : Pad A L) (hi : i < A) (hj : j < B) : hat (L.map (·.take B)) i j = hatL L i j := by
  unfold hat hatL
  rw [cut_row p hi]
  simp [List.getD_eq_getElem?_getD, List.getElem?_take, hj]

theorem tab_eq {r c : Nat} {F G : Nat → Nat → Int} : tabM r c F = tabM r c G ↔ ∀ i, i < r → ∀ j, j < c → F i j = G i j :=
  ⟨fun h i hi j hj => by rw [← tabM_hat (F := F) hi hj, h, tabM_hat hi hj], fun h => tabM_congr fun i j hi hj => h i hi j hj⟩

theorem fix_iff {A B C : Nat} {how : Int} {L : List (List Int)} (p : Pad A L) (hB : B ≤ 4) (hok : fixOk A B C how = true) : chM A B C (L.map (·.take B)) how = L.map (·.take B) ↔ fixP A B C how L := by
  have hs := cut_sized p hB
  simp only [fixOk, Bool.and_eq_true, decide_eq_true_eq] at hok
  obtain ⟨_, h0, h4, hab, habc⟩ := hok
  have key : ∀ F : Nat → Nat → Int, (∀ i j, i < A → j < B → F i j = wantM A B C how L i j) → (tabM A B F = L.map (·.take B) ↔ fixP A B C how L) := fun F hF => by
    rw [← tabM_self hs, tab_eq]
    unfold fixP
    constructor
    · intro h i hi j hj
      rw [← hF i j hi hj, h i hi j hj, cut_hat p hi hj]
    · intro h i hi j hj
      rw [hF i j hi hj, ← h i hi j hj, cut_hat p hi hj]
  unfold chM
  by_cases e1 : how = 1
  · rw [if_pos e1]
    refine key _ fun i j hi hj => ?_
    rw [cut_hat p (by omega) (by omega), wantM, if_pos e1]
  rw [if_neg e1]
  by_cases e2 : how = 2
  · rw [if_pos e2]
    have hAB : A = B := by have := hab (.inl e2); omega
    subst hAB
    refine key _ fun i j hi hj => ?_
    rw [cut_hat p (by omega) (by omega), wantM, if_neg e1, if_pos e2]
  rw [if_neg e2]
  by_cases e3 : how = 3
  · rw [if_pos e3]
    have hABC := habc e3
    have hAB : A = B := by omega
    have hBC : B = C := by omega
    subst hAB
    subst hBC
    refine key _ fun i j hi hj => ?_
    rw [cut_row p hj, wantM, if_neg e1, if_neg e2, if_pos e3]
  rw [if_neg e3]
  by_cases e4 : how = 4
  · rw [if_pos e4]
    have hAB : A = B := by have := hab (.inr e4); omega
    subst hAB
    refine key _ fun i j hi hj => ?_
    rw [transM, tabM_hat (by omega) (by omega), cut_hat p (by omega) (by omega), wantM, if_neg e1, if_neg e2, if_neg e3, if_pos e4]
  rw [if_neg e4]
  constructor
  · intro _ i hi j hj
    rw [wantM, if_neg e1, if_neg e2, if_neg e3, if_neg e4]
  · intro _; rfl

theorem r_slAat {b o : Nat} {K : Value → Prop} : ∀ (n : Nat), n ≤ 4 → slA 4 1 (.pointer (some ⟨b, o, none⟩)) none (some (.int .i64 (n : Int))) K = K (.slice (some ⟨b, o, none⟩) n 4)
  | 0, _ => rfl
  | 1, _ => rfl
  | 2, _ => rfl
  | 3, _ => rfl
  | 4, _ => rfl

theorem rd_at {w : World} {b o n : Nat} {t : TypeId} {fr : Nat × Nat} {cs : Array Value} {r : List Int} (h : w.heap[b]? = some (.cells cs t fr)) (hc : ∀ j, j < n → cs[o + j]? = some (.int .i64 (r.getD j 0))) (hn : n ≤ r.length) (h4 : r.length ≤ 4) : RdInts w (.slice (some ⟨b, o, none⟩) n 4) (r.take n) := by
  have hl : (r.take n).length = n := by simp; omega
  refine ⟨_, 4, by rw [hl], by omega, fun _ => ⟨b, o, rfl, fun i hi => ?_⟩⟩
  rw [hl] at hi
  rw [cell_row h, hc i hi]
  simp [List.getD_eq_getElem?_getD, List.getElem?_take, hi]

theorem pad_read {w : World} {g A i j : Nat} {L : List (List Int)} (p : Pad A L) (hg : w.heap[g]? = some (.cells (L.flatMap intCells).toArray 80 (0, 0))) (hi : i < A) (hj : j < 4) : w.cell? ⟨g, 0 + i * 4 + j * 1, none⟩ = some (.int .i64 (hatL L i j)) := by
  rw [cell_row hg, show 0 + i * 4 + j * 1 = i * 4 + j by omega]
  simpa using pad_cell p hi hj

set_option maxRecDepth 100000 in
theorem want_calls {A B C : Nat} {how : Int} {L : List (List Int)} (p : Pad A L) (hA : 1 ≤ A ∧ A ≤ 4) (hB : 1 ≤ B ∧ B ≤ 4) (hC : 1 ≤ C ∧ C ≤ 4) (hok : fixOk A B C how = true) (i j bh bb bs g : Nat) (w : World) (hi : i < A) (hj : j < B)
    (gh : w.heap[bh]? = some (.cells #[.int .i64 how] 3 (0, 0))) (gb : w.heap[bb]? = some (.cells (boxV A B C).cells 25 (0, 0))) (gs : w.heap[bs]? = some (.cells #[.slice (some ⟨g, 0, none⟩) A A] 83 (0, 0))) (gg : w.heap[g]? = some (.cells (L.flatMap intCells).toArray 80 (0, 0))) :
    Calls Try.prog 76 #[.int .i64 i, .int .i64 j, ptrV bh, ptrV bb, ptrV bs] w fun e w' => e = .returned (.int .i64 (wantM A B C how L i j)) ∧ Kp w w' := by
  simp only [fixOk, Bool.and_eq_true, decide_eq_true_eq] at hok
  obtain ⟨_, h0, h4, hab, habc⟩ := hok
  have ch : w.cell? ⟨bh, 0, none⟩ = some (.int .i64 how) := by rw [cell_row gh]; rfl
  have hr : ∀ {w' : World}, Kp w w' → ∀ a b, a < A → b < 4 → w'.cell? ⟨g, 0 + a * 4 + b * 1, none⟩ = some (.int .i64 (hatL L a b)) := fun hk a b ha hb => pad_read p (block_below gg hk) ha hb
  refine lift76 ?_
  unfold S76
  by_cases e1 : how = 1
  · simp (disch := omega) only [r_ln, r_pick, r_pickT, r_pickF, r_condT, r_condF, r_gdTT, r_gdFF, r_gdTF, r_gdFT, r_gqTT, r_gqFF, r_gqTF, r_gqFT, r_not, r_lss, r_leq, r_gtr, r_geq, r_eql, r_neq, r_add, r_sub, r_min2, r_max2, r_min3, r_max3, r_fa, r_iaS, r_iaA, r_ex2a, r_ex2b, r_ex3a, r_ex3b, r_ex3c, r_nc, r_keepE, Nat.zero_add, Nat.add_zero, Nat.mul_one, Int.toNat_natCast, toNat_sub1, toNat_add1, decide_true, decide_false, Bool.not_true, Bool.not_false, if_true, if_false, Bool.false_eq_true, reduceCtorEq, r_ld ch, eq_true e1]
    refine r_drew fun w1 k1 _ => ?_
    obtain ⟨c0, c1, c2⟩ := box3 (block_below gb k1)
    have cs : w1.cell? ⟨bs, 0, none⟩ = some (.slice (some ⟨g, 0, none⟩) A A) := by rw [cell_row (block_below gs k1)]; rfl
    have x1 : ((A : Int) - 1 - i).toNat = A - 1 - i := by omega
    have x2 : ((B : Int) - 1 - j).toNat = B - 1 - j := by omega
    have hx := hr k1 (A - 1 - i) (B - 1 - j) (by omega) (by omega)
    have hsm := p.small (A - 1 - i) (B - 1 - j)
    rw [Nat.mul_one] at hx
    simp (disch := omega) only [r_ln, r_pick, r_pickT, r_pickF, r_condT, r_condF, r_gdTT, r_gdFF, r_gdTF, r_gdFT, r_gqTT, r_gqFF, r_gqTF, r_gqFT, r_not, r_lss, r_leq, r_gtr, r_geq, r_eql, r_neq, r_add, r_sub, r_min2, r_max2, r_min3, r_max3, r_fa, r_iaS, r_iaA, r_ex2a, r_ex2b, r_ex3a, r_ex3b, r_ex3c, r_nc, r_keepE, Nat.zero_add, Nat.add_zero, Nat.mul_one, Int.toNat_natCast, toNat_sub1, toNat_add1, decide_true, decide_false, Bool.not_true, Bool.not_false, if_true, if_false, Bool.false_eq_true, reduceCtorEq, r_ld c0, r_ld c1, r_ld c2, r_ld cs, x1, x2] at hx ⊢
    rw [r_ld hx]
    unfold hatL at *
    simp (disch := omega) only [r_ln, r_pick, r_pickT, r_pickF, r_condT, r_condF, r_gdTT, r_gdFF, r_gdTF, r_gdFT, r_gqTT, r_gqFF, r_gqTF, r_gqFT, r_not, r_lss, r_leq, r_gtr, r_geq, r_eql, r_neq, r_add, r_sub, r_min2, r_max2, r_min3, r_max3, r_fa, r_iaS, r_iaA, r_ex2a, r_ex2b, r_ex3a, r_ex3b, r_ex3c, r_nc, r_keepE, Nat.zero_add, Nat.add_zero, Nat.mul_one, Int.toNat_natCast, toNat_sub1, toNat_add1, decide_true, decide_false, Bool.not_true, Bool.not_false, if_true, if_false, Bool.false_eq_true, reduceCtorEq]
    exact ⟨by simp [wantM, hatL, *], k1⟩
  by_cases e2 : how = 2
  · have hAB := hab (.inl e2)
    have cs : w.cell? ⟨bs, 0, none⟩ = some (.slice (some ⟨g, 0, none⟩) A A) := by rw [cell_row gs]; rfl
    have hx := hr (Kp.refl w) j i (by omega) (by omega)
    rw [Nat.mul_one] at hx
    simp (disch := omega) only [r_ln, r_pick, r_pickT, r_pickF, r_condT, r_condF, r_gdTT, r_gdFF, r_gdTF, r_gdFT, r_gqTT, r_gqFF, r_gqTF, r_gqFT, r_not, r_lss, r_leq, r_gtr, r_geq, r_eql, r_neq, r_add, r_sub, r_min2, r_max2, r_min3, r_max3, r_fa, r_iaS, r_iaA, r_ex2a, r_ex2b, r_ex3a, r_ex3b, r_ex3c, r_nc, r_keepE, Nat.zero_add, Nat.add_zero, Nat.mul_one, Int.toNat_natCast, toNat_sub1, toNat_add1, decide_true, decide_false, Bool.not_true, Bool.not_false, if_true, if_false, Bool.false_eq_true, reduceCtorEq, r_ld ch, e1, eq_true e2, r_ld cs] at hx ⊢
    rw [r_ld hx]
    exact ⟨by simp [wantM, e2], Kp.refl _⟩
  by_cases e3 : how = 3
  · have hAB := habc e3
    simp (disch := omega) only [r_ln, r_pick, r_pickT, r_pickF, r_condT, r_condF, r_gdTT, r_gdFF, r_gdTF, r_gdFT, r_gqTT, r_gqFF, r_gqTF, r_gqFT, r_not, r_lss, r_leq, r_gtr, r_geq, r_eql, r_neq, r_add, r_sub, r_min2, r_max2, r_min3, r_max3, r_fa, r_iaS, r_iaA, r_ex2a, r_ex2b, r_ex3a, r_ex3b, r_ex3c, r_nc, r_keepE, Nat.zero_add, Nat.add_zero, Nat.mul_one, Int.toNat_natCast, toNat_sub1, toNat_add1, decide_true, decide_false, Bool.not_true, Bool.not_false, if_true, if_false, Bool.false_eq_true, reduceCtorEq, r_ld ch, e1, e2, eq_true e3]
    refine r_drew fun w1 k1 _ => ?_
    obtain ⟨c0, c1, c2⟩ := box3 (block_below gb k1)
    have cs : w1.cell? ⟨bs, 0, none⟩ = some (.slice (some ⟨g, 0, none⟩) A A) := by rw [cell_row (block_below gs k1)]; rfl
    have h44 := p.four j (by omega)
    have hrd : RdInts w1 (.slice (some ⟨g, 0 + j * 4, none⟩) B 4) ((L.getD j []).take B) := rd_at (r := L.getD j []) (block_below gg k1) (fun q hq => by
      have := pad_cell p (i := j) (j := q) (by omega) (by omega)
      rw [Nat.zero_add]
      simpa [hatL] using this) (by omega) (by omega)
    rw [Nat.zero_add] at hrd
    simp (disch := omega) only [r_ln, r_pick, r_pickT, r_pickF, r_condT, r_condF, r_gdTT, r_gdFF, r_gdTF, r_gdFT, r_gqTT, r_gqFF, r_gqTF, r_gqFT, r_not, r_lss, r_leq, r_gtr, r_geq, r_eql, r_neq, r_add, r_sub, r_min2, r_max2, r_min3, r_max3, r_fa, r_iaS, r_iaA, r_ex2a, r_ex2b, r_ex3a, r_ex3b, r_ex3c, r_nc, r_keepE, Nat.zero_add, Nat.add_zero, Nat.mul_one, Int.toNat_natCast, toNat_sub1, toNat_add1, decide_true, decide_false, Bool.not_true, Bool.not_false, if_true, if_false, Bool.false_eq_true, reduceCtorEq, r_ld c1, r_ld cs, r_slAat B hB.2]
    refine r_use fok77 (higher_calls _ _ i w1 hrd) rfl ?_
    rintro _ _ ⟨rfl, rfl⟩
    exact ⟨_, rfl, by simp [wantM, e3], k1⟩
  by_cases e4 : how = 4
  · have hAB := hab (.inr e4)
    simp (disch := omega) only [r_ln, r_pick, r_pickT, r_pickF, r_condT, r_condF, r_gdTT, r_gdFF, r_gdTF, r_gdFT, r_gqTT, r_gqFF, r_gqTF, r_gqFT, r_not, r_lss, r_leq, r_gtr, r_geq, r_eql, r_neq, r_add, r_sub, r_min2, r_max2, r_min3, r_max3, r_fa, r_iaS, r_iaA, r_ex2a, r_ex2b, r_ex3a, r_ex3b, r_ex3c, r_nc, r_keepE, Nat.zero_add, Nat.add_zero, Nat.mul_one, Int.toNat_natCast, toNat_sub1, toNat_add1, decide_true, decide_false, Bool.not_true, Bool.not_false, if_true, if_false, Bool.false_eq_true, reduceCtorEq, r_ld ch, e1, e2, e3, eq_true e4]
    refine r_drew fun w1 k1 _ => ?_
    obtain ⟨c0, c1, c2⟩ := box3 (block_below gb k1)
    have cs : w1.cell? ⟨bs, 0, none⟩ = some (.slice (some ⟨g, 0, none⟩) A A) := by rw [cell_row (block_below gs k1)]; rfl
    have x1 : ((B : Int) - 1 - j).toNat = B - 1 - j := by omega
    have x2 : ((A : Int) - 1 - i).toNat = A - 1 - i := by omega
    have hx := hr k1 (B - 1 - j) (A - 1 - i) (by omega) (by omega)
    have hsm := p.small (B - 1 - j) (A - 1 - i)
    rw [Nat.mul_one] at hx
    simp (disch := omega) only [r_ln, r_pick, r_pickT, r_pickF, r_condT, r_condF, r_gdTT, r_gdFF, r_gdTF, r_gdFT, r_gqTT, r_gqFF, r_gqTF, r_gqFT, r_not, r_lss, r_leq, r_gtr, r_geq, r_eql, r_neq, r_add, r_sub, r_min2, r_max2, r_min3, r_max3, r_fa, r_iaS, r_iaA, r_ex2a, r_ex2b, r_ex3a, r_ex3b, r_ex3c, r_nc, r_keepE, Nat.zero_add, Nat.add_zero, Nat.mul_one, Int.toNat_natCast, toNat_sub1, toNat_add1, decide_true, decide_false, Bool.not_true, Bool.not_false, if_true, if_false, Bool.false_eq_true, reduceCtorEq, r_ld c0, r_ld c1, r_ld c2, r_ld cs, x1, x2] at hx ⊢
    rw [r_ld hx]
    unfold hatL at *
    simp (disch := omega) only [r_ln, r_pick, r_pickT, r_pickF, r_condT, r_condF, r_gdTT, r_gdFF, r_gdTF, r_gdFT, r_gqTT, r_gqFF, r_gqTF, r_gqFT, r_not, r_lss, r_leq, r_gtr, r_geq, r_eql, r_neq, r_add, r_sub, r_min2, r_max2, r_min3, r_max3, r_fa, r_iaS, r_iaA, r_ex2a, r_ex2b, r_ex3a, r_ex3b, r_ex3c, r_nc, r_keepE, Nat.zero_add, Nat.add_zero, Nat.mul_one, Int.toNat_natCast, toNat_sub1, toNat_add1, decide_true, decide_false, Bool.not_true, Bool.not_false, if_true, if_false, Bool.false_eq_true, reduceCtorEq]
    exact ⟨by simp [wantM, hatL, *], k1⟩
  have cs : w.cell? ⟨bs, 0, none⟩ = some (.slice (some ⟨g, 0, none⟩) A A) := by rw [cell_row gs]; rfl
  have hx := hr (Kp.refl w) i j (by omega) (by omega)
  rw [Nat.mul_one] at hx
  simp (disch := omega) only [r_ln, r_pick, r_pickT, r_pickF, r_condT, r_condF, r_gdTT, r_gdFF, r_gdTF, r_gdFT, r_gqTT, r_gqFF, r_gqTF, r_gqFT, r_not, r_lss, r_leq, r_gtr, r_geq, r_eql, r_neq, r_add, r_sub, r_min2, r_max2, r_min3, r_max3, r_fa, r_iaS, r_iaA, r_ex2a, r_ex2b, r_ex3a, r_ex3b, r_ex3c, r_nc, r_keepE, Nat.zero_add, Nat.add_zero, Nat.mul_one, Int.toNat_natCast, toNat_sub1, toNat_add1, decide_true, decide_false, Bool.not_true, Bool.not_false, if_true, if_false, Bool.false_eq_true, reduceCtorEq, r_ld ch, e1, e2, e3, e4, r_ld cs] at hx ⊢
  rw [r_ld hx]
  exact ⟨by simp [wantM, e1, e2, e3, e4], Kp.refl _⟩

set_option maxRecDepth 100000 in
theorem fixed_calls {A B C : Nat} {how : Int} {L : List (List Int)} (p : Pad A L) (hA : 1 ≤ A ∧ A ≤ 4) (hB : 1 ≤ B ∧ B ≤ 4) (hC : 1 ≤ C ∧ C ≤ 4) (hok : fixOk A B C how = true) (bh bb bs g : Nat) (w : World)
    (gh : w.heap[bh]? = some (.cells #[.int .i64 how] 3 (0, 0))) (gb : w.heap[bb]? = some (.cells (boxV A B C).cells 25 (0, 0))) (gs : w.heap[bs]? = some (.cells #[.slice (some ⟨g, 0, none⟩) A A] 83 (0, 0))) (gg : w.heap[g]? = some (.cells (L.flatMap intCells).toArray 80 (0, 0))) :
    Calls Try.prog 75 #[boxV A B C, .slice (some ⟨g, 0, none⟩) A A, .func (.func 76) #[] #[ptrV bh, ptrV bb, ptrV bs]] w fun e w' => e = .returned (.bool (decide (fixP A B C how L))) ∧ Kp w w' := by
  refine lift75 ?_
  unfold S75
  refine r_box fun b3 w1 e3 s3 h3 k3 => ?_
  obtain ⟨c0, c1, c2⟩ := box3 h3
  simp (disch := omega) only [r_ln, r_pick, r_pickT, r_pickF, r_condT, r_condF, r_gdTT, r_gdFF, r_gdTF, r_gdFT, r_gqTT, r_gqFF, r_gqTF, r_gqFT, r_not, r_lss, r_leq, r_gtr, r_geq, r_eql, r_neq, r_add, r_sub, r_min2, r_max2, r_min3, r_max3, r_fa, r_iaS, r_iaA, r_ex2a, r_ex2b, r_ex3a, r_ex3b, r_ex3c, r_nc, r_keepE, Nat.zero_add, Nat.add_zero, Nat.mul_one, Int.toNat_natCast, toNat_sub1, toNat_add1, decide_true, decide_false, Bool.not_true, Bool.not_false, if_true, if_false, Bool.false_eq_true, reduceCtorEq, r_ld c0]
  refine ⟨fun t11 wr => ∃ i : Nat, i ≤ A ∧ t11 = .int .i64 i ∧ Kp w1 wr ∧ ∀ a, a < i → ∀ b, b < B → hatL L a b = wantM A B C how L a b, fun t11 _ => A - (intOf t11).toNat, ⟨0, by omega, rfl, Kp.refl _, fun a ha => absurd ha (by omega)⟩, ?_⟩
  rintro _ _ wr ⟨i, hi, rfl, hk, hprev⟩
  by_cases hlt : i < A
  case neg =>
    have hlt' : ¬ (i : Int) < (A : Int) := by omega
    simp (disch := omega) only [r_ln, r_pick, r_pickT, r_pickF, r_condT, r_condF, r_gdTT, r_gdFF, r_gdTF, r_gdFT, r_gqTT, r_gqFF, r_gqTF, r_gqFT, r_not, r_lss, r_leq, r_gtr, r_geq, r_eql, r_neq, r_add, r_sub, r_min2, r_max2, r_min3, r_max3, r_fa, r_iaS, r_iaA, r_ex2a, r_ex2b, r_ex3a, r_ex3b, r_ex3c, r_nc, r_keepE, Nat.zero_add, Nat.add_zero, Nat.mul_one, Int.toNat_natCast, toNat_sub1, toNat_add1, decide_true, decide_false, Bool.not_true, Bool.not_false, if_true, if_false, Bool.false_eq_true, reduceCtorEq, hlt']
    exact ⟨ret_bool (decide_eq_true fun a ha => hprev a (by omega)).symm, Kp.trans k3 hk⟩
  have hlt' : (i : Int) < (A : Int) := by omega
  obtain ⟨d0, d1, d2⟩ := box3 (block_below h3 hk)
  simp (disch := omega) only [r_ln, r_pick, r_pickT, r_pickF, r_condT, r_condF, r_gdTT, r_gdFF, r_gdTF, r_gdFT, r_gqTT, r_gqFF, r_gqTF, r_gqFT, r_not, r_lss, r_leq, r_gtr, r_geq, r_eql, r_neq, r_add, r_sub, r_min2, r_max2, r_min3, r_max3, r_fa, r_iaS, r_iaA, r_ex2a, r_ex2b, r_ex3a, r_ex3b, r_ex3c, r_nc, r_keepE, Nat.zero_add, Nat.add_zero, Nat.mul_one, Int.toNat_natCast, toNat_sub1, toNat_add1, decide_true, decide_false, Bool.not_true, Bool.not_false, if_true, if_false, Bool.false_eq_true, reduceCtorEq, hlt', r_ld d1]
  refine ⟨fun t16 wq => ∃ j : Nat, j ≤ B ∧ t16 = .int .i64 j ∧ Kp wr wq ∧ ∀ b, b < j → hatL L i b = wantM A B C how L i b, fun t16 _ => B - (intOf t16).toNat, ⟨0, by omega, rfl, Kp.refl _, by omega⟩, ?_⟩
  rintro _ _ wq ⟨j, hj, rfl, hkq, hpj⟩
  have hkwq := Kp.trans k3 (Kp.trans hk hkq)
  by_cases hjl : j < B
  case neg =>
    have hjl' : ¬ (j : Int) < (B : Int) := by omega
    simp (disch := omega) only [r_ln, r_pick, r_pickT, r_pickF, r_condT, r_condF, r_gdTT, r_gdFF, r_gdTF, r_gdFT, r_gqTT, r_gqFF, r_gqTF, r_gqFT, r_not, r_lss, r_leq, r_gtr, r_geq, r_eql, r_neq, r_add, r_sub, r_min2, r_max2, r_min3, r_max3, r_fa, r_iaS, r_iaA, r_ex2a, r_ex2b, r_ex3a, r_ex3b, r_ex3c, r_nc, r_keepE, Nat.zero_add, Nat.add_zero, Nat.mul_one, Int.toNat_natCast, toNat_sub1, toNat_add1, decide_true, decide_false, Bool.not_true, Bool.not_false, if_true, if_false, Bool.false_eq_true, reduceCtorEq, hjl']
    refine ⟨⟨i + 1, by omega, by go_num, Kp.trans hk hkq, fun a ha b hb => ?_⟩, by simp only [intOf]; omega⟩
    by_cases hai : a < i
    · exact hprev a hai b hb
    · have : a = i := by omega
      subst this
      exact hpj b (by omega)
  have hjl' : (j : Int) < (B : Int) := by omega
  simp (disch := omega) only [r_ln, r_pick, r_pickT, r_pickF, r_condT, r_condF, r_gdTT, r_gdFF, r_gdTF, r_gdFT, r_gqTT, r_gqFF, r_gqTF, r_gqFT, r_not, r_lss, r_leq, r_gtr, r_geq, r_eql, r_neq, r_add, r_sub, r_min2, r_max2, r_min3, r_max3, r_fa, r_iaS, r_iaA, r_ex2a, r_ex2b, r_ex3a, r_ex3b, r_ex3c, r_nc, r_keepE, Nat.zero_add, Nat.add_zero, Nat.mul_one, Int.toNat_natCast, toNat_sub1, toNat_add1, decide_true, decide_false, Bool.not_true, Bool.not_false, if_true, if_false, Bool.false_eq_true, reduceCtorEq, hjl']
  refine r_drew fun wx kx _ => ?_
  have hkx := Kp.trans hkwq kx
  have hx := pad_read p (block_below gg hkx) hlt (j := j) (by omega)
  rw [Nat.mul_one] at hx
  simp (disch := omega) only [r_ln, r_pick, r_pickT, r_pickF, r_condT, r_condF, r_gdTT, r_gdFF, r_gdTF, r_gdFT, r_gqTT, r_gqFF, r_gqTF, r_gqFT, r_not, r_lss, r_leq, r_gtr, r_geq, r_eql, r_neq, r_add, r_sub, r_min2, r_max2, r_min3, r_max3, r_fa, r_iaS, r_iaA, r_ex2a, r_ex2b, r_ex3a, r_ex3b, r_ex3c, r_nc, r_keepE, Nat.zero_add, Nat.add_zero, Nat.mul_one, Int.toNat_natCast, toNat_sub1, toNat_add1, decide_true, decide_false, Bool.not_true, Bool.not_false, if_true, if_false, Bool.false_eq_true, reduceCtorEq] at hx ⊢
  rw [r_ld hx]
  refine r_use fok76 (want_calls p hA hB hC hok i j bh bb bs g wx hlt hjl (block_below gh hkx) (block_below gb hkx) (block_below gs hkx) (block_below gg hkx)) rfl ?_
  rintro _ w5 ⟨rfl, k5⟩
  refine ⟨_, rfl, k5, ?_⟩
  by_cases he : hatL L i j = wantM A B C how L i j
  · simp (disch := omega) only [r_ln, r_pick, r_pickT, r_pickF, r_condT, r_condF, r_gdTT, r_gdFF, r_gdTF, r_gdFT, r_gqTT, r_gqFF, r_gqTF, r_gqFT, r_not, r_lss, r_leq, r_gtr, r_geq, r_eql, r_neq, r_add, r_sub, r_min2, r_max2, r_min3, r_max3, r_fa, r_iaS, r_iaA, r_ex2a, r_ex2b, r_ex3a, r_ex3b, r_ex3c, r_nc, r_keepE, Nat.zero_add, Nat.add_zero, Nat.mul_one, Int.toNat_natCast, toNat_sub1, toNat_add1, decide_true, decide_false, Bool.not_true, Bool.not_false, if_true, if_false, Bool.false_eq_true, reduceCtorEq, he]
    refine ⟨⟨j + 1, by omega, by go_num, Kp.trans hkq (Kp.trans kx k5), fun b hb => ?_⟩, by simp only [intOf]; omega⟩
    by_cases hbj : b < j
    · exact hpj b hbj
    · have : b = j := by omega
      subst this; exact he
  · simp (disch := omega) only [r_ln, r_pick, r_pickT, r_pickF, r_condT, r_condF, r_gdTT, r_gdFF, r_gdTF, r_gdFT, r_gqTT, r_gqFF, r_gqTF, r_gqFT, r_not, r_lss, r_leq, r_gtr, r_geq, r_eql, r_neq, r_add, r_sub, r_min2, r_max2, r_min3, r_max3, r_fa, r_iaS, r_iaA, r_ex2a, r_ex2b, r_ex3a, r_ex3b, r_ex3c, r_nc, r_keepE, Nat.zero_add, Nat.add_zero, Nat.mul_one, Int.toNat_natCast, toNat_sub1, toNat_add1, decide_true, decide_false, Bool.not_true, Bool.not_false, if_true, if_false, Bool.false_eq_true, reduceCtorEq, he]
    exact ⟨ret_bool (decide_eq_false fun h => he (h i hlt j hjl)).symm, Kp.trans hkx k5⟩

end Go.Proofs.Ytaephdjmpmbfpaa
