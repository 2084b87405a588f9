/- Texts of my own, merged by program: Kn Tr. -/
import Derived.Test.YtbekeccfjmoonaaDoorM38
import Derived.Test.YtbekeccfjmoonaaDoorM36
set_option linter.all false
/- The simplex run and exact covers. -/
namespace Go.Proofs.YtbekeccfjmoonaaDoor
open Go.Lf Go.RowKit Go.Ht Go.Dt

theorem sum_posE {f : List Int → Nat} : ∀ {L : List (List Int)}, 0 < (L.map f).sum → ∃ r ∈ L, 0 < f r
  | [], h => by simp at h
  | a :: L, h => by
    rw [List.map_cons, List.sum_cons] at h
    by_cases e : 0 < f a
    · exact ⟨a, List.mem_cons_self .., e⟩
    · obtain ⟨r, h1, h2⟩ := sum_posE (f := f) (L := L) (by omega)
      exact ⟨r, List.mem_cons_of_mem _ h1, h2⟩
theorem sum_posM {f : List Int → Nat} {r : List Int} : ∀ {L : List (List Int)}, r ∈ L → 0 < f r → 0 < (L.map f).sum
  | a :: L, h, hp => by
    rw [List.map_cons, List.sum_cons]
    rcases List.mem_cons.1 h with e | e
    · exact Nat.add_pos_left (e ▸ hp) _
    · exact Nat.add_pos_right _ (sum_posM e hp)

section
variable {RR : List (List Int)} {N C : Nat}
theorem mx_slack {c d : Nat} (hd : d < C) : mx RR N C c (N + d) = if c = d then 1 else 0 := by
  unfold mx
  rw [if_neg (by omega)]
  by_cases e : c = d
  · rw [if_pos (.inl (by omega)), if_pos e]
  · rw [if_neg (by omega), if_neg e]
theorem mx_last (c : Nat) : mx RR N C c (N + C) = 1 := by
  unfold mx
  rw [if_neg (by omega), if_pos (.inr rfl)]
theorem mx_put {c k i j : Nat} (hk : k < N) (hr : RR.getD k [] = [((i : Nat) : Int), ((j : Nat) : Int)]) (hij : i ≠ j) : mx RR N C c k = (if c = i then 1 else 0) + (if c = j then 1 else 0) := by
  unfold mx
  rw [if_pos hk, hr]
  by_cases e1 : c = i
  · rw [if_pos (by simp [e1]), if_pos e1, if_neg (by omega)]; rfl
  · by_cases e2 : c = j
    · rw [if_pos (by simp [e2]), if_neg e1, if_pos e2]; rfl
    · rw [if_neg (by simp; omega), if_neg e1, if_neg e2]; rfl

theorem tb0_inv : Sx.Inv N C (mx RR N C) (tb0 RR N C) := by
  refine ⟨fun i hi k hk => ?_, fun c d hc hd => ?_, fun i j hi hj => ?_, ⟨fun _ => 1, fun k hk => ?_⟩, fun i hi => ?_, fun i hi => ?_, fun i hi => ?_⟩
  · show mx RR N C i k = sumN (fun c => mx RR N C i (N + c) * mx RR N C c k) C
    rw [sum_congr (g := fun c => (if i = c then 1 else 0) * mx RR N C c k) fun c hc => by rw [mx_slack hc]]
    exact (Sx.sum_pick' (f := fun c => mx RR N C c k) hi).symm
  · show _ = sumN (fun i => mx RR N C i (N + c) * mx RR N C d (N + i)) C
    rw [sum_congr (g := fun i => (if i = c then 1 else 0) * (if d = i then 1 else 0)) fun i hi => by rw [mx_slack hc, mx_slack hi], Sx.sum_pick hc]
    by_cases e : c = d
    · rw [if_pos e, if_pos e.symm]
    · rw [if_neg e, if_neg fun h => e h.symm]
  · exact mx_slack hj
  · show (if k < N ∨ k = N + C then - sumN (fun i => mx RR N C i k) C else 0) = Sx.cost N C k - sumN (fun c => 1 * mx RR N C c k) C
    have e1 : sumN (fun c => 1 * mx RR N C c k) C = sumN (fun i => mx RR N C i k) C := sum_congr fun c _ => Int.one_mul _
    rw [e1]
    by_cases e : k < N ∨ k = N + C
    · have : Sx.cost N C k = 0 := by unfold Sx.cost; rw [if_neg (by omega)]
      rw [if_pos e, this]; omega
    · have h1 : Sx.cost N C k = 1 := by unfold Sx.cost; rw [if_pos (by omega)]
      obtain ⟨d, rfl⟩ : ∃ d, k = N + d := ⟨k - N, by omega⟩
      have h2 : sumN (fun i => mx RR N C i (N + d)) C = 1 := by
        rw [sum_one (c := d) (by omega) fun i hi hne => by rw [mx_slack (by omega), if_neg hne], mx_slack (by omega), if_pos rfl]
      rw [if_neg e, h1, h2]; rfl
  · show (if N + i < N ∨ N + i = N + C then - sumN (fun q => mx RR N C q (N + i)) C else 0) = 0
    rw [if_neg (by omega)]
  · show 0 ≤ mx RR N C i (N + C)
    rw [mx_last]; decide
  · show N + i < N + C
    omega

/-- An exact cover. -/
def Cover (RR : List (List Int)) (N C : Nat) (x : Nat → Int) : Prop := (∀ k, 0 ≤ x k) ∧ ∀ c, c < C → sumN (fun k => mx RR N C c k * x k) N = 1

theorem testBit_or2 (m i j c : Nat) : (m ||| (2 ^ i ||| 2 ^ j)).testBit c = (m.testBit c || (decide (i = c) || decide (j = c))) := by
  rw [Nat.testBit_or, Nat.testBit_or, Nat.testBit_two_pow, Nat.testBit_two_pow]

theorem cover_of_til (hPB : PairsB C RR) (hl : RR.length = N) : ∀ (n m : Nat), m < 2 ^ C → 2 ^ C - 1 ≤ n + m → 0 < til (2 ^ C - 1) RR m → ∃ x : Nat → Int, (∀ k, 0 ≤ x k) ∧ ∀ c, c < C → sumN (fun k => mx RR N C c k * x k) N = if m.testBit c = true then 0 else 1 := by
  have full : ∀ m, m = 2 ^ C - 1 → ∃ x : Nat → Int, (∀ k, 0 ≤ x k) ∧ ∀ c, c < C → sumN (fun k => mx RR N C c k * x k) N = if m.testBit c = true then 0 else 1 := fun m e => by
    refine ⟨fun _ => 0, fun _ => Int.le_refl _, fun c hc => ?_⟩
    rw [e, Nat.testBit_two_pow_sub_one, decide_eq_true hc, if_pos rfl]
    exact sum_none fun k _ => Int.mul_zero _
  intro n
  induction n with
  | zero => intro m hm h _; exact full m (by omega)
  | succ n ih =>
    intro m hm h hp
    by_cases hne : m = 2 ^ C - 1
    · exact full m hne
    rw [til_step hPB hm hne] at hp
    obtain ⟨r, hr, hp2⟩ := sum_posE hp
    obtain ⟨i, j, rfl, hi, hj, hij⟩ := hPB r hr
    rw [bits_two, or_bits] at hp2
    split at hp2
    case isFalse => omega
    rename_i hc
    rw [Bool.and_eq_true, Bool.and_eq_true] at hc
    have bi : m.testBit i = false := by simpa using hc.2.1
    have bj : m.testBit j = false := by simpa using hc.2.2
    obtain ⟨k, hk, hkr⟩ := List.getElem_of_mem hr
    have hkN : k < N := by omega
    have hrk : RR.getD k [] = [((i : Nat) : Int), ((j : Nat) : Int)] := by rw [getD_lt _ _ _ hk]; exact hkr
    have hgr := or_grow hm hi hj (by
      have := or_bits m i j
      rw [bi, bj] at this
      exact of_decide_eq_true this)
    obtain ⟨x, hx0, hx⟩ := ih _ hgr.2 (by omega) hp2
    refine ⟨fun q => x q + if q = k then 1 else 0, fun q => by
      show 0 ≤ x q + if q = k then 1 else 0
      have := hx0 q
      split <;> omega, fun c hc' => ?_⟩
    have e1 : sumN (fun q => mx RR N C c q * (x q + if q = k then 1 else 0)) N = sumN (fun q => mx RR N C c q * x q) N + mx RR N C c k := by
      have : sumN (fun q => mx RR N C c q * (x q + if q = k then 1 else 0)) N = sumN (fun q => mx RR N C c q * x q + (if q = k then 1 else 0) * mx RR N C c q) N := sum_congr fun q _ => by rw [Int.mul_add, Int.mul_comm (mx RR N C c q) (if q = k then 1 else 0)]
      rw [this, sum_add, Sx.sum_pick hkN]
    show sumN (fun q => mx RR N C c q * (x q + if q = k then 1 else 0)) N = _
    rw [e1, hx c hc', mx_put hkN hrk hij, testBit_or2]
    by_cases e2 : c = i
    · subst e2
      rw [bi]; simp [hij]
    · by_cases e3 : c = j
      · subst e3
        rw [bj]
        have : ¬ c = i := e2
        simp [this]
      · have h2 : ¬ i = c := fun h => e2 h.symm
        have h3 : ¬ j = c := fun h => e3 h.symm
        simp [e2, e3, h2, h3]

theorem two_le {f : Nat → Int} {n k k' : Nat} (hk : k < n) (hk' : k' < n) (hne : k ≠ k') (h0 : ∀ q, q < n → 0 ≤ f q) : f k + f k' ≤ sumN f n := by
  have h1 : sumN (fun q => (if q = k then 1 else 0) * f q + (if q = k' then 1 else 0) * f q) n ≤ sumN f n := sum_le fun q hq => by
    have := h0 q hq
    by_cases e1 : q = k
    · rw [if_pos e1, if_neg (by omega)]; omega
    · by_cases e2 : q = k'
      · rw [if_neg e1, if_pos e2]; omega
      · rw [if_neg e1, if_neg e2]; omega
  rw [sum_add, Sx.sum_pick hk, Sx.sum_pick hk'] at h1
  exact h1

theorem til_of_cover (hPB : PairsB C RR) (hl : RR.length = N) (hC : C ≤ 16) {x : Nat → Int} (hx : Cover RR N C x) : ∀ (n m : Nat), m < 2 ^ C → 2 ^ C - 1 ≤ n + m → (∀ k i j : Nat, k < N → x k ≠ 0 → RR.getD k [] = [((i : Nat) : Int), ((j : Nat) : Int)] → m.testBit i = m.testBit j) → 0 < til (2 ^ C - 1) RR m := by
  intro n
  induction n with
  | zero =>
    intro m hm h _
    have e : m = 2 ^ C - 1 := by omega
    rw [e, til_full]; decide
  | succ n ih =>
    intro m hm h hinv
    by_cases hne : m = 2 ^ C - 1
    · rw [hne, til_full]; decide
    obtain ⟨f1, f2, f3⟩ := fz_spec hC hm hne
    have hcv := hx.2 (fz m) f1
    have hex : ∃ k, k < N ∧ mx RR N C (fz m) k * x k ≠ 0 := by
      refine Classical.byContradiction fun hn => ?_
      rw [sum_none fun k hk => Classical.byContradiction fun h0 => hn ⟨k, hk, h0⟩] at hcv
      omega
    obtain ⟨k, hk, hk0⟩ := hex
    have hkx : x k ≠ 0 := fun e => hk0 (by rw [e, Int.mul_zero])
    have hkm : mx RR N C (fz m) k ≠ 0 := fun e => hk0 (by rw [e, Int.zero_mul])
    have hkl : k < RR.length := by omega
    obtain ⟨i, j, hr, hi, hj, hij⟩ := hPB RR[k] (List.getElem_mem hkl)
    have hrk : RR.getD k [] = [((i : Nat) : Int), ((j : Nat) : Int)] := by rw [getD_lt _ _ _ hkl]; exact hr
    have hin : fz m = i ∨ fz m = j := by
      rw [mx_put hk hrk hij] at hkm
      by_cases e1 : fz m = i
      · exact .inl e1
      · by_cases e2 : fz m = j
        · exact .inr e2
        · rw [if_neg e1, if_neg e2] at hkm; exact absurd rfl hkm
    have hsame := hinv k i j hk hkx hrk
    have bi : m.testBit i = false := by rcases hin with e | e <;> rw [e] at f2; exact f2; rw [hsame]; exact f2
    have bj : m.testBit j = false := by rw [← hsame]; exact bi
    have hand : m &&& (2 ^ i ||| 2 ^ j) = 0 := by
      have := or_bits m i j
      rw [bi, bj] at this
      exact of_decide_eq_true this
    have hgr := or_grow hm hi hj hand
    rw [til_step hPB hm hne]
    refine sum_posM (r := [((i : Nat) : Int), ((j : Nat) : Int)]) (hr ▸ List.getElem_mem hkl) ?_
    rw [bits_two, decide_eq_true hand, Bool.and_true, decide_eq_true (by rcases hin with e | e <;> simp [e]), if_pos rfl]
    refine ih _ hgr.2 (by omega) fun k' i' j' hk' hx' hr' => ?_
    rw [testBit_or2, testBit_or2]
    by_cases ek : k' = k
    · subst ek
      rw [hrk] at hr'
      injection hr' with h1 h2
      injection h2 with h2 _
      have e1 : i' = i := by omega
      have e2 : j' = j := by omega
      rw [e1, e2]; simp
    · have hs' := hinv k' i' j' hk' hx' hr'
      -- the two covers share no cell
      have hpk : 1 ≤ x k := by have := hx.1 k; omega
      have hpk' : 1 ≤ x k' := by have := hx.1 k'; omega
      have hi'j' : i' ≠ j' := by
        have hkl' : k' < RR.length := by omega
        obtain ⟨a, b, hab, _, _, hne'⟩ := hPB RR[k'] (List.getElem_mem hkl')
        rw [getD_lt _ _ _ hkl', hab] at hr'
        injection hr' with h1 h2
        injection h2 with h2 _
        omega
      have lt' : i' < C ∧ j' < C := by
        have hkl' : k' < RR.length := by omega
        obtain ⟨a, b, hab, ha, hb, hne'⟩ := hPB RR[k'] (List.getElem_mem hkl')
        rw [getD_lt _ _ _ hkl', hab] at hr'
        injection hr' with h1 h2
        injection h2 with h2 _
        omega
      have share : ∀ c, c < C → (c = i ∨ c = j) → (c = i' ∨ c = j') → False := fun c hc h1 h2 => by
        have m1 : mx RR N C c k = 1 := by
          rw [mx_put hk hrk hij]
          rcases h1 with h | h
          · rw [if_pos h, if_neg (by omega)]; rfl
          · rw [if_neg (by omega), if_pos h]; rfl
        have m2 : mx RR N C c k' = 1 := by
          rw [mx_put hk' hr' hi'j']
          rcases h2 with h | h
          · rw [if_pos h, if_neg (by omega)]; rfl
          · rw [if_neg (by omega), if_pos h]; rfl
        have := two_le (f := fun q => mx RR N C c q * x q) hk hk' (fun e => ek e.symm) fun q _ => Int.mul_nonneg (mx_rng RR N C c q).1 (hx.1 q)
        rw [hx.2 c hc] at this
        simp only [m1, m2, Int.one_mul] at this
        omega
      have n1 : ¬ i = i' := fun e => share i hi (.inl rfl) (.inl e)
      have n2 : ¬ j = i' := fun e => share j hj (.inr rfl) (.inl e)
      have n3 : ¬ i = j' := fun e => share i hi (.inl rfl) (.inr e)
      have n4 : ¬ j = j' := fun e => share j hj (.inr rfl) (.inr e)
      rw [decide_eq_false n1, decide_eq_false n2, decide_eq_false n3, decide_eq_false n4, hs']

/-- What the simplex run's end says. -/
theorem end_til {s : Nat → Int} {S : Sx.Tb} (hPB : PairsB C RR) (hl : RR.length = N) (hC : C ≤ 16) (hc : Sx.Cols N C (mx RR N C) s) (hi : Sx.Inv N C (mx RR N C) S) (hend : ∀ k, k < N + C → 0 ≤ S.g k) : S.g (N + C) = 0 ↔ 0 < til (2 ^ C - 1) RR 0 := by
  constructor
  · intro h0
    obtain ⟨h1, h2⟩ := Sx.cover_of_end hc hi h0
    refine til_of_cover hPB hl hC (x := fun k => sumN (fun i => if S.b i = k then S.T i (N + C) else 0) C) ⟨fun k => sum_nonneg fun i hi' => ?_, fun c hc' => ?_⟩ (2 ^ C) 0 (Nat.two_pow_pos _) (Nat.sub_le _ _) fun k i j _ _ _ => by rw [Nat.zero_testBit, Nat.zero_testBit]
    · split
      · exact hi.rhs i hi'
      · exact Int.le_refl _
    · have e1 : sumN (fun k => mx RR N C c k * sumN (fun i => if S.b i = k then S.T i (N + C) else 0) C) N = sumN (fun k => sumN (fun i => mx RR N C c k * (if S.b i = k then S.T i (N + C) else 0)) C) N := sum_congr fun k _ => (sum_mul _ _ _).symm
      show sumN (fun k => mx RR N C c k * sumN (fun i => if S.b i = k then S.T i (N + C) else 0) C) N = 1
      rw [e1, sum_swap, ← h2 c hc']
      refine sum_congr fun i hi' => ?_
      by_cases hb : S.b i < N
      · rw [sum_one hb fun k _ hne => by rw [if_neg (fun e => hne e.symm), Int.mul_zero], if_pos rfl, Int.mul_comm]
      · have : S.T i (N + C) = 0 := by
          have := hi.rhs i hi'
          have h3 : ¬ 0 < S.T i (N + C) := fun hp => hb (h1 i hi' hp)
          omega
        rw [sum_none fun k hk => by rw [if_neg (by omega), Int.mul_zero], this, Int.zero_mul]
  · intro hp
    obtain ⟨x, hx0, hx⟩ := cover_of_til hPB hl (2 ^ C) 0 (Nat.two_pow_pos _) (Nat.sub_le _ _) hp
    exact Sx.end_of_cover hc hi hend (fun k _ => hx0 k) fun c hc' => by rw [hx c hc', Nat.zero_testBit, if_neg (by decide)]
end

/-- The columns of a floor's covers. -/
theorem cols_of (P : List C2) : Sx.Cols (putsU P).length P.length (mx ((putsU P).map (covOf P)) (putsU P).length P.length) fun c => if blackC (P.getD c (0, 0)) = true then 1 else -1 := by
  refine ⟨fun c => by by_cases h : blackC (P.getD c (0, 0)) = true <;> simp [h], fun k hk => ?_, fun c d _ hd => mx_slack hd, fun c _ => mx_last c⟩
  obtain ⟨h1, h2, h3⟩ := putsU_mem (List.getElem_mem hk)
  have hrk : ((putsU P).map (covOf P)).getD k [] = [((P.idxOf (putsU P)[k].2 : Nat) : Int), ((P.idxOf (stepC (putsU P)[k].2 (domS (putsU P)[k].1)) : Nat) : Int)] := by
    rw [getD_lt _ _ _ (by simpa using hk), List.getElem_map]; rfl
  generalize (putsU P)[k] = p at *
  have g1 := List.getElem_idxOf (List.idxOf_lt_length_iff.2 h1)
  have g2 := List.getElem_idxOf (List.idxOf_lt_length_iff.2 h2)
  have l1 := List.idxOf_lt_length_iff.2 h1
  have l2 := List.idxOf_lt_length_iff.2 h2
  have hadj : adjC p.2 (stepC p.2 (domS p.1)) := by
    unfold adjC stepC
    rcases domS_or p.1 with e | e <;> rw [e] <;> dsimp only <;> omega
  have hcol := hadj.colour
  have d1 : P.getD (P.idxOf p.2) (0, 0) = p.2 := by rw [getD_lt _ _ _ l1]; exact g1
  have d2 : P.getD (P.idxOf (stepC p.2 (domS p.1))) (0, 0) = stepC p.2 (domS p.1) := by rw [getD_lt _ _ _ l2]; exact g2
  have hne : P.idxOf p.2 ≠ P.idxOf (stepC p.2 (domS p.1)) := fun e => by
    rw [← e, d1] at d2
    rw [← d2] at hcol
    cases h : blackC p.2 <;> rw [h] at hcol <;> cases hcol
  cases hb : blackC p.2 with
  | true =>
    have hb2 : blackC (stepC p.2 (domS p.1)) = false := by rw [hb] at hcol; cases h : blackC (stepC p.2 (domS p.1)) <;> rw [h] at hcol <;> first | rfl | cases hcol
    exact ⟨_, _, l1, l2, by rw [d1, hb]; rfl, by rw [d2, hb2]; rfl, fun c _ => mx_put hk hrk hne⟩
  | false =>
    have hb2 : blackC (stepC p.2 (domS p.1)) = true := by rw [hb] at hcol; cases h : blackC (stepC p.2 (domS p.1)) <;> rw [h] at hcol <;> first | rfl | cases hcol
    refine ⟨_, _, l2, l1, by rw [d2, hb2]; rfl, by rw [d1, hb]; rfl, fun c _ => ?_⟩
    rw [mx_put hk hrk hne, Int.add_comm]

end Go.Proofs.YtbekeccfjmoonaaDoor

/- Contracts: both, tiled. -/
namespace Go.Proofs.YtbekeccfjmoonaaDoor
open Go.Lf Go.RowKit Go.Ht

set_option maxRecDepth 100000 in
theorem bs61 (x y : C2) (w : World) (K : Value → World → Prop) : bsW Tryd.prog 61 2 [(0, cV x), (1, cV y)] w K = K (.slice (some ⟨w.heap.size, 0, none⟩) 2 2) (w.alloc (.cells #[.int .i64 x.1, .int .i64 x.2, .int .i64 y.1, .int .i64 y.2] 43)) := by kernel_rfl
set_option maxRecDepth 100000 in
theorem bs28 (a b : Option Addr) (n c m d : Nat) (w : World) (K : Value → World → Prop) : bsW Tryd.prog 28 2 [(0, .slice a n c), (1, .slice b m d)] w K = K (.slice (some ⟨w.heap.size, 0, none⟩) 2 2) (w.alloc (.cells #[.slice a n c, .slice b m d] 61)) := by kernel_rfl
set_option maxRecDepth 100000 in
theorem bs22_3 (x y z : ByteArray) (w : World) (K : Value → World → Prop) : bsW Tryd.prog 22 3 [(0, .string x), (1, .string y), (2, .string z)] w K = K (.slice (some ⟨w.heap.size, 0, none⟩) 3 3) (w.alloc (.cells #[.string x, .string y, .string z] 9)) := by kernel_rfl

set_option maxRecDepth 100000 in
theorem both_calls (w : World) : Calls Tryd.prog 8 #[] w fun e w' => Kp w w' ∧ ∃ tv, e = .returned tv ∧ TilesAt w' tv := by
  refine lift8 ?_
  unfold S8
  simp only [bd43]
  have two : ∀ (x y : C2) (w : World), RdC (w.alloc (.cells #[.int .i64 x.1, .int .i64 x.2, .int .i64 y.1, .int .i64 y.2] 43)) (.slice (some ⟨w.heap.size, 0, none⟩) 2 2) [x, y] := fun x y w => by
    have h := (rec_alloc (e := 43) cC_len [x, y] (by simp) w).rd cC_len
    simp [recCells, cC] at h
    exact h
  rw [bs61, bs61]
  have t1 := two (0, 0) (1, 0) w
  have k1 : Kp w (w.alloc (.cells #[.int .i64 0, .int .i64 0, .int .i64 1, .int .i64 0] 43)) := below_alloc _
  generalize (w.alloc (.cells #[.int .i64 0, .int .i64 0, .int .i64 1, .int .i64 0] 43)) = w1 at *
  have t2 := two (0, 0) (0, 1) w1
  have k2 : Kp w1 (w1.alloc (.cells #[.int .i64 0, .int .i64 0, .int .i64 0, .int .i64 1] 43)) := below_alloc _
  generalize (w1.alloc (.cells #[.int .i64 0, .int .i64 0, .int .i64 0, .int .i64 1] 43)) = w2 at *
  rw [bs28]
  have k3 : Kp w2 (w2.alloc (.cells #[.slice (some ⟨w.heap.size, 0, none⟩) 2 2, .slice (some ⟨w1.heap.size, 0, none⟩) 2 2] 61)) := below_alloc _
  refine ⟨Kp.trans k1 (Kp.trans k2 k3), _, rfl, _, _, ?_, (t1.kp k2).kp k3, t2.kp k3⟩
  have h := (rec_alloc (e := 61) vE_len [Value.slice (some ⟨w.heap.size, 0, none⟩) 2 2, Value.slice (some ⟨w1.heap.size, 0, none⟩) 2 2] (by simp) w2).rd vE_len
  simp [recCells] at h
  exact h

/-- The floor of the closed example. -/
def l9 : List ByteArray := [⟨#[35, 35, 35]⟩, ⟨#[35, 35, 35]⟩, ⟨#[35, 35, 46]⟩]
theorem l9_of : ofB 8 l9 = true := by kernel_rfl
theorem l9_fl : flB l9 = true := by kernel_rfl
theorem l9_cnt : cntF l9 (wd l9 * l9.length) (0, 0) = 4 := by kernel_rfl
theorem l9_til : tilB l9 = 4 := by kernel_rfl
theorem l9_small : ∀ s ∈ l9, s.size ≤ 9223372036854775807 := by
  intro s hs
  simp only [l9, List.mem_cons, List.not_mem_nil, or_false] at hs
  rcases hs with rfl | rfl | rfl <;> decide

set_option maxRecDepth 100000 in
set_option maxHeartbeats 1000000 in
theorem tiled_calls (w : World) : Calls Tryd.prog 6 #[] w fun e w' => e = .returned (.bool true) ∧ Kp w w' := by
  refine lift6 ?_
  unfold S6
  rw [bs22_3]
  have mkR : ∀ w : World, RdB (w.alloc (.cells #[.string ⟨#[35, 35, 35]⟩, .string ⟨#[35, 35, 35]⟩, .string ⟨#[35, 35, 46]⟩] 9)) (.slice (some ⟨w.heap.size, 0, none⟩) 3 3) l9 := fun w => by
    have h := (rec_alloc (e := 9) sC_len l9 (by simp [l9]) w).rd sC_len
    simp [recCells, sC, l9] at h
    exact h
  have h1 := mkR w
  have k1 : Kp w (w.alloc (.cells #[.string ⟨#[35, 35, 35]⟩, .string ⟨#[35, 35, 35]⟩, .string ⟨#[35, 35, 46]⟩] 9)) := below_alloc _
  generalize (w.alloc (.cells #[.string ⟨#[35, 35, 35]⟩, .string ⟨#[35, 35, 35]⟩, .string ⟨#[35, 35, 46]⟩] 9)) = w1 at *
  refine r_use fok9 (Count_calls w1 h1 l9_small (by decide)) rfl ?_
  rintro _ w2 ⟨k2, rfl⟩
  refine ⟨_, rfl, ?_⟩
  rw [r_ex2a, r_ex2b, l9_of, if_pos rfl, if_pos rfl, l9_cnt, bs22_3]
  have h2 := mkR w2
  have k3 : Kp w2 (w2.alloc (.cells #[.string ⟨#[35, 35, 35]⟩, .string ⟨#[35, 35, 35]⟩, .string ⟨#[35, 35, 46]⟩] 9)) := below_alloc _
  generalize (w2.alloc (.cells #[.string ⟨#[35, 35, 35]⟩, .string ⟨#[35, 35, 35]⟩, .string ⟨#[35, 35, 46]⟩] 9)) = w3 at *
  refine r_use fok8 (both_calls w3) rfl ?_
  rintro _ w4 ⟨k4, tv, rfl, hT⟩
  refine ⟨_, rfl, ?_⟩
  refine r_use fok7 (Tilings_calls w4 (h2.kp k4) l9_small hT) rfl ?_
  rintro _ w5 ⟨k5, rfl⟩
  refine ⟨_, rfl, ?_⟩
  rw [r_ex2a, r_ex2b, l9_fl, if_pos rfl, if_pos rfl, l9_til]
  simp only [r_eql, decide_eq_true (show (0 : Int) = 0 from rfl), r_gdTT, decide_eq_true (show ((4 : Nat) : Int) = 4 from rfl), r_pickT]
  exact ⟨by first | rfl | trivial, Kp.trans k1 (Kp.trans k2 (Kp.trans k3 (Kp.trans k4 k5)))⟩

end Go.Proofs.YtbekeccfjmoonaaDoor
