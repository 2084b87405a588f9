/- Texts of my own, merged by program: Sx Sy. -/
import Derived.Test.YtbekeccfjmoonaaDoorM02
set_option linter.all false
/- The simplex tableau of exact covers of black and white cells by pairs, plainly: its entries are -1, 0 and 1, it stays right from pivot to pivot, and what its end says. No program. -/
namespace Go.Sx
open Go.Dt

/-- A tableau: rows, what is to become 0, the basis. -/
structure Tb where
  T : Nat → Nat → Int
  g : Nat → Int
  b : Nat → Nat

/-- The columns: puts (a black and a white cell each), one for each cell, the right side. -/
structure Cols (N C : Nat) (M : Nat → Nat → Int) (s : Nat → Int) : Prop where
  sg : ∀ c, s c = 1 ∨ s c = -1
  put : ∀ k, k < N → ∃ p q, p < C ∧ q < C ∧ s p = 1 ∧ s q = -1 ∧ ∀ c, c < C → M c k = (if c = p then 1 else 0) + (if c = q then 1 else 0)
  slack : ∀ c d, c < C → d < C → M c (N + d) = if c = d then 1 else 0
  last : ∀ c, c < C → M c (N + C) = 1

def cost (N C k : Nat) : Int := if N ≤ k ∧ k < N + C then 1 else 0

structure Inv (N C : Nat) (M : Nat → Nat → Int) (S : Tb) : Prop where
  row : ∀ i, i < C → ∀ k, k ≤ N + C → S.T i k = sumN (fun c => S.T i (N + c) * M c k) C
  col : ∀ c d, c < C → d < C → (if c = d then (1 : Int) else 0) = sumN (fun i => S.T i (N + c) * M d (S.b i)) C
  unit : ∀ i j, i < C → j < C → S.T i (S.b j) = if i = j then 1 else 0
  goal : ∃ y : Nat → Int, ∀ k, k ≤ N + C → S.g k = cost N C k - sumN (fun c => y c * M c k) C
  gb : ∀ i, i < C → S.g (S.b i) = 0
  rhs : ∀ i, i < C → 0 ≤ S.T i (N + C)
  bas : ∀ i, i < C → S.b i < N + C

section
variable {N C : Nat} {M : Nat → Nat → Int} {s : Nat → Int} {S : Tb}

theorem sum_comm3 (f : Nat → Nat → Int) (m n : Nat) : sumN (fun i => sumN (fun j => f i j) m) n = sumN (fun j => sumN (fun i => f i j) n) m := sum_swap f m n
theorem sum_mul_right (c : Int) (f : Nat → Int) (n : Nat) : sumN (fun i => f i * c) n = sumN f n * c := by
  rw [Int.mul_comm, ← sum_mul]
  exact sum_congr fun i _ => Int.mul_comm _ _
theorem sum_pick {f : Nat → Int} {n c : Nat} (hc : c < n) : sumN (fun i => (if i = c then 1 else 0) * f i) n = f c := by
  rw [sum_one hc fun i _ hne => by rw [if_neg hne, Int.zero_mul], if_pos rfl, Int.one_mul]
theorem sum_pick' {f : Nat → Int} {n c : Nat} (hc : c < n) : sumN (fun i => (if c = i then 1 else 0) * f i) n = f c := by
  rw [sum_one hc fun i _ hne => by rw [if_neg (fun e => hne e.symm), Int.zero_mul], if_pos rfl, Int.one_mul]

/-- What vanishes at all columns of the basis is 0. -/
theorem Inv.null (h : Inv N C M S) {y : Nat → Int} (hy : ∀ j, j < C → sumN (fun c => y c * M c (S.b j)) C = 0) : ∀ c, c < C → y c = 0 := fun c hc => by
  have e1 : y c = sumN (fun d => (if c = d then 1 else 0) * y d) C := (sum_pick' hc).symm
  rw [e1]
  have e2 : sumN (fun d => (if c = d then 1 else 0) * y d) C = sumN (fun d => sumN (fun i => S.T i (N + c) * (y d * M d (S.b i))) C) C := sum_congr fun d hd => by
    rw [h.col c d hc hd, ← sum_mul_right]
    exact sum_congr fun i _ => by rw [Int.mul_assoc, Int.mul_comm (M d (S.b i))]
  rw [e2, sum_comm3]
  exact sum_none fun i hi => by rw [sum_mul, hy i hi, Int.mul_zero]

/-- Every column by the basis. -/
theorem Inv.by_basis (h : Inv N C M S) {k : Nat} (hk : k ≤ N + C) {d : Nat} (hd : d < C) : M d k = sumN (fun i => S.T i k * M d (S.b i)) C := by
  have e1 : sumN (fun i => S.T i k * M d (S.b i)) C = sumN (fun i => sumN (fun c => M c k * (S.T i (N + c) * M d (S.b i))) C) C := sum_congr fun i hi => by
    rw [h.row i hi k hk, ← sum_mul_right]
    exact sum_congr fun c _ => by rw [Int.mul_assoc, Int.mul_left_comm]
  rw [e1, sum_comm3]
  have e2 : sumN (fun c => sumN (fun i => M c k * (S.T i (N + c) * M d (S.b i))) C) C = sumN (fun c => (if c = d then 1 else 0) * M c k) C := sum_congr fun c hc => by
    rw [sum_mul, ← h.col c d hc hd, Int.mul_comm]
  rw [e2, sum_pick hd]

/-! ### entries -/
def pot (s : Nat → Int) (N : Nat) (S : Tb) (i c : Nat) : Int := s c * S.T i (N + c)
theorem sg_sq (hc : Cols N C M s) (c : Nat) : s c * s c = 1 := by rcases hc.sg c with h | h <;> rw [h] <;> rfl
theorem T_slack (hc : Cols N C M s) (i c : Nat) : S.T i (N + c) = s c * pot s N S i c := by
  unfold pot
  rw [← Int.mul_assoc, sg_sq hc, Int.one_mul]
theorem two_sum {f : Nat → Int} {p q : Nat} (hp : p < C) (hq : q < C) : sumN (fun c => f c * ((if c = p then 1 else 0) + (if c = q then 1 else 0))) C = f p + f q := by
  have e : sumN (fun c => f c * ((if c = p then 1 else 0) + (if c = q then 1 else 0))) C = sumN (fun c => (if c = p then 1 else 0) * f c + (if c = q then 1 else 0) * f c) C := sum_congr fun c _ => by
    rw [Int.mul_add, Int.mul_comm (f c), Int.mul_comm (f c)]
  rw [e, sum_add, sum_pick hp, sum_pick hq]
theorem T_put (hc : Cols N C M s) (h : Inv N C M S) {i k : Nat} (hi : i < C) (hk : k < N) : ∃ p q, p < C ∧ q < C ∧ s p = 1 ∧ s q = -1 ∧ (∀ y : Nat → Int, sumN (fun c => y c * M c k) C = y p + y q) ∧ S.T i k = pot s N S i p - pot s N S i q := by
  obtain ⟨p, q, hp, hq, sp, sq, hM⟩ := hc.put k hk
  have key : ∀ y : Nat → Int, sumN (fun c => y c * M c k) C = y p + y q := fun y => by
    rw [sum_congr (g := fun c => y c * ((if c = p then 1 else 0) + (if c = q then 1 else 0))) fun c hcl => by rw [hM c hcl], two_sum hp hq]
  refine ⟨p, q, hp, hq, sp, sq, key, ?_⟩
  rw [h.row i hi k (by omega), key]
  unfold pot
  rw [sp, sq]
  omega

/-- Cells of one potential. -/
def lev (s : Nat → Int) (N : Nat) (S : Tb) (i : Nat) (v : Int) (c : Nat) : Int := if pot s N S i c = v then s c else 0
theorem slack_sum (hc : Cols N C M s) {d : Nat} (hd : d < C) (y : Nat → Int) : sumN (fun c => y c * M c (N + d)) C = y d := by
  rw [sum_congr (g := fun c => (if c = d then 1 else 0) * y c) fun c hcl => by rw [hc.slack c d hcl hd, Int.mul_comm], sum_pick hd]
/-- The basis column j and the cells of one potential other than 0: they cancel but at j = i. -/
theorem lev_off (hc : Cols N C M s) (h : Inv N C M S) {i j : Nat} (hi : i < C) (hj : j < C) (hij : i ≠ j) {v : Int} (hv : v ≠ 0) : sumN (fun c => lev s N S i v c * M c (S.b j)) C = 0 := by
  have hu := h.unit i j hi hj
  rw [if_neg hij] at hu
  have hb := h.bas j hj
  by_cases hk : S.b j < N
  · obtain ⟨p, q, hp, hq, sp, sq, key, hT⟩ := T_put hc h hi hk
    rw [key]
    have e : pot s N S i p = pot s N S i q := by omega
    unfold lev
    rw [e, sp, sq]
    split <;> rfl
  · obtain ⟨d, hd⟩ : ∃ d, S.b j = N + d := ⟨S.b j - N, by omega⟩
    rw [hd] at hu ⊢
    rw [slack_sum hc (by omega)]
    have : pot s N S i d = 0 := by
      unfold pot; rw [hu, Int.mul_zero]
    unfold lev
    rw [this, if_neg (fun e => hv e.symm)]
theorem lev_none (hc : Cols N C M s) (h : Inv N C M S) {i : Nat} (hi : i < C) {v : Int} (hv : v ≠ 0) (h0 : sumN (fun c => lev s N S i v c * M c (S.b i)) C = 0) : ∀ c, c < C → pot s N S i c ≠ v := fun c hcl e => by
  have := h.null (y := lev s N S i v) (fun j hj => by
    by_cases hij : i = j
    · subst hij; exact h0
    · exact lev_off hc h hi hj hij hv) c hcl
  unfold lev at this
  rw [if_pos e] at this
  rcases hc.sg c with h | h <;> omega
/-- The potentials of a row are 0 and one of 1, -1. -/
theorem pots (hc : Cols N C M s) (h : Inv N C M S) {i : Nat} (hi : i < C) : ∃ e : Int, (e = 1 ∨ e = -1) ∧ ∀ c, c < C → pot s N S i c = 0 ∨ pot s N S i c = e := by
  have hu := h.unit i i hi hi
  rw [if_pos rfl] at hu
  have hb := h.bas i hi
  by_cases hk : S.b i < N
  · obtain ⟨p, q, hp, hq, sp, sq, key, hT⟩ := T_put hc h hi hk
    rw [hu] at hT
    have hpq : pot s N S i p = 0 ∨ pot s N S i q = 0 := by
      refine Classical.byContradiction fun hn => ?_
      have hp0 : pot s N S i p ≠ 0 := fun e => hn (.inl e)
      have hq0 : pot s N S i q ≠ 0 := fun e => hn (.inr e)
      have hz := h.null (y := fun c => lev s N S i (pot s N S i p) c + lev s N S i (pot s N S i q) c) (fun j hj => by
        have e1 : sumN (fun c => (lev s N S i (pot s N S i p) c + lev s N S i (pot s N S i q) c) * M c (S.b j)) C = sumN (fun c => lev s N S i (pot s N S i p) c * M c (S.b j)) C + sumN (fun c => lev s N S i (pot s N S i q) c * M c (S.b j)) C := by
          rw [← sum_add]; exact sum_congr fun c _ => Int.add_mul _ _ _
        rw [e1]
        by_cases hij : i = j
        · subst hij
          rw [key, key]
          unfold lev
          rw [if_pos rfl, if_neg (by omega), if_neg (by omega), if_pos rfl, sp, sq]; rfl
        · rw [lev_off hc h hi hj hij hp0, lev_off hc h hi hj hij hq0]; rfl) p hp
      unfold lev at hz
      rw [if_pos rfl, if_neg (by omega), sp] at hz
      omega
    rcases hpq with h0 | h0
    · refine ⟨-1, .inr rfl, fun c hcl => ?_⟩
      refine Classical.byContradiction fun hn => ?_
      have h1 : pot s N S i c ≠ 0 := fun e => hn (.inl e)
      have h2 : pot s N S i c ≠ -1 := fun e => hn (.inr e)
      refine lev_none hc h hi (v := pot s N S i c) h1 ?_ c hcl rfl
      rw [key]
      unfold lev
      rw [if_neg (by omega), if_neg (by omega)]; rfl
    · refine ⟨1, .inl rfl, fun c hcl => ?_⟩
      refine Classical.byContradiction fun hn => ?_
      have h1 : pot s N S i c ≠ 0 := fun e => hn (.inl e)
      have h2 : pot s N S i c ≠ 1 := fun e => hn (.inr e)
      refine lev_none hc h hi (v := pot s N S i c) h1 ?_ c hcl rfl
      rw [key]
      unfold lev
      rw [if_neg (by omega), if_neg (by omega)]; rfl
  · obtain ⟨d, hd⟩ : ∃ d, S.b i = N + d := ⟨S.b i - N, by omega⟩
    rw [hd] at hu
    have hpd : pot s N S i d = s d := by unfold pot; rw [hu, Int.mul_one]
    refine ⟨s d, hc.sg d, fun c hcl => ?_⟩
    refine Classical.byContradiction fun hn => ?_
    have h1 : pot s N S i c ≠ 0 := fun e => hn (.inl e)
    have h2 : pot s N S i c ≠ s d := fun e => hn (.inr e)
    refine lev_none hc h hi (v := pot s N S i c) h1 ?_ c hcl rfl
    rw [hd, slack_sum hc (by omega)]
    unfold lev
    rw [hpd, if_neg (fun e => h2 e.symm)]
/-- All entries but those of the right side are -1, 0 or 1. -/
theorem entry (hc : Cols N C M s) (h : Inv N C M S) {i k : Nat} (hi : i < C) (hk : k < N + C) : S.T i k = -1 ∨ S.T i k = 0 ∨ S.T i k = 1 := by
  obtain ⟨e, he, hp⟩ := pots hc h hi
  by_cases hkN : k < N
  · obtain ⟨p, q, hp1, hq1, _, _, _, hT⟩ := T_put hc h hi hkN
    have a := hp p hp1
    have b := hp q hq1
    omega
  · obtain ⟨d, rfl⟩ : ∃ d, k = N + d := ⟨k - N, by omega⟩
    rw [T_slack hc]
    have a := hp d (by omega)
    rcases hc.sg d with h1 | h1 <;> rw [h1] <;> omega
theorem sum_bound {f : Nat → Int} {B : Int} : ∀ {n : Nat}, (∀ i, i < n → -B ≤ f i ∧ f i ≤ B) → -(n * B) ≤ sumN f n ∧ sumN f n ≤ n * B
  | 0, _ => by simp [sumN]
  | n + 1, h => by
    have ih := sum_bound (n := n) fun i hi => h i (by omega)
    have hn := h n (by omega)
    have e : ((n + 1 : Nat) : Int) * B = n * B + B := by rw [Int.natCast_add, Int.add_mul]; simp
    rw [e]
    show -(n * B + B) ≤ sumN f n + f n ∧ sumN f n + f n ≤ n * B + B
    omega
theorem rhs_le (hc : Cols N C M s) (h : Inv N C M S) {i : Nat} (hi : i < C) : S.T i (N + C) ≤ C := by
  rw [h.row i hi _ (Nat.le_refl _)]
  have := sum_bound (B := 1) (f := fun c => S.T i (N + c) * M c (N + C)) (n := C) fun c hcl => by
    rw [hc.last c hcl, Int.mul_one]
    have := entry hc h hi (k := N + c) (by omega)
    omega
  omega
/-- What is to become 0, by the basis. -/
theorem goal_by (h : Inv N C M S) {k : Nat} (hk : k ≤ N + C) : S.g k = cost N C k - sumN (fun i => S.T i k * cost N C (S.b i)) C := by
  obtain ⟨y, hy⟩ := h.goal
  rw [hy k hk]
  congr 1
  have e1 : sumN (fun c => y c * M c k) C = sumN (fun c => sumN (fun i => S.T i k * (y c * M c (S.b i))) C) C := sum_congr fun c hcl => by
    rw [h.by_basis hk hcl, ← sum_mul]
    exact sum_congr fun i _ => Int.mul_left_comm _ _ _
  rw [e1, sum_comm3]
  refine sum_congr fun i hi => ?_
  rw [sum_mul]
  have := h.gb i hi
  rw [hy _ (Nat.le_of_lt (h.bas i hi))] at this
  congr 1
  omega
theorem cost_or (N C k : Nat) : cost N C k = 0 ∨ cost N C k = 1 := by unfold cost; split <;> simp
theorem goal_rng (hc : Cols N C M s) (h : Inv N C M S) {k : Nat} (hk : k < N + C) : -(C : Int) - 1 ≤ S.g k ∧ S.g k ≤ C + 1 := by
  rw [goal_by h (Nat.le_of_lt hk)]
  have := sum_bound (B := 1) (f := fun i => S.T i k * cost N C (S.b i)) (n := C) fun i hi => by
    have a := entry hc h hi hk
    rcases cost_or N C (S.b i) with e | e <;> rw [e] <;> omega
  have := cost_or N C k
  omega
theorem goal_last (hc : Cols N C M s) (h : Inv N C M S) : -(C * C : Int) ≤ S.g (N + C) ∧ S.g (N + C) ≤ 0 := by
  rw [goal_by h (Nat.le_refl _)]
  have e : cost N C (N + C) = 0 := by unfold cost; rw [if_neg (by omega)]
  rw [e]
  have h1 := sum_bound (B := C) (f := fun i => S.T i (N + C) * cost N C (S.b i)) (n := C) fun i hi => by
    have a := h.rhs i hi
    have b := rhs_le hc h hi
    rcases cost_or N C (S.b i) with e | e <;> rw [e] <;> omega
  have h2 : 0 ≤ sumN (fun i => S.T i (N + C) * cost N C (S.b i)) C := sum_nonneg fun i hi => by
    have a := h.rhs i hi
    rcases cost_or N C (S.b i) with e | e <;> rw [e] <;> omega
  omega

/-! ### pivots -/
def pv (S : Tb) (r j : Nat) : Tb := ⟨fun i k => if i = r then S.T r k else S.T i k - S.T i j * S.T r k, fun k => S.g k - S.g j * S.T r k, fun i => if i = r then j else S.b i⟩
/-- The program's choice. -/
structure Rule (N C : Nat) (S : Tb) (r j : Nat) : Prop where
  jl : j < N + C
  neg : S.g j < 0
  low : ∀ k, k < j → 0 ≤ S.g k
  rl : r < C
  pos : 0 < S.T r j
  ratio : ∀ i, i < C → 0 < S.T i j → S.T r (N + C) < S.T i (N + C) ∨ (S.T r (N + C) = S.T i (N + C) ∧ S.b r ≤ S.b i)

theorem Rule.one {r j : Nat} (hc : Cols N C M s) (h : Inv N C M S) (hr : Rule N C S r j) : S.T r j = 1 := by
  have := entry hc h hr.rl hr.jl
  have := hr.pos
  omega
theorem sum_cut {f : Nat → Int} {n r : Nat} (hr : r < n) : sumN f n = sumN (fun i => if i = r then 0 else f i) n + f r := by
  have e : sumN f n = sumN (fun i => (if i = r then 0 else f i) + (if i = r then 1 else 0) * f i) n := sum_congr fun i _ => by
    by_cases e : i = r
    · subst e; simp
    · simp [e]
  rw [e, sum_add, sum_pick hr]
theorem pv_inv {r j : Nat} (hc : Cols N C M s) (h : Inv N C M S) (hr : Rule N C S r j) : Inv N C M (pv S r j) := by
  have h1 := hr.one hc h
  have hrl := hr.rl
  refine ⟨fun i hi k hk => ?_, fun c d hcl hd => ?_, fun i i' hi hi' => ?_, ?_, fun i hi => ?_, fun i hi => ?_, fun i hi => ?_⟩
  · show (if i = r then S.T r k else S.T i k - S.T i j * S.T r k) = sumN (fun c => (if i = r then S.T r (N + c) else S.T i (N + c) - S.T i j * S.T r (N + c)) * M c k) C
    by_cases e : i = r
    · simp only [if_pos e]; exact h.row r hrl k hk
    · simp only [if_neg e]
      rw [h.row i hi k hk, h.row r hrl k hk, ← sum_mul, ← sum_sub]
      exact sum_congr fun c _ => by rw [Int.sub_mul, Int.mul_assoc]
  · show _ = sumN (fun i => (if i = r then S.T r (N + c) else S.T i (N + c) - S.T i j * S.T r (N + c)) * M d (if i = r then j else S.b i)) C
    rw [h.col c d hcl hd, sum_cut hrl, sum_cut (f := fun i => (if i = r then S.T r (N + c) else S.T i (N + c) - S.T i j * S.T r (N + c)) * M d (if i = r then j else S.b i)) hrl]
    simp only [if_pos]
    rw [h.by_basis (Nat.le_of_lt hr.jl) hd, sum_cut (f := fun i => S.T i j * M d (S.b i)) hrl, h1, Int.one_mul, Int.mul_add, ← sum_mul, ← Int.add_assoc, ← sum_add]
    congr 1
    refine sum_congr fun i _ => ?_
    by_cases e : i = r
    · simp [e]
    · simp only [if_neg e]
      rw [Int.sub_mul, Int.mul_comm (S.T i j), Int.mul_assoc]
      omega
  · show (if i = r then S.T r (if i' = r then j else S.b i') else S.T i (if i' = r then j else S.b i') - S.T i j * S.T r (if i' = r then j else S.b i')) = _
    by_cases e' : i' = r
    · subst e'
      simp only [if_true]
      rw [h1]
      by_cases e : i = i'
      · rw [if_pos e, if_pos e]
      · rw [if_neg e, if_neg e]; omega
    · simp only [if_neg e']
      by_cases e : i = r
      · subst e
        rw [if_pos rfl]; exact h.unit i i' hi hi'
      · have hz : (if r = i' then (1 : Int) else 0) = 0 := if_neg fun x => e' x.symm
        rw [if_neg e, h.unit i i' hi hi', h.unit r i' hrl hi', hz, Int.mul_zero, Int.sub_zero]
  · obtain ⟨y, hy⟩ := h.goal
    refine ⟨fun c => y c + S.g j * S.T r (N + c), fun k hk => ?_⟩
    show S.g k - S.g j * S.T r k = _
    rw [hy k hk, h.row r hrl k hk]
    have e : sumN (fun c => (y c + S.g j * S.T r (N + c)) * M c k) C = sumN (fun c => y c * M c k) C + S.g j * sumN (fun c => S.T r (N + c) * M c k) C := by
      rw [← sum_mul, ← sum_add]
      exact sum_congr fun c _ => by rw [Int.add_mul, Int.mul_assoc]
    rw [e]; omega
  · show S.g (if i = r then j else S.b i) - S.g j * S.T r (if i = r then j else S.b i) = 0
    by_cases e : i = r
    · simp only [if_pos e]; rw [h1]; omega
    · simp only [if_neg e]
      rw [h.gb i hi, h.unit r i hrl hi, if_neg (fun x => e x.symm)]; omega
  · show 0 ≤ (if i = r then S.T r (N + C) else S.T i (N + C) - S.T i j * S.T r (N + C))
    have a := h.rhs r hrl
    have b := h.rhs i hi
    by_cases e : i = r
    · rw [if_pos e]; exact a
    · rw [if_neg e]
      rcases entry hc h hi hr.jl with e1 | e1 | e1
      · rw [e1]; omega
      · rw [e1]; omega
      · have := hr.ratio i hi (by omega)
        rw [e1]; omega
  · show (if i = r then j else S.b i) < N + C
    split
    · exact hr.jl
    · exact h.bas i hi

/-- A column that is to come in has a place to come. -/
theorem bounded (hc : Cols N C M s) (h : Inv N C M S) {j : Nat} (hj : j < N + C) (hneg : S.g j < 0) : ∃ i, i < C ∧ 0 < S.T i j := by
  refine Classical.byContradiction fun hn => ?_
  have hle : ∀ i, i < C → S.T i j ≤ 0 := fun i hi => Int.not_lt.1 fun hp => hn ⟨i, hi, hp⟩
  have e := goal_by h (Nat.le_of_lt hj)
  have h1 : sumN (fun i => S.T i j * cost N C (S.b i)) C ≤ sumN (fun _ => 0) C := sum_le fun i hi => by
    have a := hle i hi
    rcases cost_or N C (S.b i) with e | e <;> rw [e] <;> omega
  rw [sum_zero] at h1
  have := cost_or N C j
  omega

/-! ### the end -/
/-- Where nothing is left to gain: what is to become 0 is 0 if there is an exact cover. -/
theorem end_of_cover (hc : Cols N C M s) (h : Inv N C M S) (hend : ∀ k, k < N + C → 0 ≤ S.g k) {x : Nat → Int} (hx : ∀ k, k < N → 0 ≤ x k) (hcov : ∀ c, c < C → sumN (fun k => M c k * x k) N = 1) : S.g (N + C) = 0 := by
  obtain ⟨y, hy⟩ := h.goal
  have h1 : 0 ≤ sumN (fun k => S.g k * x k) N := sum_nonneg fun k hk => Int.mul_nonneg (hend k (by omega)) (hx k hk)
  have e1 : sumN (fun k => S.g k * x k) N = - sumN (fun k => sumN (fun c => y c * (M c k * x k)) C) N := by
    rw [← sum_neg]
    refine sum_congr fun k hk => ?_
    rw [hy k (by omega)]
    have e0 : cost N C k = 0 := by unfold cost; rw [if_neg (by omega)]
    rw [e0, Int.zero_sub, Int.neg_mul, ← sum_mul_right]
    congr 1
    exact sum_congr fun c _ => Int.mul_assoc _ _ _
  have e2 : sumN (fun k => sumN (fun c => y c * (M c k * x k)) C) N = sumN y C := by
    rw [sum_comm3]
    exact sum_congr fun c hcl => by rw [sum_mul, hcov c hcl, Int.mul_one]
  have e3 : S.g (N + C) = - sumN y C := by
    rw [hy _ (Nat.le_refl _)]
    have e0 : cost N C (N + C) = 0 := by unfold cost; rw [if_neg (by omega)]
    rw [e0, Int.zero_sub]
    congr 1
    exact sum_congr fun c hcl => by rw [hc.last c hcl, Int.mul_one]
  have := (goal_last hc h).2
  omega
/-- Where it is 0, the basis is an exact cover. -/
theorem cover_of_end (hc : Cols N C M s) (h : Inv N C M S) (h0 : S.g (N + C) = 0) : (∀ i, i < C → 0 < S.T i (N + C) → S.b i < N) ∧ ∀ c, c < C → sumN (fun i => S.T i (N + C) * M c (S.b i)) C = 1 := by
  constructor
  · intro i hi hp
    refine Classical.byContradiction fun hn => ?_
    have e := goal_by h (Nat.le_refl (N + C))
    have e0 : cost N C (N + C) = 0 := by unfold cost; rw [if_neg (by omega)]
    have hb := h.bas i hi
    have e1 : cost N C (S.b i) = 1 := by unfold cost; rw [if_pos (by omega)]
    have h2 : sumN (fun q => (if q = i then 1 else 0) * S.T q (N + C)) C ≤ sumN (fun q => S.T q (N + C) * cost N C (S.b q)) C := sum_le fun q hq => by
      by_cases eq : q = i
      · subst eq; rw [if_pos rfl, e1]; omega
      · rw [if_neg eq, Int.zero_mul]
        have a := h.rhs q hq
        rcases cost_or N C (S.b q) with e | e <;> rw [e] <;> omega
    rw [sum_pick hi] at h2
    omega
  · intro c hcl
    rw [← h.by_basis (Nat.le_refl _) hcl, hc.last c hcl]
end

end Go.Sx

/- Bland's rule, plainly: runs of the simplex tableau are not longer than a bound. No program. -/
namespace Go.Sx
open Go.Dt

/-- A run of n pivots by the rule. -/
structure Run (N C : Nat) (M : Nat → Nat → Int) (n : Nat) (S : Nat → Tb) (R J : Nat → Nat) : Prop where
  inv : ∀ i, i ≤ n → Inv N C M (S i)
  rule : ∀ i, i < n → Rule N C (S i) (R i) (J i)
  next : ∀ i, i < n → S (i + 1) = pv (S i) (R i) (J i)

section
variable {N C n : Nat} {M : Nat → Nat → Int} {s : Nat → Int} {S : Nat → Tb} {R J : Nat → Nat}

def Basic (C : Nat) (T : Tb) (k : Nat) : Prop := ∃ i, i < C ∧ T.b i = k
def PosB (N C : Nat) (T : Tb) (k : Nat) : Prop := ∃ i, i < C ∧ T.b i = k ∧ 0 < T.T i (N + C)

theorem basis_inj {T : Tb} (h : Inv N C M T) {i i' : Nat} (hi : i < C) (hi' : i' < C) (e : T.b i = T.b i') : i = i' := by
  have h1 := h.unit i i hi hi
  have h2 := h.unit i i' hi hi'
  rw [← e, h1, if_pos rfl] at h2
  by_cases x : i = i'
  · exact x
  · rw [if_neg x] at h2; omega
theorem Run.out_in (r : Run N C M n S R J) {i : Nat} (hi : i < n) : ¬ Basic C (S i) (J i) := by
  rintro ⟨q, hq, e⟩
  have h1 := (r.inv i (by omega)).gb q hq
  rw [e] at h1
  have := (r.rule i hi).neg
  omega
/-- Which are in the basis after a pivot. -/
theorem Run.basic (r : Run N C M n S R J) {i : Nat} (hi : i < n) (k : Nat) : Basic C (S (i + 1)) k ↔ k = J i ∨ (Basic C (S i) k ∧ k ≠ (S i).b (R i)) := by
  have hv := r.inv i (by omega)
  have hr := r.rule i hi
  unfold Basic
  rw [r.next i hi]
  show (∃ q, q < C ∧ (if q = R i then J i else (S i).b q) = k) ↔ _
  constructor
  · rintro ⟨q, hq, e⟩
    by_cases x : q = R i
    · rw [if_pos x] at e; exact .inl e.symm
    · rw [if_neg x] at e
      exact .inr ⟨⟨q, hq, e⟩, fun y => x (basis_inj hv hq hr.rl (e.trans y))⟩
  · rintro (e | ⟨⟨q, hq, e⟩, hne⟩)
    · exact ⟨R i, hr.rl, by rw [if_pos rfl, e]⟩
    · refine ⟨q, hq, ?_⟩
      rw [if_neg fun x => hne (by rw [← e, x])]; exact e
def Deg (N C : Nat) (S : Nat → Tb) (R : Nat → Nat) (i : Nat) : Prop := (S i).T (R i) (N + C) = 0
theorem Run.posb (r : Run N C M n S R J) {i : Nat} (hi : i < n) (hd : Deg N C S R i) (k : Nat) : PosB N C (S (i + 1)) k ↔ PosB N C (S i) k := by
  have hr := r.rule i hi
  unfold Deg at hd
  unfold PosB
  rw [r.next i hi]
  show (∃ q, q < C ∧ (if q = R i then J i else (S i).b q) = k ∧ 0 < (if q = R i then (S i).T (R i) (N + C) else (S i).T q (N + C) - (S i).T q (J i) * (S i).T (R i) (N + C))) ↔ _
  constructor
  · rintro ⟨q, hq, e, hp⟩
    by_cases x : q = R i
    · rw [if_pos x] at hp; omega
    · rw [if_neg x] at e
      rw [if_neg x, hd, Int.mul_zero] at hp
      exact ⟨q, hq, e, by omega⟩
  · rintro ⟨q, hq, e, hp⟩
    have x : q ≠ R i := fun x => by rw [x] at hp; omega
    exact ⟨q, hq, by rw [if_neg x]; exact e, by rw [if_neg x, hd, Int.mul_zero]; omega⟩
theorem Run.posb_all (r : Run N C M n S R J) {a : Nat} (k : Nat) : ∀ m, a + m ≤ n → (∀ i, a ≤ i → i < a + m → Deg N C S R i) → (PosB N C (S (a + m)) k ↔ PosB N C (S a) k)
  | 0, _, _ => Iff.rfl
  | m + 1, h, hd => (r.posb (i := a + m) (by omega) (hd _ (by omega) (by omega)) k).trans (r.posb_all k m (by omega) fun i h1 h2 => hd i h1 (by omega))
theorem Run.posb_seg (r : Run N C M n S R J) {a b : Nat} (hb : b ≤ n) (hd : ∀ i, a ≤ i → i < b → Deg N C S R i) (k : Nat) {u v : Nat} (hu : a ≤ u ∧ u ≤ b) (hv : a ≤ v ∧ v ≤ b) : PosB N C (S u) k ↔ PosB N C (S v) k := by
  have h1 := r.posb_all (a := a) k (u - a) (by omega) fun i x y => hd i x (by omega)
  have h2 := r.posb_all (a := a) k (v - a) (by omega) fun i x y => hd i x (by omega)
  rw [show a + (u - a) = u by omega] at h1
  rw [show a + (v - a) = v by omega] at h2
  exact h1.trans h2.symm
/-- A variable that does not pivot keeps its place in or out of the basis. -/
theorem Run.basic_all (r : Run N C M n S R J) {a : Nat} (k : Nat) : ∀ m, a + m ≤ n → (∀ i, a ≤ i → i < a + m → J i ≠ k ∧ (S i).b (R i) ≠ k) → (Basic C (S (a + m)) k ↔ Basic C (S a) k)
  | 0, _, _ => Iff.rfl
  | m + 1, h, hd => by
    have hm := hd (a + m) (by omega) (by omega)
    refine (r.basic (i := a + m) (by omega) k).trans (Iff.trans ?_ (r.basic_all k m (by omega) fun i h1 h2 => hd i h1 (by omega)))
    exact ⟨fun h => h.elim (fun e => absurd e.symm hm.1) fun h => h.1, fun h => .inr ⟨h, fun e => hm.2 e.symm⟩⟩
theorem Run.basic_seg (r : Run N C M n S R J) {a b : Nat} (hb : b ≤ n) (k : Nat) (hd : ∀ i, a ≤ i → i < b → J i ≠ k ∧ (S i).b (R i) ≠ k) {u v : Nat} (hu : a ≤ u ∧ u ≤ b) (hv : a ≤ v ∧ v ≤ b) : Basic C (S u) k ↔ Basic C (S v) k := by
  have h1 := r.basic_all (a := a) k (u - a) (by omega) fun i x y => hd i x (by omega)
  have h2 := r.basic_all (a := a) k (v - a) (by omega) fun i x y => hd i x (by omega)
  rw [show a + (u - a) = u by omega] at h1
  rw [show a + (v - a) = v by omega] at h2
  exact h1.trans h2.symm

/-- What is to become 0 of one tableau, along the direction of a column of another one. -/
theorem along {A B : Tb} (ha : Inv N C M A) (hb : Inv N C M B) {j : Nat} (hj : j < N + C) : A.g j - sumN (fun i => B.T i j * A.g (B.b i)) C = B.g j := by
  obtain ⟨y, hy⟩ := ha.goal
  have e1 : sumN (fun i => B.T i j * A.g (B.b i)) C = sumN (fun i => B.T i j * cost N C (B.b i)) C - sumN (fun c => y c * M c j) C := by
    have e2 : sumN (fun c => y c * M c j) C = sumN (fun i => B.T i j * sumN (fun c => y c * M c (B.b i)) C) C := by
      have e3 : sumN (fun c => y c * M c j) C = sumN (fun c => sumN (fun i => B.T i j * (y c * M c (B.b i))) C) C := sum_congr fun c hcl => by
        rw [hb.by_basis (Nat.le_of_lt hj) hcl, ← sum_mul]
        exact sum_congr fun i _ => Int.mul_left_comm _ _ _
      rw [e3, sum_comm3]
      exact sum_congr fun i _ => sum_mul _ _ _
    rw [e2, ← sum_sub]
    refine sum_congr fun i hi => ?_
    rw [hy _ (Nat.le_of_lt (hb.bas i hi)), Int.mul_sub]
  rw [e1, hy j (Nat.le_of_lt hj), goal_by hb (Nat.le_of_lt hj)]
  omega

/-- In a run without gain in which no variable above t pivots, t does not both come in and go out. -/
theorem Run.once (r : Run N C M n S R J) {a b t : Nat} (hb : b ≤ n) (hd : ∀ i, a ≤ i → i < b → Deg N C S R i ∧ J i ≤ t ∧ (S i).b (R i) ≤ t) {u v : Nat} (hu : a ≤ u ∧ u < b) (hv : a ≤ v ∧ v < b) (eu : J u = t) (ev : (S v).b (R v) = t) : False := by
  have hru := r.rule u (by omega)
  have hrv := r.rule v (by omega)
  have iu := r.inv u (by omega)
  have iv := r.inv v (by omega)
  have hal := along iu iv hrv.jl
  have hst : J v ≠ t := fun e => r.out_in (i := v) (by omega) ⟨R v, hrv.rl, ev.trans e.symm⟩
  have hslt : J v < t := by have := (hd v hv.1 hv.2).2.1; omega
  have h1 : 0 ≤ (S u).g (J v) := hru.low _ (by rw [eu]; exact hslt)
  have h2 : sumN (fun i => (S v).T i (J v) * (S u).g ((S v).b i)) C ≤ sumN (fun _ => 0) C := sum_le fun i hi => by
    by_cases hz : (S u).g ((S v).b i) = 0
    · rw [hz, Int.mul_zero]; exact Int.le_refl _
    by_cases hi2 : i = R v
    · subst hi2
      have hp := hrv.pos
      have hn : (S u).g ((S v).b (R v)) < 0 := by rw [ev, ← eu]; exact hru.neg
      exact Int.le_of_lt (Int.mul_neg_of_pos_of_neg hp hn)
    have hkt : (S v).b i ≠ t := fun e => hi2 (basis_inj iv hi hrv.rl (e.trans ev.symm))
    have hnb : ¬ Basic C (S u) ((S v).b i) := by
      rintro ⟨q, hq, e⟩
      have := iu.gb q hq
      rw [e] at this
      exact hz this
    have hle : (S v).b i ≤ t := by
      refine Classical.byContradiction fun hgt => ?_
      have := r.basic_seg (a := a) (b := b) hb ((S v).b i) (fun m h1 h2 => ⟨fun e => by have := (hd m h1 h2).2.1; omega, fun e => by have := (hd m h1 h2).2.2; omega⟩) (u := u) (v := v) (by omega) (by omega)
      exact hnb (this.2 ⟨i, hi, rfl⟩)
    have hg : 0 ≤ (S u).g ((S v).b i) := hru.low _ (by rw [eu]; omega)
    have hT : (S v).T i (J v) ≤ 0 := by
      refine Classical.byContradiction fun hgt => ?_
      have hra := hrv.ratio i hi (by omega)
      have hdv := (hd v hv.1 hv.2).1
      unfold Deg at hdv
      have hnp : ¬ 0 < (S v).T i (N + C) := fun hp => by
        have hx : PosB N C (S v) ((S v).b i) := ⟨i, hi, rfl, hp⟩
        obtain ⟨q, hq, e, _⟩ := (r.posb_seg hb (fun m h1 h2 => (hd m h1 h2).1) ((S v).b i) (u := u) (v := v) (by omega) (by omega)).2 hx
        exact hnb ⟨q, hq, e⟩
      have := iv.rhs i hi
      rw [ev, hdv] at hra
      omega
    exact Int.mul_nonpos_of_nonpos_of_nonneg hT hg
  rw [sum_zero] at h2
  have := hrv.neg
  omega

theorem least_in {P : Nat → Prop} {a b : Nat} (h : ∃ i, a ≤ i ∧ i < b ∧ P i) : ∃ i, a ≤ i ∧ i < b ∧ P i ∧ ∀ m, a ≤ m → m < i → ¬ P m := by
  obtain ⟨i, h1, h2, h3⟩ := h
  induction i using Nat.strongRecOn with
  | ind i ih =>
    by_cases hx : ∃ m, a ≤ m ∧ m < i ∧ P m
    · obtain ⟨m, p1, p2, p3⟩ := hx
      exact ih m p2 p1 (by omega) p3
    · exact ⟨i, h1, h2, h3, fun m p1 p2 p3 => hx ⟨m, p1, p2, p3⟩⟩

/-- A run without gain among t variables has fewer than 2^t pivots. -/
theorem Run.short (r : Run N C M n S R J) : ∀ (t a b : Nat), b ≤ n → (∀ i, a ≤ i → i < b → Deg N C S R i ∧ J i < t ∧ (S i).b (R i) < t) → b - a < 2 ^ t
  | 0, a, b, hb, hd => by
    by_cases h : a < b
    · have := (hd a (Nat.le_refl _) h).2.1; omega
    · rw [Nat.pow_zero]; omega
  | t + 1, a, b, hb, hd => by
    have hp : 2 ^ (t + 1) = 2 ^ t + 2 ^ t := by rw [Nat.pow_succ]; omega
    by_cases hx : ∃ i, a ≤ i ∧ i < b ∧ (J i = t ∨ (S i).b (R i) = t)
    · obtain ⟨i, h1, h2, h3, h4⟩ := least_in hx
      have hd' : ∀ m, a ≤ m → m < b → Deg N C S R m ∧ J m ≤ t ∧ (S m).b (R m) ≤ t := fun m p1 p2 => by
        have := hd m p1 p2
        exact ⟨this.1, by omega, by omega⟩
      have l1 := r.short t a i (by omega) fun m p1 p2 => by
        have q := hd m p1 (by omega)
        have := h4 m p1 p2
        exact ⟨q.1, by omega, by omega⟩
      have hno : ∀ m, i + 1 ≤ m → m < b → ¬ (J m = t ∨ (S m).b (R m) = t) := by
        intro m p1 p2 p3
        obtain ⟨m, q1, q2, q3, q4⟩ := least_in (P := fun m => J m = t ∨ (S m).b (R m) = t) (a := i + 1) (b := b) ⟨m, p1, p2, p3⟩
        have hseg := r.basic_seg (a := i + 1) (b := m) (by omega) t (fun x y1 y2 => ⟨fun e => q4 x y1 y2 (.inl e), fun e => q4 x y1 y2 (.inr e)⟩) (u := m) (v := i + 1) (by omega) (by omega)
        have hstep := r.basic (i := i) (by omega) t
        rcases h3 with e | e
        · have hbm : Basic C (S m) t := hseg.2 (hstep.2 (.inl e.symm))
          rcases q3 with e2 | e2
          · exact r.out_in (i := m) (by omega) (by rw [e2]; exact hbm)
          · exact r.once hb hd' (u := i) (v := m) (by omega) (by omega) e e2
        · have hnb : ¬ Basic C (S m) t := fun hbm => by
            rcases hstep.1 (hseg.1 hbm) with e3 | ⟨_, e3⟩
            · refine r.out_in (i := i) (by omega) ?_
              exact ⟨R i, (r.rule i (by omega)).rl, e.trans e3⟩
            · exact e3 e.symm
          rcases q3 with e2 | e2
          · exact r.once hb hd' (u := m) (v := i) (by omega) (by omega) e2 e
          · exact hnb ⟨R m, (r.rule m (by omega)).rl, e2⟩
      have l2 := r.short t (i + 1) b hb fun m p1 p2 => by
        have q := hd m (by omega) p2
        have := hno m p1 p2
        exact ⟨q.1, by omega, by omega⟩
      omega
    · have := r.short t a b hb fun m p1 p2 => by
        have q := hd m p1 p2
        have : ¬ (J m = t ∨ (S m).b (R m) = t) := fun e => hx ⟨m, p1, p2, e⟩
        exact ⟨q.1, by omega, by omega⟩
      omega

/-- Runs are not longer than a bound. -/
theorem Run.bound (r : Run N C M n S R J) (hc : Cols N C M s) : ∀ (g a : Nat), a ≤ n → -(S a).g (N + C) ≤ g → n - a < (g + 1) * 2 ^ (N + C) := by
  intro g
  induction g with
  | zero =>
    intro a ha hg
    have hall : ∀ i, a ≤ i → i < n → Deg N C S R i ∧ (S i).g (N + C) = 0 := by
      have key : ∀ m, a + m ≤ n → (S (a + m)).g (N + C) = 0 ∧ ∀ i, a ≤ i → i < a + m → Deg N C S R i ∧ (S i).g (N + C) = 0 := by
        intro m
        induction m with
        | zero =>
          intro h
          have := (goal_last hc (r.inv a ha)).2
          exact ⟨by show (S a).g (N + C) = 0; omega, fun i h1 h2 => by omega⟩
        | succ m ih =>
          intro h
          obtain ⟨h0, hi⟩ := ih (by omega)
          have hru := r.rule (a + m) (by omega)
          have hnx := r.next (a + m) (by omega)
          have hg1 := (goal_last hc (r.inv (a + m + 1) (by omega))).2
          have e : (S (a + m + 1)).g (N + C) = (S (a + m)).g (N + C) - (S (a + m)).g (J (a + m)) * (S (a + m)).T (R (a + m)) (N + C) := by rw [hnx]; rfl
          have hrhs := (r.inv (a + m) (by omega)).rhs _ hru.rl
          have hneg := hru.neg
          have hz : (S (a + m)).T (R (a + m)) (N + C) = 0 := by
            refine Classical.byContradiction fun hne => ?_
            have hp : 0 < (S (a + m)).T (R (a + m)) (N + C) := by omega
            have := Int.mul_neg_of_neg_of_pos hneg hp
            omega
          have e2 : (S (a + m + 1)).g (N + C) = 0 := by rw [e, hz, Int.mul_zero, h0]; rfl
          refine ⟨e2, fun i h1 h2 => ?_⟩
          by_cases x : i = a + m
          · subst x; exact ⟨hz, h0⟩
          · exact hi i h1 (by omega)
      intro i h1 h2
      exact (key (n - a) (by omega)).2 i h1 (by omega)
    have := r.short (N + C) a n (Nat.le_refl _) fun i h1 h2 => ⟨(hall i h1 h2).1, (r.rule i h2).jl, (r.inv i (by omega)).bas _ (r.rule i h2).rl⟩
    omega
  | succ g ih =>
    intro a ha hg
    have hp : (g + 1 + 1) * 2 ^ (N + C) = (g + 1) * 2 ^ (N + C) + 2 ^ (N + C) := by rw [Nat.add_mul (g + 1) 1, Nat.one_mul]
    by_cases hx : ∃ i, a ≤ i ∧ i < n ∧ ¬ Deg N C S R i
    · obtain ⟨i, h1, h2, h3, h4⟩ := least_in hx
      have hdeg : ∀ m, a ≤ m → m < i → Deg N C S R m := fun m p1 p2 => Classical.not_not.1 (h4 m p1 p2)
      have l1 := r.short (N + C) a i (by omega) fun m p1 p2 => ⟨hdeg m p1 p2, (r.rule m (by omega)).jl, (r.inv m (by omega)).bas _ (r.rule m (by omega)).rl⟩
      have hsame : ∀ m, a + m ≤ i → (S (a + m)).g (N + C) = (S a).g (N + C) := by
        intro m
        induction m with
        | zero => intro _; rfl
        | succ m ihm =>
          intro h
          have hnx := r.next (a + m) (by omega)
          have e : (S (a + m + 1)).g (N + C) = (S (a + m)).g (N + C) - (S (a + m)).g (J (a + m)) * (S (a + m)).T (R (a + m)) (N + C) := by rw [hnx]; rfl
          have hz := hdeg (a + m) (by omega) (by omega)
          unfold Deg at hz
          rw [show a + (m + 1) = a + m + 1 by omega, e, hz, Int.mul_zero, Int.sub_zero]
          exact ihm (by omega)
      have hi := hsame (i - a) (by omega)
      rw [show a + (i - a) = i by omega] at hi
      have hru := r.rule i h2
      have hnx := r.next i h2
      have e : (S (i + 1)).g (N + C) = (S i).g (N + C) - (S i).g (J i) * (S i).T (R i) (N + C) := by rw [hnx]; rfl
      have hrhs := (r.inv i (by omega)).rhs _ hru.rl
      have hpos : 0 < (S i).T (R i) (N + C) := by unfold Deg at h3; omega
      have hmul := Int.mul_neg_of_neg_of_pos hru.neg hpos
      have l2 := ih (i + 1) (by omega) (by omega)
      omega
    · have := r.short (N + C) a n (Nat.le_refl _) fun i h1 h2 => ⟨Classical.byContradiction fun h => hx ⟨i, h1, h2, h⟩, (r.rule i h2).jl, (r.inv i (by omega)).bas _ (r.rule i h2).rl⟩
      have : 2 ^ (N + C) ≤ (g + 1) * 2 ^ (N + C) + 2 ^ (N + C) := Nat.le_add_left _ _
      omega
end

/-- From S there are at most n pivots. -/
def Within (N C : Nat) : Nat → Tb → Prop
  | 0, S => ∀ r j, ¬ Rule N C S r j
  | n + 1, S => ∀ r j, Rule N C S r j → Within N C n (pv S r j)
theorem within_run {N C : Nat} {M : Nat → Nat → Int} {s : Nat → Int} (hc : Cols N C M s) {B : Nat} : ∀ (m : Nat) (S : Tb), Inv N C M S → (∀ n (Q : Nat → Tb) R J, Q 0 = S → Run N C M n Q R J → n ≤ m) → Within N C m S
  | 0, S, hi, h => fun r j hr => by
    have := h 1 (fun n => if n = 0 then S else pv S r j) (fun _ => r) (fun _ => j) rfl ⟨fun i hi' => by
      by_cases e : i = 0
      · simp only [if_pos e]; exact hi
      · simp only [if_neg e]; exact pv_inv hc hi hr, fun i hi' => by
      have : i = 0 := by omega
      subst this; exact hr, fun i hi' => by
      have : i = 0 := by omega
      subst this; rfl⟩
    omega
  | m + 1, S, hi, h => fun r j hr => by
    refine within_run (B := B) hc m (pv S r j) (pv_inv hc hi hr) fun n Q R J hQ hrun => ?_
    have := h (n + 1) (fun i => if i = 0 then S else Q (i - 1)) (fun i => if i = 0 then r else R (i - 1)) (fun i => if i = 0 then j else J (i - 1)) rfl ⟨fun i hi' => by
      by_cases e : i = 0
      · simp only [if_pos e]; exact hi
      · simp only [if_neg e]; exact hrun.inv _ (by omega), fun i hi' => by
      by_cases e : i = 0
      · subst e; exact hr
      · simp only [if_neg e]; exact hrun.rule _ (by omega), fun i hi' => by
      by_cases e : i = 0
      · subst e
        show Q 0 = pv S r j
        exact hQ
      · simp only [if_neg e]
        rw [if_neg (by omega), show i + 1 - 1 = i - 1 + 1 by omega]
        exact hrun.next _ (by omega)⟩
    omega
theorem within {N C : Nat} {M : Nat → Nat → Int} {s : Nat → Int} (hc : Cols N C M s) {S : Tb} (hi : Inv N C M S) : ∃ m, Within N C m S :=
  ⟨(C * C + 1) * 2 ^ (N + C), within_run (B := 0) hc _ S hi fun n Q R J hQ hrun => by
    have h1 := (goal_last hc hi).1
    have := hrun.bound hc (C * C) 0 (Nat.zero_le _) (by rw [hQ]; have : ((C * C : Nat) : Int) = (C : Int) * C := Int.natCast_mul _ _; omega)
    omega⟩

end Go.Sx
