/- Texts of my own, merged by program: Tp Tq. -/
import Derived.Test.YtbekeccfjmoonaaDoorM21
import Derived.Test.YtbekeccfjmoonaaDoorM35
set_option linter.all false
/- Contract of weight: Tilings. -/
namespace Go.Proofs.YtbekeccfjmoonaaDoor
open Go.Lf Go.RowKit Go.Ht

theorem keyed3 : Maps.Keyed Tryd.prog 3 := Maps.int_keyed (q := .i64) (by kernel_rfl)
abbrev iV (n : Int) : Value := .int .i64 n
theorem iV_inj {a b : Int} (h : iV a = iV b) : a = b := by injection h
theorem keyI : KeyE 3 iV i64B := ⟨keyed3, fun {k} h => ⟨_, Maps.keyOf_int_mk (by kernel_rfl) (i64_wf h)⟩, iV_inj⟩
theorem und56 : Tryd.prog.underlying 56 = some (.map 3 3) := by kernel_rfl
abbrev MapI (w : World) (b : Nat) (f : Int → Option Value) : Prop := MapO iV i64B w b f

/-! ### plain -/
def firstZ (m : Nat) : Nat → Nat → Nat
  | 0, i => i
  | n + 1, i => if m &&& 2 ^ i = 0 then i else firstZ m n (i + 1)
def fz (m : Nat) : Nat := firstZ m 16 0
theorem firstZ_zero {m : Nat} (h : m < 2 ^ 16) : ∀ (n i : Nat), i + n = 16 → m &&& 2 ^ firstZ m n i = 0
  | 0, i, e => by
    obtain rfl : i = 16 := by omega
    show m &&& 2 ^ 16 = 0
    refine Nat.eq_of_testBit_eq fun i => ?_
    rw [Nat.testBit_and, Nat.testBit_two_pow, Nat.zero_testBit]
    by_cases e : 16 = i
    · rw [← e, Nat.testBit_lt_two_pow h]; rfl
    · simp [e]
  | n + 1, i, e => by
    unfold firstZ
    split
    · assumption
    · exact firstZ_zero h n (i + 1) (by omega)
theorem firstZ_le (m : Nat) : ∀ (n i : Nat), firstZ m n i ≤ i + n
  | 0, i => Nat.le_refl _
  | n + 1, i => by
    unfold firstZ
    split
    · omega
    · have := firstZ_le m n (i + 1); omega
def bitsN (r : List Int) : Nat := r.foldl (fun a c => a ||| 2 ^ c.toNat) 0
/-- How many ways there are to fill the rest. -/
def tilF (full : Nat) (R : List (List Int)) : Nat → Nat → Nat
  | 0, m => if m = full then 1 else 0
  | n + 1, m => if m = full then 1 else (R.map fun r => if decide (((fz m : Nat) : Int) ∈ r) && decide (m &&& bitsN r = 0) then tilF full R n (m ||| bitsN r) else 0).sum
def til (full : Nat) (R : List (List Int)) (m : Nat) : Nat := tilF full R (full - m) m
/-- The covers are pairs of numbers below L. -/
def PairsB (L : Nat) (R : List (List Int)) : Prop := ∀ r ∈ R, ∃ i j : Nat, r = [((i : Nat) : Int), ((j : Nat) : Int)] ∧ i < L ∧ j < L ∧ i ≠ j
theorem bits_two (i j : Nat) : bitsN [((i : Nat) : Int), ((j : Nat) : Int)] = 2 ^ i ||| 2 ^ j := by simp [bitsN]
theorem or_grow {L m i j : Nat} (hm : m < 2 ^ L) (hi : i < L) (hj : j < L) (h0 : m &&& (2 ^ i ||| 2 ^ j) = 0) : m < m ||| (2 ^ i ||| 2 ^ j) ∧ m ||| (2 ^ i ||| 2 ^ j) < 2 ^ L := by
  have h1 : 2 ^ i < 2 ^ L := Nat.pow_lt_pow_right (by omega) hi
  have h2 : 2 ^ j < 2 ^ L := Nat.pow_lt_pow_right (by omega) hj
  refine ⟨?_, Nat.or_lt_two_pow hm (Nat.or_lt_two_pow h1 h2)⟩
  have hle : m ≤ m ||| (2 ^ i ||| 2 ^ j) := Nat.left_le_or
  rcases Nat.lt_or_ge m (m ||| (2 ^ i ||| 2 ^ j)) with h | h
  · exact h
  · have e : m ||| (2 ^ i ||| 2 ^ j) = m := by omega
    have ht : m.testBit i = true := by rw [← e]; simp
    have hf : (m &&& (2 ^ i ||| 2 ^ j)).testBit i = true := by simp [ht]
    rw [h0] at hf; simp at hf
theorem tilF_fuel {L : Nat} {R : List (List Int)} (hR : PairsB L R) : ∀ (n n' m : Nat), m < 2 ^ L → 2 ^ L - 1 ≤ n + m → 2 ^ L - 1 ≤ n' + m → tilF (2 ^ L - 1) R n m = tilF (2 ^ L - 1) R n' m
  | 0, n', m, hm, h1, h2 => by
    have e : m = 2 ^ L - 1 := by omega
    cases n' <;> simp [tilF, e]
  | n + 1, 0, m, hm, h1, h2 => by
    have e : m = 2 ^ L - 1 := by omega
    simp [tilF, e]
  | n + 1, n' + 1, m, hm, h1, h2 => by
    simp only [tilF]
    split
    · rfl
    · congr 1
      apply List.map_congr_left
      intro r hr
      obtain ⟨i, j, rfl, hi, hj, hij⟩ := hR r hr
      rw [bits_two]
      split
      · rename_i h
        rw [Bool.and_eq_true] at h
        obtain ⟨g1, g2⟩ := or_grow hm hi hj (of_decide_eq_true h.2)
        exact tilF_fuel hR n n' _ g2 (by omega) (by omega)
      · rfl
theorem til_step {L : Nat} {R : List (List Int)} (hR : PairsB L R) {m : Nat} (hm : m < 2 ^ L) (hne : m ≠ 2 ^ L - 1) :
    til (2 ^ L - 1) R m = (R.map fun r => if decide (((fz m : Nat) : Int) ∈ r) && decide (m &&& bitsN r = 0) then til (2 ^ L - 1) R (m ||| bitsN r) else 0).sum := by
  unfold til
  obtain ⟨n, hn⟩ : ∃ n, 2 ^ L - 1 - m = n + 1 := ⟨2 ^ L - 1 - m - 1, by omega⟩
  rw [hn]
  simp only [tilF]
  rw [if_neg hne]
  congr 1
  apply List.map_congr_left
  intro r hr
  obtain ⟨i, j, rfl, hi, hj, hij⟩ := hR r hr
  rw [bits_two]
  split
  · rename_i h
    rw [Bool.and_eq_true] at h
    obtain ⟨g1, g2⟩ := or_grow hm hi hj (of_decide_eq_true h.2)
    exact tilF_fuel hR n _ _ g2 (by omega) (by omega)
  · rfl
theorem til_full (full : Nat) (R : List (List Int)) : til full R full = 1 := by unfold til; rw [Nat.sub_self]; simp [tilF]

/-- How many bits below L are not set. -/
def unset (L m : Nat) : Nat := ((List.range L).filter fun i => !m.testBit i).length
theorem unset_less {L m i : Nat} (hi : i < L) (h : m.testBit i = false) : unset L (m ||| 2 ^ i) < unset L m :=
  filter_less (y := i) (fun x _ hx => by
    rw [Nat.testBit_or] at hx
    cases q : m.testBit x with
    | false => rfl
    | true => rw [q] at hx; simp at hx) (List.mem_range.2 hi) (by simp) (by simp [h])
theorem sum_map_le {α : Type} {f : α → Nat} {B : Nat} : ∀ {L : List α}, (∀ x ∈ L, f x ≤ B) → (L.map f).sum ≤ L.length * B
  | [], _ => by simp
  | a :: L, h => by
    have h1 := h a (List.mem_cons_self ..)
    have h2 := sum_map_le (L := L) fun x hx => h x (List.mem_cons_of_mem _ hx)
    rw [List.map_cons, List.sum_cons, List.length_cons, Nat.add_mul]; omega
theorem tilF_le {L : Nat} {R : List (List Int)} (hR : PairsB L R) (hl : R.length ≤ 32) : ∀ (n m : Nat), tilF (2 ^ L - 1) R n m ≤ 32 ^ (unset L m / 2)
  | 0, m => by
    simp only [tilF]
    have := Nat.one_le_two_pow (n := 5 * (unset L m / 2))
    have e : (32 : Nat) ^ (unset L m / 2) = 2 ^ (5 * (unset L m / 2)) := by rw [Nat.pow_mul]
    split <;> omega
  | n + 1, m => by
    have h1 := Nat.one_le_two_pow (n := 5 * (unset L m / 2))
    have e : (32 : Nat) ^ (unset L m / 2) = 2 ^ (5 * (unset L m / 2)) := by rw [Nat.pow_mul]
    simp only [tilF]
    split
    · omega
    · by_cases hu : 2 ≤ unset L m
      · refine Nat.le_trans (sum_map_le (B := 32 ^ (unset L m / 2 - 1)) fun r hr => ?_) ?_
        · obtain ⟨i, j, rfl, hi, hj, hij⟩ := hR r hr
          rw [bits_two]
          split
          · rename_i h
            rw [Bool.and_eq_true] at h
            have h0 := of_decide_eq_true h.2
            have hbi : m.testBit i = false := by
              cases q : m.testBit i with
              | false => rfl
              | true =>
                have : (m &&& (2 ^ i ||| 2 ^ j)).testBit i = true := by simp [q]
                rw [h0] at this; simp at this
            have hbj : m.testBit j = false := by
              cases q : m.testBit j with
              | false => rfl
              | true =>
                have : (m &&& (2 ^ i ||| 2 ^ j)).testBit j = true := by simp [q]
                rw [h0] at this; simp at this
            have u1 := unset_less hi hbi
            have u2 := unset_less (m := m ||| 2 ^ i) hj (by rw [Nat.testBit_or, hbj, Nat.testBit_two_pow]; simp [hij])
            rw [Nat.or_assoc] at u2
            refine Nat.le_trans (tilF_le hR hl n _) (Nat.pow_le_pow_right (by omega) ?_)
            omega
          · exact Nat.zero_le _
        · calc R.length * 32 ^ (unset L m / 2 - 1) ≤ 32 * 32 ^ (unset L m / 2 - 1) := Nat.mul_le_mul_right _ hl
            _ = 32 ^ (unset L m / 2) := by
              rw [Nat.mul_comm, ← Nat.pow_succ]
              congr 1; omega
      · refine Nat.le_trans (sum_map_le (B := 0) fun r hr => ?_) (by simp)
        obtain ⟨i, j, rfl, hi, hj, hij⟩ := hR r hr
        rw [bits_two]
        split
        · rename_i h
          rw [Bool.and_eq_true] at h
          have h0 := of_decide_eq_true h.2
          have hbi : m.testBit i = false := by
            cases q : m.testBit i with
            | false => rfl
            | true =>
              have : (m &&& (2 ^ i ||| 2 ^ j)).testBit i = true := by simp [q]
              rw [h0] at this; simp at this
          have hbj : m.testBit j = false := by
            cases q : m.testBit j with
            | false => rfl
            | true =>
              have : (m &&& (2 ^ i ||| 2 ^ j)).testBit j = true := by simp [q]
              rw [h0] at this; simp at this
          have u1 := unset_less hi hbi
          have u2 := unset_less (m := m ||| 2 ^ i) hj (by rw [Nat.testBit_or, hbj, Nat.testBit_two_pow]; simp [hij])
          omega
        · exact Nat.zero_le _
theorem til_le {L : Nat} {R : List (List Int)} (hR : PairsB L R) (hl : R.length ≤ 32) (hL : L ≤ 16) (m : Nat) : til (2 ^ L - 1) R m ≤ 1099511627776 := by
  refine Nat.le_trans (tilF_le hR hl _ m) (Nat.le_trans (Nat.pow_le_pow_right (by omega) (show unset L m / 2 ≤ 8 from ?_)) (by decide))
  have : unset L m ≤ L := by
    unfold unset
    exact Nat.le_trans (List.length_filter_le _ _) (by simp)
  omega

end Go.Proofs.YtbekeccfjmoonaaDoor

/- Contract of weight: Tilings, the walk. -/
namespace Go.Proofs.YtbekeccfjmoonaaDoor
open Go.Lf Go.RowKit Go.Ht

set_option maxRecDepth 100000 in
theorem idx51_calls {v : Value} {L : List Int} {c : Int} (w : World) (hv : RdI w v L) (hl : L.length ≤ 1000) :
    Calls Tryd.prog 51 #[v, iV c] w fun e w' => Kp w w' ∧ ∃ q : Int, e = .returned (.int .i64 q) ∧ decide (0 ≤ q) = decide (c ∈ L) := by
  obtain ⟨a, cap, ev, _⟩ := hv.len
  have lnv : ∀ K : Value → Prop, ln1 v K = K (.int .i64 L.length) := fun K => by rw [ev]; rfl
  refine lift51 ?_
  unfold S51
  rw [lnv]
  unfold S51L0
  refine ⟨fun t8 wr => ∃ i : Nat, i ≤ L.length ∧ t8 = .int .i64 i ∧ (∀ j, j < i → L.getD j 0 ≠ c) ∧ Kp w wr, fun t8 _ => L.length - (intOf t8).toNat, ⟨0, by omega, rfl, fun j hj => by omega, Kp.refl _⟩, ?_⟩
  rintro _ _ wr ⟨i, hi, rfl, hall, kr⟩
  by_cases hlt : i < L.length
  case neg =>
    have hlt' : ¬ (i : Int) < (L.length : Int) := by omega
    rw [r_lss, decide_eq_false hlt', r_condF]
    refine ⟨kr, -1, rfl, ?_⟩
    have : c ∉ L := fun hm => by
      obtain ⟨j, hj, e⟩ := List.getElem_of_mem hm
      exact hall j (by omega) (by rw [getD_lt L j 0 hj]; exact e)
    rw [decide_eq_false this]; rfl
  have hlt' : (i : Int) < (L.length : Int) := by omega
  rw [r_lss, decide_eq_true hlt', r_condT, int_at (hv.kp kr) hlt, r_eql]
  by_cases q : c = L.getD i 0
  · rw [decide_eq_true q, r_condT]
    refine ⟨kr, i, rfl, ?_⟩
    have : c ∈ L := by rw [q]; exact getD_mem hlt
    rw [decide_eq_true this, decide_eq_true (by omega)]
  · rw [decide_eq_false q, r_condF, r_add _ _ (by omega) (by omega)]
    refine ⟨⟨i + 1, by omega, by go_num, fun j hj => ?_, kr⟩, by simp only [intOf]; omega⟩
    by_cases e : j = i
    · rw [e]; exact fun e => q e.symm
    · exact hall j (by omega)
set_option maxRecDepth 100000 in
theorem has19_calls {v : Value} {L : List Int} {c : Int} (w : World) (hv : RdI w v L) (hl : L.length ≤ 1000) : Calls Tryd.prog 19 #[v, iV c] w fun e w' => e = .returned (.bool (decide (c ∈ L))) ∧ Kp w w' := by
  refine lift19 ?_
  unfold S19
  refine r_use fok51 (idx51_calls w hv hl) rfl ?_
  rintro _ w1 ⟨k1, q, rfl, hq⟩
  refine ⟨_, rfl, ?_⟩
  rw [r_geq, hq]
  exact ⟨rfl, k1⟩

set_option maxRecDepth 100000 in
theorem bits_calls {v : Value} {i j : Nat} (w : World) (hv : RdI w v [((i : Nat) : Int), ((j : Nat) : Int)]) (hi : i < 16) (hj : j < 16) : Calls Tryd.prog 20 #[v] w fun e w' => e = .returned (.int .i64 ((bitsN [((i : Nat) : Int), ((j : Nat) : Int)] : Nat) : Int)) ∧ Kp w w' := by
  obtain ⟨a, cap, ev, _⟩ := hv.len
  have lnv : ∀ K : Value → Prop, ln1 v K = K (.int .i64 ((2 : Nat) : Int)) := fun K => by rw [ev]; rfl
  have p1 : 2 ^ i < 65536 := Nat.lt_of_lt_of_le (Nat.pow_lt_pow_right (by omega) hi) (by decide)
  have p2 : 2 ^ j < 65536 := Nat.lt_of_lt_of_le (Nat.pow_lt_pow_right (by omega) hj) (by decide)
  refine lift20 ?_
  unfold S20
  rw [lnv]
  unfold S20L0
  refine ⟨fun t3 t8 w' => ∃ q : Nat, q ≤ 2 ∧ t8 = .int .i64 q ∧ t3 = .int .i64 ((bitsN (([((i : Nat) : Int), ((j : Nat) : Int)] : List Int).take q) : Nat) : Int) ∧ Kp w w', fun _ t8 _ => 2 - (intOf t8).toNat, ⟨0, by omega, rfl, rfl, Kp.refl _⟩, ?_⟩
  rintro _ _ _ wr ⟨q, hq, rfl, rfl, kr⟩
  by_cases hlt : q < 2
  case neg =>
    have hlt' : ¬ (q : Int) < ((2 : Nat) : Int) := by omega
    obtain rfl : q = 2 := by omega
    rw [r_lss, decide_eq_false hlt', r_condF]
    exact ⟨rfl, kr⟩
  have hlt' : (q : Int) < ((2 : Nat) : Int) := by omega
  rw [r_lss, decide_eq_true hlt', r_condT, int_at (hv.kp kr) (i := q) hlt]
  match q, hlt with
  | 0, _ =>
    show binQ Tryd.prog wr .shl 3 true (.int .i64 1) (.int .i64 ((i : Nat) : Int)) _
    rw [r_shl1 i (by omega)]
    show binQ Tryd.prog wr .or 3 false (.int .i64 ((0 : Nat) : Int)) (.int .i64 ((2 ^ i : Nat) : Int)) _
    rw [r_orN _ _ (by omega) p1, r_add _ _ (by omega) (by omega)]
    exact ⟨⟨1, by omega, rfl, by simp [bitsN], kr⟩, by simp [intOf]⟩
  | 1, _ =>
    show binQ Tryd.prog wr .shl 3 true (.int .i64 1) (.int .i64 ((j : Nat) : Int)) _
    rw [r_shl1 j (by omega)]
    have e : bitsN (([((i : Nat) : Int), ((j : Nat) : Int)] : List Int).take 1) = 2 ^ i := by simp [bitsN]
    rw [e, r_orN _ _ p1 p2, r_add _ _ (by omega) (by omega)]
    exact ⟨⟨2, by omega, rfl, by simp [bitsN], kr⟩, by simp [intOf]⟩

structure EnvT (w0 w : World) (b8 b6 b9 bp mb : Nat) : Prop where
  kp : Kp w0 w
  m0 : w0.heap.size ≤ mb
  c8 : w.heap[b8]? = some (.cells #[.map (some mb)] 56 (0, 0))
  c6 : w.heap[b6]? = some (.cells #[ptrV bp] 46 (0, 0))
  c9 : w.heap[b9]? = some (.cells #[.func (.func 18) #[] #[ptrV b8, ptrV b6, ptrV b9]] 57 (0, 0))
  d : b8 ≠ mb ∧ b6 ≠ mb ∧ b9 ≠ mb
theorem EnvT.chg {w0 w w' : World} {b8 b6 b9 bp mb : Nat} (h : EnvT w0 w b8 b6 b9 bp mb) (c : Chg (fun k => k = mb) w w') : EnvT w0 w' b8 b6 b9 bp mb :=
  ⟨Kp.of_chg h.kp c fun i hi => by have := h.m0; omega, h.m0, c.at h.c8 h.d.1, c.at h.c6 h.d.2.1, c.at h.c9 h.d.2.2, h.d⟩
theorem box1 {w : World} {b : Nat} {x : Value} {t : TypeId} (h : w.heap[b]? = some (.cells #[x] t (0, 0))) : w.cell? ⟨b, 0, none⟩ = some x := by rw [cell_row h]; rfl

def GoodT (full : Nat) (R : List (List Int)) (f : Int → Option Value) : Prop := f full = some (.int .i64 1) ∧ ∀ k v, f k = some v → ∃ m : Nat, k = m ∧ v = .int .i64 ((til full R m : Nat) : Int)
theorem GoodT.put {full : Nat} {R : List (List Int)} {f : Int → Option Value} (h : GoodT full R f) {m : Nat} (hm : m ≠ full) : GoodT full R (updO f (m : Int) (.int .i64 ((til full R m : Nat) : Int))) := by
  refine ⟨by rw [updO_ne (by omega)]; exact h.1, fun k v hk => ?_⟩
  by_cases e : k = (m : Int)
  · rw [e, updO_same] at hk
    cases hk
    exact ⟨m, e, rfl⟩
  · rw [updO_ne e] at hk
    exact h.2 k v hk
def termT (full : Nat) (R : List (List Int)) (m : Nat) (r : List Int) : Nat := if decide (((fz m : Nat) : Int) ∈ r) && decide (m &&& bitsN r = 0) then til full R (m ||| bitsN r) else 0

set_option maxRecDepth 100000 in
set_option maxHeartbeats 4000000 in
theorem til_calls {base bp bf bm b8 b6 b9 mb : Nat} {fv tv pv cv : Value} {vs : List Value} {P : List C2} {PU : List Pu} {w0 : World} (hP : PrAt base w0 bp bf bm fv tv pv cv vs P PU) (hL : P.length ≤ 16) (hl : PU.length ≤ 32) (hR : PairsB P.length (PU.map (covOf P))) :
    ∀ (n : Nat) {w : World} {f : Int → Option Value} {m : Nat}, 2 ^ P.length - 1 < n + m → m < 2 ^ P.length → EnvT w0 w b8 b6 b9 bp mb → MapI w mb f → GoodT (2 ^ P.length - 1) (PU.map (covOf P)) f →
      Calls Tryd.prog 18 #[.int .i64 m, ptrV b8, ptrV b6, ptrV b9] w fun e w' => e = .returned (.int .i64 ((til (2 ^ P.length - 1) (PU.map (covOf P)) m : Nat) : Int)) ∧ Chg (fun k => k = mb) w w' ∧ ∃ f', MapI w' mb f' ∧ GoodT (2 ^ P.length - 1) (PU.map (covOf P)) f' := by
  have h16 : 2 ^ P.length ≤ 2 ^ 16 := Nat.pow_le_pow_right (by omega) hL
  have e16 : (2 : Nat) ^ 16 = 65536 := by decide
  generalize hRe : PU.map (covOf P) = R at *
  generalize hfull : 2 ^ P.length - 1 = full at *
  have hRl : R.length = PU.length := by rw [← hRe]; simp
  intro n
  induction n with
  | zero => intro w f m h1 h2; omega
  | succ n ih =>
    intro w f m hn hm E hM hG
    have okm : i64B (m : Int) := ⟨by omega, by omega⟩
    refine lift18 ?_
    unfold S18
    rw [r_ld (box1 E.c8), r_lkO2 keyI und56 zero3 hM okm, r_ex2a, r_ex2b]
    cases hf : f (m : Int) with
    | some u =>
      obtain ⟨m', e1, e2⟩ := hG.2 _ _ hf
      obtain rfl : m = m' := by omega
      show condW (.bool true) _ _
      rw [r_condT]
      exact ⟨by rw [e2]; rfl, Chg.refl _ _, f, hM, hG⟩
    | none =>
    show condW (.bool false) _ _
    have hne : m ≠ full := fun e => by rw [e, hG.1] at hf; cases hf
    rw [r_condF]
    unfold S18L0
    refine ⟨fun t8 w' => ∃ i : Nat, i ≤ 16 ∧ t8 = .int .i64 i ∧ firstZ m (16 - i) i = fz m ∧ Kp w w', fun t8 _ => 17 - (intOf t8).toNat, ⟨0, by omega, rfl, rfl, Kp.refl _⟩, ?_⟩
    rintro _ _ wr ⟨i, hi, rfl, hfz, kr⟩
    have hpi : 2 ^ i ≤ 65536 := Nat.le_trans (Nat.pow_le_pow_right (by omega) hi) (by decide)
    rw [r_shl1 i hi, r_andN _ _ (by omega) hpi, r_neq]
    by_cases hz : m &&& 2 ^ i = 0
    case neg =>
      rw [decide_eq_false (by omega), Bool.not_false, r_condT, r_add _ _ (by omega) (by omega)]
      have hi16 : i ≠ 16 := fun e => hz (by
        subst e
        have := firstZ_zero (m := m) (by omega) 0 16 rfl
        exact this)
      refine ⟨⟨i + 1, by omega, by go_num, ?_, kr⟩, by simp only [intOf]; omega⟩
      rw [← hfz, show 16 - i = (16 - (i + 1)) + 1 by omega]
      conv => rhs; unfold firstZ
      rw [if_neg hz]
    have hif : i = fz m := by
      rw [← hfz]
      by_cases e : i = 16
      · subst e; rfl
      · rw [show 16 - i = (16 - (i + 1)) + 1 by omega]
        unfold firstZ
        rw [if_pos hz]
    rw [decide_eq_true (by omega), Bool.not_true, r_condF]
    have Er := E.chg (Chg.of_kp kr)
    have Pr := hP.kp Er.kp
    obtain ⟨p0, p1, p2, p3⟩ := Pr.cells
    obtain ⟨ca, cc, ec, _⟩ := RecAt.len Pr.co
    have lnc : ∀ K : Value → Prop, ln1 cv K = K (.int .i64 (vs.length : Nat)) := fun K => by rw [ec]; rfl
    rw [r_ld (box1 Er.c6), r_nc, r_fa, Nat.zero_add, r_ld p3, lnc]
    have hvl : vs.length = R.length := by rw [hP.len, hRl]
    have hMr := hM.kp kr
    have hstep : til full R m = (R.map (termT full R m)).sum := by
      have := til_step (R := R) hR hm (by omega)
      rw [hfull] at this
      exact this
    have hle := til_le (R := R) hR (by omega) hL m
    rw [hfull, hstep] at hle
    rw [hif]
    unfold S18L1
    refine ⟨fun t9 t32 w' => ∃ (j : Nat) (f' : Int → Option Value), j ≤ vs.length ∧ t32 = .int .i64 j ∧ t9 = .int .i64 ((((R.map (termT full R m)).take j).sum : Nat) : Int) ∧ Chg (fun k => k = mb) wr w' ∧ MapI w' mb f' ∧ GoodT full R f', fun _ t32 _ => vs.length - (intOf t32).toNat, ⟨0, f, by omega, rfl, rfl, Chg.refl _ _, hMr, hG⟩, ?_⟩
    rintro _ _ _ wq ⟨j, f1, hj, rfl, rfl, C, hM1, hG1⟩
    have Eq := Er.chg C
    have Pq := hP.kp Eq.kp
    have hst := sum_take_le (L := R.map (termT full R m)) j
    have hst1 := sum_take_le (L := R.map (termT full R m)) (j + 1)
    by_cases hlt : j < vs.length
    case neg =>
      have hlt' : ¬ (j : Int) < (vs.length : Int) := by omega
      rw [r_lss, decide_eq_false hlt', r_condF, r_ld (box1 Eq.c8)]
      refine r_muO keyI und56 zero3 hM1 okm fun w8 hM8 c8 s8 => ?_
      have e3 : (R.map (termT full R m)).take j = R.map (termT full R m) := List.take_of_length_le (by simp; omega)
      rw [e3, ← hstep] at hM8
      exact ⟨by rw [e3, hstep], (Chg.of_kp kr).trans (C.trans c8), _, hM8, hG1.put hne⟩
    have hlt' : (j : Int) < (vs.length : Int) := by omega
    have hjR : j < R.length := by omega
    have hjP : j < PU.length := by omega
    have hjm : j < (R.map (termT full R m)).length := by simpa using hjR
    have hts : ((R.map (termT full R m)).take (j + 1)).sum = ((R.map (termT full R m)).take j).sum + termT full R m R[j] := by
      rw [take_succ' _ _ hjm, List.sum_append, List.getElem_map]; simp
    have hrow := Pq.rows j _ _ (List.getElem?_eq_getElem hlt) (List.getElem?_eq_getElem hjP)
    have hrj : R[j] = covOf P PU[j] := by simp only [← hRe, List.getElem_map]
    obtain ⟨x, y, hxy, hx, hy, hne2⟩ := hR R[j] (List.getElem_mem hjR)
    rw [← hrj] at hrow
    obtain ⟨b', off, cap', e2, _, hc⟩ := (Pq.co.rd vE_len).at (List.getElem?_eq_getElem hlt)
    have hA := hc 0 _ rfl
    rw [Nat.add_zero] at hA
    have hjj : (j : Int).toNat = j := by omega
    rw [r_lss, decide_eq_true hlt', r_condT, e2, r_iaS _ _ _ _ _ _ _ (by omega) (by omega), hjj, r_ld hA]
    generalize vs[j] = rv at *
    generalize R[j] = r at *
    subst hxy
    have hrd := hrow.rd iC_len
    refine r_use fok19 (has19_calls (c := ((fz m : Nat) : Int)) wq hrd (by simp)) rfl ?_
    rintro _ w1 ⟨rfl, k1⟩
    refine ⟨_, rfl, ?_⟩
    have k0q1 : Kp wq w1 := k1
    have stay : termT full R m [((x : Nat) : Int), ((y : Nat) : Int)] = 0 → ∀ w2 : World, Kp wq w2 → binQ Tryd.prog w2 .add 3 true (.int .i64 (j : Int)) (.int .i64 1) fun t54 => (∃ (j' : Nat) (f' : Int → Option Value), j' ≤ vs.length ∧ t54 = Value.int .i64 j' ∧ Value.int .i64 ((((R.map (termT full R m)).take j).sum : Nat) : Int) = Value.int .i64 ((((R.map (termT full R m)).take j').sum : Nat) : Int) ∧ Chg (fun k => k = mb) wr w2 ∧ MapI w2 mb f' ∧ GoodT full R f') ∧ vs.length - (intOf t54).toNat < vs.length - (intOf (.int .i64 (j : Int))).toNat := fun h0 w2 k2 => by
      rw [r_add _ _ (by omega) (by omega)]
      refine ⟨⟨j + 1, f1, by omega, by go_num, ?_, C.trans (Chg.of_kp k2), hM1.kp k2, hG1⟩, by simp only [intOf]; omega⟩
      rw [hts, h0, Nat.add_zero]
    have hL16 : ∀ {q : Nat}, q < P.length → q < 16 := fun h => by omega
    have hbb : bitsN [((x : Nat) : Int), ((y : Nat) : Int)] < 65536 := by
      rw [bits_two]
      have g1 : 2 ^ x < 2 ^ 16 := Nat.pow_lt_pow_right (by omega) (hL16 hx)
      have g2 : 2 ^ y < 2 ^ 16 := Nat.pow_lt_pow_right (by omega) (hL16 hy)
      exact Nat.or_lt_two_pow g1 g2
    cases q1 : decide (((fz m : Nat) : Int) ∈ [((x : Nat) : Int), ((y : Nat) : Int)]) with
    | false =>
      simp only [r_gdFT, r_gdU, r_pickF, Join, r_condF]
      exact stay (by unfold termT; rw [q1]; rfl) w1 k1
    | true =>
    simp only [r_gdTT]
    refine r_use fok20 (bits_calls w1 (hrd.kp k1) (hL16 hx) (hL16 hy)) rfl ?_
    rintro _ w2 ⟨rfl, k2⟩
    refine ⟨_, rfl, ?_⟩
    have k12 := Kp.trans k1 k2
    rw [r_andN _ _ (by omega) (by omega), r_eql, r_pickT]
    have e1 : decide (((m &&& bitsN [((x : Nat) : Int), ((y : Nat) : Int)] : Nat) : Int) = 0) = decide (m &&& bitsN [((x : Nat) : Int), ((y : Nat) : Int)] = 0) := by rw [decide_eq_decide]; omega
    rw [e1]
    cases q2 : decide (m &&& bitsN [((x : Nat) : Int), ((y : Nat) : Int)] = 0) with
    | false =>
      simp only [Join, r_condF]
      exact stay (by unfold termT; rw [q1, q2]; rfl) w2 k12
    | true =>
    have hterm : termT full R m [((x : Nat) : Int), ((y : Nat) : Int)] = til full R (m ||| bitsN [((x : Nat) : Int), ((y : Nat) : Int)]) := by unfold termT; rw [q1, q2]; rfl
    obtain ⟨gr1, gr2⟩ := or_grow hm hx hy (by rw [← bits_two]; exact of_decide_eq_true q2)
    rw [← bits_two] at gr1 gr2
    generalize hB : bitsN [((x : Nat) : Int), ((y : Nat) : Int)] = B at *
    refine r_join1 (fun t9 w' => ∃ f2, t9 = .int .i64 ((((R.map (termT full R m)).take (j + 1)).sum : Nat) : Int) ∧ Chg (fun k => k = mb) wr w' ∧ MapI w' mb f2 ∧ GoodT full R f2) ?_ fun kk hkk => ?_
    · rintro _ w' ⟨f2, rfl, g1, g2, g3⟩
      rw [r_add _ _ (by omega) (by omega)]
      exact ⟨⟨j + 1, f2, by omega, by go_num, rfl, g1, g2, g3⟩, by simp only [intOf]; omega⟩
    rw [r_condT]
    refine r_drew fun w3 k3 _ => ⟨fun k => k = mb, ?_⟩
    have k13 := Kp.trans k12 k3
    have E3 := Eq.chg (Chg.of_kp k13)
    simp only [r_tx]
    rw [r_txl (box1 E3.c9) (by show ¬ b9 = mb; exact E.d.2.2)]
    refine r_use fok20 (bits_calls w3 (hrd.kp k13) (hL16 hx) (hL16 hy)) rfl ?_
    rintro _ w4 ⟨rfl, k4⟩
    rw [hB]
    refine ⟨_, rfl, BX.of_below k4, ?_⟩
    have hor : ∀ (w' : World) (K : Value → Prop), binQ Tryd.prog w' .or 3 false (.int .i64 ((m : Nat) : Int)) (.int .i64 ((B : Nat) : Int)) K = K (.int .i64 ((m ||| B : Nat) : Int)) := fun w' K => r_orN _ _ (by omega) (by omega)
    simp only [hor, r_tx]
    have E4 := E3.chg (Chg.of_kp k4)
    have k14 := Kp.trans k13 k4
    refine r_use fok18 (ih (m := m ||| B) (by omega) gr2 E4 (hM1.kp k14) hG1) rfl ?_
    rintro _ w5 ⟨rfl, C5, f2, hM5, hG5⟩
    refine ⟨_, rfl, BX.of_chg C5 fun k e => e, ?_⟩
    have hadd : ∀ (w' : World) (K : Value → Prop), binQ Tryd.prog w' .add 3 false (.int .i64 ((((R.map (termT full R m)).take j).sum : Nat) : Int)) (.int .i64 ((til full R (m ||| B) : Nat) : Int)) K = K (.int .i64 ((((R.map (termT full R m)).take (j + 1)).sum : Nat) : Int)) := fun w' K => by
      rw [hterm] at hts
      rw [r_add _ _ (by omega) (by omega), hts]
      congr 1
    simp only [hadd, r_tx]
    exact hkk _ _ ⟨f2, rfl, C.trans ((Chg.of_kp k14).trans C5), hM5, hG5⟩

set_option maxRecDepth 100000 in
theorem st46 {w : World} {b m : Nat} {x : Value} {K : World → Prop} (h : w.heap[b]? = some (.cells #[x] 46 (0, 0))) (hk : ∀ w', Chg (fun k => k = b) w w' → w'.heap.size = w.heap.size → w'.heap[b]? = some (.cells #[ptrV m] 46 (0, 0)) → K w') : stW Tryd.prog 46 (ptrV b) (ptrV m) w K :=
  r_stAll (n := 1) (by kernel_rfl) rfl (by intro u hu; simp [Value.cells] at hu; rcases hu with rfl; rfl) h rfl fun w' h1 h2 h3 => hk w' h1 h2 h3
set_option maxRecDepth 100000 in
theorem st46n {w : World} {b : Nat} {x : Value} {K : World → Prop} (h : w.heap[b]? = some (.cells #[x] 46 (0, 0))) (hk : ∀ w', Chg (fun k => k = b) w w' → w'.heap.size = w.heap.size → K w') : stW Tryd.prog 46 (ptrV b) (.pointer none) w K :=
  r_stAll (n := 1) (by kernel_rfl) rfl (by intro u hu; simp [Value.cells] at hu; rcases hu with rfl; rfl) h rfl fun w' h1 h2 h3 => hk w' h1 h2
set_option maxRecDepth 100000 in
theorem st56 {w : World} {b m : Nat} {x : Value} {K : World → Prop} (h : w.heap[b]? = some (.cells #[x] 56 (0, 0))) (hk : ∀ w', Chg (fun k => k = b) w w' → w'.heap.size = w.heap.size → w'.heap[b]? = some (.cells #[.map (some m)] 56 (0, 0)) → K w') : stW Tryd.prog 56 (ptrV b) (.map (some m)) w K :=
  r_stAll (n := 1) (by kernel_rfl) rfl (by intro u hu; simp [Value.cells] at hu; rcases hu with rfl; rfl) h rfl fun w' h1 h2 h3 => hk w' h1 h2 h3
set_option maxRecDepth 100000 in
theorem st57 {w : World} {b : Nat} {x : Value} {f : Fn} {a c : Array Value} {K : World → Prop} (h : w.heap[b]? = some (.cells #[x] 57 (0, 0))) (hk : ∀ w', Chg (fun k => k = b) w w' → w'.heap.size = w.heap.size → w'.heap[b]? = some (.cells #[.func f a c] 57 (0, 0)) → K w') : stW Tryd.prog 57 (ptrV b) (.func f a c) w K :=
  r_stAll (n := 1) (by kernel_rfl) rfl (by intro u hu; simp [Value.cells] at hu; rcases hu with rfl; rfl) h rfl fun w' h1 h2 h3 => hk w' h1 h2 h3

theorem pairs_ok (P : List C2) : PairsB P.length ((putsU P).map (covOf P)) := by
  intro r hr
  obtain ⟨p, hp, rfl⟩ := List.mem_map.1 hr
  obtain ⟨h1, h2, _⟩ := putsU_mem hp
  refine ⟨P.idxOf p.2, P.idxOf (stepC p.2 (domS p.1)), rfl, List.idxOf_lt_length_iff.2 h1, List.idxOf_lt_length_iff.2 h2, fun e => ?_⟩
  have inj : ∀ {a b : C2} (ha : a ∈ P) (hb : b ∈ P), P.idxOf a = P.idxOf b → a = b := fun {a b} ha hb e => by
    have g1 := List.getElem_idxOf (List.idxOf_lt_length_iff.2 ha)
    have g2 := List.getElem_idxOf (List.idxOf_lt_length_iff.2 hb)
    rw [← g1]
    simp only [e]
    exact g2
  have := inj h1 h2 e
  unfold stepC at this
  have a1 := congrArg Prod.fst this
  have a2 := congrArg Prod.snd this
  dsimp only at a1 a2
  rcases domS_or p.1 with e | e <;> rw [e] at a1 a2 <;> dsimp only at a1 a2 <;> omega
/-- The number of tilings. -/
def tilB (l : List ByteArray) : Nat := til (2 ^ (cellsB l).length - 1) ((putsU (cellsB l)).map (covOf (cellsB l))) 0

set_option maxRecDepth 100000 in
set_option maxHeartbeats 1000000 in
theorem Tilings_calls {v tv : Value} {l : List ByteArray} (w : World) (hr : RdB w v l) (hs : ∀ s ∈ l, s.size ≤ 9223372036854775807) (hT : TilesAt w tv) :
    Calls Tryd.prog 7 #[v, tv] w fun e w' => Kp w w' ∧ e = .returned (.tuple #[.int .i64 ((if flB l = true then tilB l else 0 : Nat) : Int), .int .i64 (if flB l = true then 0 else 2)]) := by
  refine lift7 ?_
  unfold S7
  refine r_use fok17 (of_calls w hr hs hT) rfl ?_
  rintro _ w1 ⟨k1, ⟨hf, bp, bf, bm, fv, pv, cv, vs, rfl, hP⟩ | ⟨hf, rfl⟩⟩
  case inr =>
    refine ⟨_, rfl, ?_⟩
    rw [r_ex2a, r_ex2b]
    refine r_box fun b6 w2 e2 s2 h2 k2 => ?_
    have h2' : w2.heap[b6]? = some (.cells #[.pointer none] 46 (0, 0)) := h2
    have sz1 := k1.size
    refine st46n h2' fun w3 c3 s3 => ?_
    rw [r_neq, decide_eq_false (by omega), Bool.not_false, r_condT]
    refine ⟨Kp.of_chg (Kp.trans k1 k2) c3 fun q e => by omega, ?_⟩
    rw [if_neg (by rw [hf]; simp), if_neg (by rw [hf]; simp)]; rfl
  refine ⟨_, rfl, ?_⟩
  obtain ⟨hcl, hRg⟩ := fl_small hf
  have sz1 := k1.size
  rw [r_ex2a, r_ex2b]
  refine r_box fun b6 w2 e2 s2 h2 k2 => ?_
  have h2' : w2.heap[b6]? = some (.cells #[.pointer none] 46 (0, 0)) := h2
  refine st46 h2' fun w3 c3 s3 h63 => ?_
  have k03 : Kp w w3 := Kp.of_chg (Kp.trans k1 k2) c3 fun q e => by omega
  have k13 : Kp w1 w3 := Kp.of_chg k2 c3 fun q e => by omega
  rw [r_neq, decide_eq_true rfl, Bool.not_true, r_condF]
  refine r_mm ?_
  have k4 : Kp w3 (w3.alloc (.map #[] 0)) := below_alloc _
  have hm4 := mapO_new iV i64B w3
  have mbl := hm4.lt
  generalize hmb : w3.heap.size = mb at *
  generalize w3.alloc (.map #[] 0) = w4 at *
  have P4 := hP.kp (Kp.trans k13 k4)
  obtain ⟨p0, p1, p2, p3⟩ := P4.cells
  have h64 := block_below h63 k4
  obtain ⟨fa, fc, ef, _⟩ := RecAt.len P4.fl.cl
  have lnf : ∀ K : Value → Prop, ln1 fv K = K (.int .i64 ((cellsB l).length : Nat)) := fun K => by rw [ef]; rfl
  have hpw : 2 ^ (cellsB l).length ≤ 2 ^ 16 := Nat.pow_le_pow_right (by omega) hcl
  have e16 : (2 : Nat) ^ 16 = 65536 := by decide
  have hp1 := Nat.one_le_two_pow (n := (cellsB l).length)
  rw [r_ld (box1 h64), r_nc, r_fa, Nat.zero_add, r_ld p0, r_nc, r_fa, Nat.zero_add, r_ld P4.fl.cells.1, lnf, r_shl1 _ hcl, r_sub _ _ (by omega) (by omega), show ((2 ^ (cellsB l).length : Nat) : Int) - 1 = ((2 ^ (cellsB l).length - 1 : Nat) : Int) by omega]
  refine r_muO keyI und56 zero3 hm4 (k := ((2 ^ (cellsB l).length - 1 : Nat) : Int)) ⟨by omega, by omega⟩ fun w5 hm5 c5 s5 => ?_
  have szw3 := k03.size
  have h65 := c5.at h64 (show ¬ b6 = mb by omega)
  refine r_box fun b8 w6 e6 s6 h6 k6 => ?_
  have h6' : w6.heap[b8]? = some (.cells #[.map none] 56 (0, 0)) := h6
  refine st56 h6' fun w7 c7 s7 h87 => ?_
  refine r_box fun b9 w8 e8 s8 h8 k8 => ?_
  have h8' : w8.heap[b9]? = some (.cells #[.nilFunc] 57 (0, 0)) := h8
  refine st57 h8' fun w9 c9 s9 h99 => ?_
  have k57 : Kp w5 w7 := Kp.of_chg k6 c7 fun q e => by omega
  have k79 : Kp w7 w9 := Kp.of_chg k8 c9 fun q e => by omega
  have k59 := Kp.trans k57 k79
  have sz57 := k57.size
  have k49 : Chg (fun k => k = mb) w4 w9 := c5.trans (Chg.of_kp k59)
  have k39 : Kp w3 w9 := Kp.of_chg k4 k49 fun q e => by omega
  have E : EnvT w3 w9 b8 b6 b9 bp mb := ⟨k39, by omega, block_below h87 k79, block_below h65 k59, h99, by omega, by omega, by omega⟩
  have hm9 := hm5.kp k59
  have hpl := putsP_le (cellsB l) (cellsB l).length (Nat.le_refl _)
  have hpl' : (putsU (cellsB l)).length ≤ 32 := by unfold putsU; omega
  rw [r_ld (box1 E.c9)]
  refine r_use fok18 (til_calls (m := 0) (hP.kp k13) hcl hpl' (pairs_ok _) (2 ^ (cellsB l).length) (by omega) (by omega) E hm9 ?_) rfl ?_
  · refine ⟨by rw [updO_same], fun k v hk => ?_⟩
    by_cases e : k = ((2 ^ (cellsB l).length - 1 : Nat) : Int)
    · rw [e, updO_same] at hk
      cases hk
      exact ⟨_, e, by rw [til_full]; rfl⟩
    · rw [updO_ne e] at hk
      cases hk
  rintro _ w10 ⟨rfl, C10, _⟩
  refine ⟨_, rfl, Kp.of_chg (Kp.trans k03 k39) C10 fun q e => by omega, ?_⟩
  rw [if_pos hf, if_pos hf]; rfl

end Go.Proofs.YtbekeccfjmoonaaDoor
