/- Texts of my own, merged by program: Xm Jb Jc. -/
import Derived.Test.YtkdcldbedbagjaaDoorN18
import Derived.Test.YtkdcldbedbagjaaDoorN14
import Derived.Test.YtkdcldbedbagjaaDoorN15
import Derived.Test.YtkdcldbedbagjaaDoorN16
set_option linter.all false
/- Contracts of the reference: root, bits, tree. -/
namespace Go.Proofs.YtkdcldbedbagjaaDoor
open Go.Lf Go.RowKit Go.Dt

def il (part : Nat → Nat) (n : Nat) : List Int := (List.range n).map fun v => (part v : Int)
theorem il_len (part : Nat → Nat) (n : Nat) : (il part n).length = n := by simp [il]
theorem il_get {part : Nat → Nat} {n v : Nat} (h : v < n) : (il part n).getD v 0 = part v := by simp [il, List.getD_eq_getElem?_getD, h]
theorem il_set {part : Nat → Nat} {n a b : Nat} : (il part n).set a (b : Int) = il (link part a b) n := by
  refine List.ext_getElem (by simp [il]) fun i h1 h2 => ?_
  rw [List.getElem_set]
  by_cases h : a = i
  · subst h; simp [il, link]
  · simp [il, link, h, Ne.symm h]

set_option maxRecDepth 100000 in
theorem root_calls {n u : Nat} {part : Nat → Nat} {v : Value} (w : World) (hlt : ∀ v, v < n → part v < n) (hdep : ∃ d : Nat → Nat, ∀ v, v < n → part v ≠ v → d (part v) < d v) (hr : RdInts w v (il part n)) (hu : u < n) :
    Calls Tryd.prog 88 #[v, .int .i64 u] w fun e w' => ∃ r, r < n ∧ RootOf part u r ∧ e = .returned (.int .i64 r) ∧ w = w' := by
  obtain ⟨d, hd⟩ := hdep
  refine lift88 ?_
  unfold S88 S88L0
  refine ⟨fun t wr => ∃ x : Nat, x < n ∧ t = .int .i64 x ∧ (∀ r, RootOf part x r → RootOf part u r) ∧ SameW w wr, fun t _ => d (intOf t).toNat, ⟨u, hu, rfl, fun _ h => h, rfl⟩, ?_⟩
  rintro _ _ wr ⟨x, hx, rfl, hroot, he⟩
  obtain rfl : w = wr := he
  have rd : ∀ K : Value → Prop, (iaS 1 v (.int .i64 x) fun q => ld1 w q K) = K (.int .i64 (part x)) := fun K => by
    rw [ints_ldK hr (by rw [il_len]; exact hx), il_get hx]
  rw [rd, r_neq]
  by_cases h : part x = x
  · have h' : ((part x : Nat) : Int) = (x : Int) := by omega
    rw [decide_eq_true h', Bool.not_true, r_condF]
    exact ⟨x, hx, hroot x (.self h), rfl, rfl⟩
  · have h' : ¬ ((part x : Nat) : Int) = (x : Int) := by omega
    rw [decide_eq_false h', Bool.not_false, r_condT, rd]
    refine ⟨⟨part x, hlt x hx, rfl, fun r hr => hroot r (.step h hr), rfl⟩, ?_⟩
    simp only [intOf]
    exact hd x hx h

theorem ones_more : ∀ {k m : Nat}, m < 2 ^ k → ones (k + 1) m = ones k m
  | 0, m, h => by
    have : m = 0 := by simpa using h
    subst this; rfl
  | k + 1, m, h => by
    have h2 : m / 2 < 2 ^ k := by rw [Nat.pow_succ] at h; omega
    show m % 2 + ones (k + 1) (m / 2) = m % 2 + ones k (m / 2)
    rw [ones_more h2]
theorem ones_to {k m : Nat} (h : m < 2 ^ k) : ∀ j, ones (k + j) m = ones k m
  | 0 => rfl
  | j + 1 => by
    rw [← Nat.add_assoc, ones_more (Nat.lt_of_lt_of_le h (Nat.pow_le_pow_right (by omega) (by omega))), ones_to h j]

theorem ones_le : ∀ k m, ones k m ≤ k
  | 0, _ => Nat.le_refl _
  | k + 1, m => by
    have := ones_le k (m / 2)
    simp only [ones]; omega
theorem ones_zero : ∀ k, ones k 0 = 0
  | 0 => rfl
  | k + 1 => by simp only [ones, Nat.zero_mod, Nat.zero_div, ones_zero k]

set_option maxRecDepth 100000 in
theorem bits_callsB {m K B : Nat} (w : World) (hB : ∀ y, y < B → ones K y = y % 2 + ones K (y / 2)) (hK : m < B) (hm : m ≤ 1000000) (hK2 : K ≤ 16) : Calls Tryd.prog 75 #[.int .i64 m] w fun e w' => e = .returned (.int .i64 (ones K m : Nat)) ∧ w = w' := by
  refine lift75 ?_
  unfold S75 S75L0
  refine ⟨fun t0 t3 wr => ∃ x c : Nat, t0 = .int .i64 x ∧ t3 = .int .i64 c ∧ x < B ∧ x ≤ 1000000 ∧ c + ones K x = ones K m ∧ SameW w wr, fun t0 _ _ => (intOf t0).toNat, ⟨m, 0, rfl, rfl, hK, hm, Nat.zero_add _, rfl⟩, ?_⟩
  rintro _ _ _ wr ⟨x, c, rfl, rfl, hx, hx2, hc, he⟩
  obtain rfl : w = wr := he
  have hob := ones_le K m
  by_cases h : 0 < x
  · have h' : (0 : Int) < (x : Int) := by omega
    rw [r_gtr, decide_eq_true h', r_condT]
    have q1 : ∀ KK : Value → Prop, binQ Tryd.prog w .rem 3 true (.int .i64 (x : Int)) (.int .i64 2) KK = KK (.int .i64 ((x % 2 : Nat) : Int)) := fun KK => r_remN x 2 (by omega)
    have q2 : ∀ KK : Value → Prop, binQ Tryd.prog w .quo 3 true (.int .i64 (x : Int)) (.int .i64 2) KK = KK (.int .i64 ((x / 2 : Nat) : Int)) := fun KK => r_quoN x 2 (by omega) (by omega)
    rw [q1, r_add _ _ (by omega) (by omega), q2]
    have h16 : ones K x = x % 2 + ones K (x / 2) := hB x hx
    exact ⟨⟨x / 2, c + x % 2, rfl, by rw [Int.natCast_add], Nat.lt_of_le_of_lt (Nat.div_le_self x 2) hx, Nat.le_trans (Nat.div_le_self x 2) hx2, by rw [← hc, h16, Nat.add_assoc], rfl⟩, by simp only [intOf]; omega⟩
  · have h' : ¬ (0 : Int) < (x : Int) := by omega
    rw [r_gtr, decide_eq_false h', r_condF]
    have hx0 : x = 0 := by omega
    rw [hx0, ones_zero, Nat.add_zero] at hc
    exact ⟨by rw [hc], by first | rfl | trivial⟩

theorem bits_calls {m K : Nat} (w : World) (hK : m < 2 ^ K) (hm : m ≤ 1000000) (hK2 : K ≤ 16) : Calls Tryd.prog 75 #[.int .i64 m] w fun e w' => e = .returned (.int .i64 (ones K m : Nat)) ∧ w = w' :=
  bits_callsB w (fun _ hy => (ones_more hy).symm) hK hm hK2

end Go.Proofs.YtkdcldbedbagjaaDoor

/- Contracts of the reference: sides, parted. -/
namespace Go.Proofs.YtkdcldbedbagjaaDoor
open Go.Lf Go.RowKit Go.Dt

set_option maxRecDepth 100000 in
theorem slt75 : SlT 75 97 3 24 := SlT.mk' (z := t3V (0, 0, 0)) (by kernel_rfl) (by kernel_rfl) rfl (by decide)
set_option maxRecDepth 100000 in
theorem bd97 {x y z : Int} {K : Value → Prop} : bdQ Tryd.prog 97 [(0, .int .i64 x), (1, .int .i64 y), (2, .int .i64 z)] K = K (t3V (x, y, z)) := by kernel_rfl
set_option maxRecDepth 100000 in
theorem bs75 (p : T3) (w : World) (K : Value → World → Prop) : bsW Tryd.prog 75 1 [(0, t3V p)] w K = K (.slice (some ⟨w.heap.size, 0, none⟩) 1 1) (w.alloc (.cells (t3V p).cells 97)) := by kernel_rfl
abbrev SdAt (base : Nat) (w : World) (v : Value) (P : List T3) : Prop := RecAt 97 3 t3C base w v P

theorem sidesR_len (L : List T3) : (sidesR L).length = 2 * L.length := by unfold sidesR; rw [List.length_map, sides_len]
theorem sidesR_snoc (L : List T3) (s : T3) : sidesR (L ++ [s]) = sidesR L ++ [(s.1, s.1 + s.2.2, s.2.1)] ++ [(s.1, s.1 + s.2.2, s.2.1 + s.2.2)] := by
  unfold sidesR; rw [sides_snoc, List.map_append, List.append_assoc]; rfl
theorem sidesR_get {L : List T3} {i : Nat} (h : i < 2 * L.length) : (sidesR L).getD i (0, 0, 0) = rot (sd L i) := by
  unfold sidesR sd
  rw [getD_lt _ _ _ (by rw [List.length_map, sides_len]; exact h), List.getElem_map, getD_lt _ _ _ (by rw [sides_len]; exact h)]

set_option maxRecDepth 100000 in
set_option maxHeartbeats 2000000 in
theorem sides_calls {v : Value} {L : List T3} (w : World) (hr : RdS w v L) (hl : L.length ≤ 16) (hs : ∀ s ∈ L, -1000 ≤ s.1 ∧ s.1 ≤ 1000 ∧ -1000 ≤ s.2.1 ∧ s.2.1 ≤ 1000 ∧ -1000 ≤ s.2.2 ∧ s.2.2 ≤ 1000) :
    Calls Tryd.prog 51 #[v] w fun e w' => Kp w w' ∧ ∃ v', e = .returned v' ∧ SdAt w.heap.size w' v' (sidesR L) := by
  obtain ⟨a, cap, ev, _⟩ := hr.len
  have lnv : ∀ K : Value → Prop, ln1 v K = K (.int .i64 L.length) := fun K => by rw [ev]; rfl
  refine lift51 ?_
  unfold S51 S51L0
  refine ⟨fun t3 t4 wr => ∃ i : Nat, i ≤ L.length ∧ t4 = .int .i64 i ∧ SdAt w.heap.size wr t3 (sidesR (L.take i)) ∧ Kp w wr, fun _ t4 _ => L.length - (intOf t4).toNat, ⟨0, by omega, rfl, RecAt.nil, Kp.refl _⟩, ?_⟩
  rintro _ t3 _ wr ⟨i, hi, rfl, hO, kr⟩
  have hsl := sidesR_len (L.take i)
  rw [List.length_take] at hsl
  have hsz := kr.size
  rw [lnv]
  by_cases hlt : i < L.length
  case neg =>
    have hlt' : ¬ (i : Int) < (L.length : Int) := by omega
    rw [List.take_of_length_le (by omega)] at hO
    simp only [r_lss, hlt', decide_false, r_condF]
    exact ⟨kr, _, rfl, hO⟩
  have hlt' : (i : Int) < (L.length : Int) := by omega
  simp only [r_lss, decide_eq_true hlt', r_condT]
  rw [tri_at (hr.kp kr) hlt]
  have hmem := hs _ (getD_mem (d := (0, 0, 0)) hlt)
  have hsn : sidesR (L.take (i + 1)) = sidesR (L.take i) ++ [((L.getD i (0, 0, 0)).1, (L.getD i (0, 0, 0)).1 + (L.getD i (0, 0, 0)).2.2, (L.getD i (0, 0, 0)).2.1)] ++ [((L.getD i (0, 0, 0)).1, (L.getD i (0, 0, 0)).1 + (L.getD i (0, 0, 0)).2.2, (L.getD i (0, 0, 0)).2.1 + (L.getD i (0, 0, 0)).2.2)] := by
    rw [take_succ' _ _ hlt, sidesR_snoc, ← getD_lt _ _ (0, 0, 0) hlt]
  generalize L.getD i (0, 0, 0) = s at *
  refine r_box fun b5 w1 e5 s5 h5 k1 => ?_
  have h5' : w1.heap[b5]? = some (.cells #[.int .i64 0, .int .i64 0, .int .i64 0] 44 (0, 0)) := h5
  refine st44 h5' fun w2 c2 s2 h52 => ?_
  have k2 : Kp wr w2 := Kp.of_chg k1 c2 fun q e => by omega
  obtain ⟨c0, c1, cc⟩ := tri_cells (p := s) h52
  have hsz2 := k2.size
  simp (disch := omega) only [r_ln, r_pick, r_pickT, r_pickF, r_condT, r_condF, r_gdTT, r_gdFF, r_gdTF, r_gdFT, r_gqTT, r_gqFF, r_gqTF, r_gqFT, r_not, r_lss, r_leq, r_gtr, r_geq, r_eql, r_neq, r_add, r_sub, r_min2, r_max2, r_min3, r_max3, r_fa, r_iaS, r_iaA, r_ex2a, r_ex2b, r_ex3a, r_ex3b, r_ex3c, r_nc, r_keepE, Nat.zero_add, Nat.add_zero, Nat.mul_one, Int.toNat_natCast, toNat_sub1, toNat_add1, decide_true, decide_false, Bool.not_true, Bool.not_false, if_true, if_false, Bool.false_eq_true, reduceCtorEq, r_ld c0, r_ld c1, r_ld cc, bd97]
  have hO2 := hO.kp k2
  refine r_pushRec (x := (s.1, s.1 + s.2.2, s.2.1)) slt75 t3C_len rfl (bs75 _ _) (t3C_one _) (by omega) hO2 (by omega) (by omega) fun v1 w3 o3 ch3 hat3 => ?_
  have h53 : w3.heap[b5]? = _ := ch3.at h52 fun e => by have := (hO.lt e).2; omega
  obtain ⟨d0, d1, dc⟩ := tri_cells (p := s) h53
  have k3 : Kp w w3 := Kp.of_chg (Kp.trans kr k2) ch3 fun k hk => (hO2.lt hk).1
  have hsz3 := k3.size
  simp (disch := omega) only [r_ln, r_pick, r_pickT, r_pickF, r_condT, r_condF, r_gdTT, r_gdFF, r_gdTF, r_gdFT, r_gqTT, r_gqFF, r_gqTF, r_gqFT, r_not, r_lss, r_leq, r_gtr, r_geq, r_eql, r_neq, r_add, r_sub, r_min2, r_max2, r_min3, r_max3, r_fa, r_iaS, r_iaA, r_ex2a, r_ex2b, r_ex3a, r_ex3b, r_ex3c, r_nc, r_keepE, Nat.zero_add, Nat.add_zero, Nat.mul_one, Int.toNat_natCast, toNat_sub1, toNat_add1, decide_true, decide_false, Bool.not_true, Bool.not_false, if_true, if_false, Bool.false_eq_true, reduceCtorEq, r_ld d0, r_ld d1, r_ld dc, bd97]
  refine r_pushRec (x := (s.1, s.1 + s.2.2, s.2.1 + s.2.2)) slt75 t3C_len rfl (bs75 _ _) (t3C_one _) (by omega) o3 (by rw [List.length_append]; simp; omega) (by omega) fun v2 w4 o4 ch4 _ => ?_
  exact ⟨⟨i + 1, by omega, by go_num, by rw [hsn]; exact o4, Kp.of_chg k3 ch4 fun k hk => (o3.lt hk).1⟩, by simp only [intOf]; omega⟩

theorem tri_three {w : World} {v : Value} {R : List T3} (h : RdS w v R) {i : Nat} (hi : i < R.length) : ∃ b o, (∀ K : Value → Prop, iaS 3 v (.int .i64 i) K = K (.pointer (some ⟨b, o, none⟩))) ∧
    w.cell? ⟨b, o + 0, none⟩ = some (.int .i64 (R.getD i (0, 0, 0)).1) ∧ w.cell? ⟨b, o + 1, none⟩ = some (.int .i64 (R.getD i (0, 0, 0)).2.1) ∧ w.cell? ⟨b, o + 2, none⟩ = some (.int .i64 (R.getD i (0, 0, 0)).2.2) := by
  obtain ⟨b, off, cap, e, _, hc⟩ := h.at (List.getElem?_eq_getElem hi)
  have hii : (i : Int).toNat = i := by omega
  refine ⟨b, off + i * 3, fun K => by rw [e, r_iaS _ _ _ _ _ _ _ (by omega) (by omega), hii], ?_, ?_, ?_⟩
  · rw [getD_lt _ _ _ hi]; exact hc 0 _ rfl
  · rw [getD_lt _ _ _ hi]; exact hc 1 _ rfl
  · rw [getD_lt _ _ _ hi]; exact hc 2 _ rfl

set_option maxRecDepth 100000 in
set_option maxHeartbeats 4000000 in
theorem r52_3 {t i : Nat} {L : List T3} {part : Nat → Nat} {v t11 : Value} {w0 w1 : World} {next : Value → World → Prop} (hr : RdS w0 v (sidesR L)) (hl : L.length ≤ 16) (hi : i < 2 * L.length) (hP : PartI (2 * L.length) (adjW L) (adjB L) t i 0 part)
    (hI : IntsAt w0.heap.size w1 t11 (il part (2 * L.length))) (k1 : Kp w0 w1)
    (hnext : ∀ w' part', PartI (2 * L.length) (adjW L) (adjB L) t (i + 1) 0 part' → IntsAt w0.heap.size w' t11 (il part' (2 * L.length)) → Kp w0 w' → next (.int .i64 ((i : Int) + 1)) w') :
    S52L3 v (.int .i64 i) t11 next w1 := by
  have hlen := sidesR_len L
  obtain ⟨a, cap, ev, _⟩ := hr.len
  have lnv : ∀ K : Value → Prop, ln1 v K = K (.int .i64 (2 * L.length : Nat)) := fun K => by rw [ev, hlen]; rfl
  unfold S52L3
  refine ⟨fun t7 wr => ∃ (k : Nat) (part : Nat → Nat), k ≤ 2 * L.length ∧ t7 = .int .i64 k ∧ PartI (2 * L.length) (adjW L) (adjB L) t i k part ∧ IntsAt w0.heap.size wr t11 (il part (2 * L.length)) ∧ Kp w0 wr, fun t7 _ => 2 * L.length - (intOf t7).toNat, ⟨0, part, by omega, rfl, hP, hI, k1⟩, ?_⟩
  rintro _ _ wr ⟨k, part, hk, rfl, hP, hI, kr⟩
  rw [lnv]
  by_cases hlt : k < 2 * L.length
  case neg =>
    have hlt' : ¬ (k : Int) < ((2 * L.length : Nat) : Int) := by omega
    obtain rfl : k = 2 * L.length := by omega
    rw [r_lss, decide_eq_false hlt', r_condF, r_add _ _ (by omega) (by omega)]
    exact hnext _ _ hP.row hI kr
  have hlt' : (k : Int) < ((2 * L.length : Nat) : Int) := by omega
  rw [r_lss, decide_eq_true hlt', r_condT]
  refine r_drew fun w2 k2 _ => ?_
  have k02 := Kp.trans kr k2
  obtain ⟨b, o, ia, a0, a1, a2⟩ := tri_three (hr.kp k02) (i := i) (by omega)
  obtain ⟨b', o', ib, b0, b1, b2⟩ := tri_three (hr.kp k02) (i := k) (by omega)
  rw [sidesR_get hi] at a0 a1 a2
  rw [sidesR_get hlt] at b0 b1 b2
  unfold rot at a0 a1 a2 b0 b1 b2
  rw [Nat.add_zero] at a0 b0
  have hI2 := RecAt.kp hI k2
  have hst := hP.step hi hlt fun x y hx hy => adjW_conn hx hy
  have pk := (hP.dom k hlt).1
  have pi := (hP.dom i hi).1
  -- nothing is done
  have skip : adjB L i k = false → binQ Tryd.prog w2 .add 3 true (.int .i64 k) (.int .i64 1) fun t39_2 => (∃ (k : Nat) (part : Nat → Nat), k ≤ 2 * L.length ∧ t39_2 = .int .i64 k ∧ PartI (2 * L.length) (adjW L) (adjB L) t i k part ∧ IntsAt w0.heap.size w2 t11 (il part (2 * L.length)) ∧ Kp w0 w2) ∧ 2 * L.length - (intOf t39_2).toNat < 2 * L.length - (intOf (.int .i64 (k : Int))).toNat := fun h => by
    rw [r_add _ _ (by omega) (by omega)]
    refine ⟨⟨k + 1, part, by omega, by go_num, ?_, hI2, k02⟩, by simp only [intOf]; omega⟩
    have e : stepP (adjB L) part i k = part := by unfold stepP; rw [h]; rfl
    rw [e] at hst; exact hst
  by_cases g1 : (sd L i).1 = (sd L k).1
  case neg =>
    have := skip (decide_eq_false fun h => g1 h.1)
    simp (disch := omega) only [r_ln, r_pick, r_pickT, r_pickF, r_condT, r_condF, r_gdTT, r_gdFF, r_gdTF, r_gdFT, r_gqTT, r_gqFF, r_gqTF, r_gqFT, r_not, r_lss, r_leq, r_gtr, r_geq, r_eql, r_neq, r_add, r_sub, r_min2, r_max2, r_min3, r_max3, r_fa, r_iaS, r_iaA, r_ex2a, r_ex2b, r_ex3a, r_ex3b, r_ex3c, r_nc, r_keepE, Nat.zero_add, Nat.add_zero, Nat.mul_one, Int.toNat_natCast, toNat_sub1, toNat_add1, decide_true, decide_false, Bool.not_true, Bool.not_false, if_true, if_false, Bool.false_eq_true, reduceCtorEq, r_gqU, ia, ib, r_ld a2, r_ld b2, g1, Join]
    simp (disch := omega) only [r_ln, r_pick, r_pickT, r_pickF, r_condT, r_condF, r_gdTT, r_gdFF, r_gdTF, r_gdFT, r_gqTT, r_gqFF, r_gqTF, r_gqFT, r_not, r_lss, r_leq, r_gtr, r_geq, r_eql, r_neq, r_add, r_sub, r_min2, r_max2, r_min3, r_max3, r_fa, r_iaS, r_iaA, r_ex2a, r_ex2b, r_ex3a, r_ex3b, r_ex3c, r_nc, r_keepE, Nat.zero_add, Nat.add_zero, Nat.mul_one, Int.toNat_natCast, toNat_sub1, toNat_add1, decide_true, decide_false, Bool.not_true, Bool.not_false, if_true, if_false, Bool.false_eq_true, reduceCtorEq] at this
    exact this
  by_cases g2 : (sd L i).2.1 ≤ (sd L k).2.2
  case neg =>
    have := skip (decide_eq_false fun h => g2 h.2.1)
    simp (disch := omega) only [r_ln, r_pick, r_pickT, r_pickF, r_condT, r_condF, r_gdTT, r_gdFF, r_gdTF, r_gdFT, r_gqTT, r_gqFF, r_gqTF, r_gqFT, r_not, r_lss, r_leq, r_gtr, r_geq, r_eql, r_neq, r_add, r_sub, r_min2, r_max2, r_min3, r_max3, r_fa, r_iaS, r_iaA, r_ex2a, r_ex2b, r_ex3a, r_ex3b, r_ex3c, r_nc, r_keepE, Nat.zero_add, Nat.add_zero, Nat.mul_one, Int.toNat_natCast, toNat_sub1, toNat_add1, decide_true, decide_false, Bool.not_true, Bool.not_false, if_true, if_false, Bool.false_eq_true, reduceCtorEq, r_gqU, ia, ib, r_ld a2, r_ld b2, r_ld a0, r_ld b1, decide_eq_true g1, g2, Join]
    simp (disch := omega) only [r_ln, r_pick, r_pickT, r_pickF, r_condT, r_condF, r_gdTT, r_gdFF, r_gdTF, r_gdFT, r_gqTT, r_gqFF, r_gqTF, r_gqFT, r_not, r_lss, r_leq, r_gtr, r_geq, r_eql, r_neq, r_add, r_sub, r_min2, r_max2, r_min3, r_max3, r_fa, r_iaS, r_iaA, r_ex2a, r_ex2b, r_ex3a, r_ex3b, r_ex3c, r_nc, r_keepE, Nat.zero_add, Nat.add_zero, Nat.mul_one, Int.toNat_natCast, toNat_sub1, toNat_add1, decide_true, decide_false, Bool.not_true, Bool.not_false, if_true, if_false, Bool.false_eq_true, reduceCtorEq] at this
    exact this
  by_cases g3 : (sd L k).2.1 ≤ (sd L i).2.2
  case neg =>
    have := skip (decide_eq_false fun h => g3 h.2.2)
    simp (disch := omega) only [r_ln, r_pick, r_pickT, r_pickF, r_condT, r_condF, r_gdTT, r_gdFF, r_gdTF, r_gdFT, r_gqTT, r_gqFF, r_gqTF, r_gqFT, r_not, r_lss, r_leq, r_gtr, r_geq, r_eql, r_neq, r_add, r_sub, r_min2, r_max2, r_min3, r_max3, r_fa, r_iaS, r_iaA, r_ex2a, r_ex2b, r_ex3a, r_ex3b, r_ex3c, r_nc, r_keepE, Nat.zero_add, Nat.add_zero, Nat.mul_one, Int.toNat_natCast, toNat_sub1, toNat_add1, decide_true, decide_false, Bool.not_true, Bool.not_false, if_true, if_false, Bool.false_eq_true, reduceCtorEq, r_gqU, ia, ib, r_ld a2, r_ld b2, r_ld a0, r_ld b1, r_ld b0, r_ld a1, decide_eq_true g1, decide_eq_true g2, g3, Join]
    simp (disch := omega) only [r_ln, r_pick, r_pickT, r_pickF, r_condT, r_condF, r_gdTT, r_gdFF, r_gdTF, r_gdFT, r_gqTT, r_gqFF, r_gqTF, r_gqFT, r_not, r_lss, r_leq, r_gtr, r_geq, r_eql, r_neq, r_add, r_sub, r_min2, r_max2, r_min3, r_max3, r_fa, r_iaS, r_iaA, r_ex2a, r_ex2b, r_ex3a, r_ex3b, r_ex3c, r_nc, r_keepE, Nat.zero_add, Nat.add_zero, Nat.mul_one, Int.toNat_natCast, toNat_sub1, toNat_add1, decide_true, decide_false, Bool.not_true, Bool.not_false, if_true, if_false, Bool.false_eq_true, reduceCtorEq] at this
    exact this
  simp (disch := omega) only [r_ln, r_pick, r_pickT, r_pickF, r_condT, r_condF, r_gdTT, r_gdFF, r_gdTF, r_gdFT, r_gqTT, r_gqFF, r_gqTF, r_gqFT, r_not, r_lss, r_leq, r_gtr, r_geq, r_eql, r_neq, r_add, r_sub, r_min2, r_max2, r_min3, r_max3, r_fa, r_iaS, r_iaA, r_ex2a, r_ex2b, r_ex3a, r_ex3b, r_ex3c, r_nc, r_keepE, Nat.zero_add, Nat.add_zero, Nat.mul_one, Int.toNat_natCast, toNat_sub1, toNat_add1, decide_true, decide_false, Bool.not_true, Bool.not_false, if_true, if_false, Bool.false_eq_true, reduceCtorEq, r_gqU, ia, ib, r_ld a2, r_ld b2, r_ld a0, r_ld b1, r_ld b0, r_ld a1, decide_eq_true g1, decide_eq_true g2, decide_eq_true g3, Join]
  refine r_drew fun w3 k3 _ => ?_
  have hI3 := RecAt.kp hI2 k3
  have k03 := Kp.trans k02 k3
  obtain ⟨g, eg, ar⟩ := IntsAt.ar hI3 (by rw [il_len]; omega)
  obtain ⟨iI, cI, fI, sI⟩ := ar i (by rw [il_len]; exact hi)
  obtain ⟨iK, cK, _, _⟩ := ar k (by rw [il_len]; exact hlt)
  rw [il_get hi] at cI
  rw [il_get hlt] at cK
  have lg := (RecAt.lt hI3 eg).1
  have hmin : min (part i : Int) (part k : Int) = ((min (part i) (part k) : Nat) : Int) := by omega
  rw [iI, r_ld cI, iK, r_ld cK, r_min2, hmin, iI, st3 cI fI]
  have hI4 := sI ((min (part i) (part k) : Nat) : Int)
  rw [il_set] at hI4
  have ch4 : Chg (fun q => q = g) w3 (w3.setCell ⟨g, i, none⟩ (.int .i64 ((min (part i) (part k) : Nat) : Int))) := Chg.setCell _ _ rfl
  have k04 : Kp w0 (w3.setCell ⟨g, i, none⟩ (.int .i64 ((min (part i) (part k) : Nat) : Int))) := Kp.of_chg k03 ch4 fun q e => by omega
  generalize w3.setCell ⟨g, i, none⟩ (.int .i64 ((min (part i) (part k) : Nat) : Int)) = w4 at *
  obtain ⟨g', eg', ar'⟩ := IntsAt.ar hI4 (by rw [il_len]; omega)
  obtain ⟨iK', cK', fK', sK'⟩ := ar' k (by rw [il_len]; exact hlt)
  have lg' := (RecAt.lt hI4 eg').1
  rw [iK', st3 cK' fK']
  have hI5 := sK' ((min (part i) (part k) : Nat) : Int)
  rw [il_set] at hI5
  have ch5 : Chg (fun q => q = g') w4 (w4.setCell ⟨g', k, none⟩ (.int .i64 ((min (part i) (part k) : Nat) : Int))) := Chg.setCell _ _ rfl
  have k05 : Kp w0 (w4.setCell ⟨g', k, none⟩ (.int .i64 ((min (part i) (part k) : Nat) : Int))) := Kp.of_chg k04 ch5 fun q e => by omega
  have hadj : adjB L i k = true := decide_eq_true ⟨g1, g2, g3⟩
  have e : link (link part i (min (part i) (part k))) k (min (part i) (part k)) = stepP (adjB L) part i k := by
    unfold stepP; rw [if_pos hadj]; rfl
  rw [e] at hI5
  exact ⟨⟨k + 1, _, by omega, by go_num, hst, hI5, k05⟩, by simp only [intOf]; omega⟩

set_option maxRecDepth 100000 in
set_option maxHeartbeats 1000000 in
theorem r52_1 {L : List T3} {v t11 : Value} {w0 w1 : World} {R : Ending → World → Prop} (hr : RdS w0 v (sidesR L)) (hl : L.length ≤ 16)
    (hI : IntsAt w0.heap.size w1 t11 (il (fun v => v) (2 * L.length))) (k1 : Kp w0 w1)
    (hR : ∀ w' part, PartI (2 * L.length) (adjW L) (adjB L) (2 * L.length) 0 0 part → IntsAt w0.heap.size w' t11 (il part (2 * L.length)) → Kp w0 w' → R (.returned t11) w') :
    S52L1 v t11 R w1 := by
  have hlen := sidesR_len L
  obtain ⟨a, cap, ev, _⟩ := hr.len
  have lnv : ∀ K : Value → Prop, ln1 v K = K (.int .i64 (2 * L.length : Nat)) := fun K => by rw [ev, hlen]; rfl
  unfold S52L1
  refine ⟨fun t5 wr => ∃ (t : Nat) (part : Nat → Nat), t ≤ 2 * L.length ∧ t5 = .int .i64 t ∧ PartI (2 * L.length) (adjW L) (adjB L) t 0 0 part ∧ IntsAt w0.heap.size wr t11 (il part (2 * L.length)) ∧ Kp w0 wr, fun t5 _ => 2 * L.length - (intOf t5).toNat, ⟨0, _, by omega, rfl, PartI.start _ _ _, hI, k1⟩, ?_⟩
  rintro _ _ wr ⟨t, part, ht, rfl, hP, hI, kr⟩
  rw [lnv]
  by_cases hlt : t < 2 * L.length
  case neg =>
    have hlt' : ¬ (t : Int) < ((2 * L.length : Nat) : Int) := by omega
    obtain rfl : t = 2 * L.length := by omega
    rw [r_lss, decide_eq_false hlt', r_condF]
    exact hR _ _ hP hI kr
  have hlt' : (t : Int) < ((2 * L.length : Nat) : Int) := by omega
  rw [r_lss, decide_eq_true hlt', r_condT]
  unfold S52L2
  refine ⟨fun t6 wr => ∃ (i : Nat) (part : Nat → Nat), i ≤ 2 * L.length ∧ t6 = .int .i64 i ∧ PartI (2 * L.length) (adjW L) (adjB L) t i 0 part ∧ IntsAt w0.heap.size wr t11 (il part (2 * L.length)) ∧ Kp w0 wr, fun t6 _ => 2 * L.length - (intOf t6).toNat, ⟨0, _, by omega, rfl, hP, hI, kr⟩, ?_⟩
  rintro _ _ wr ⟨i, part, hi, rfl, hP, hI, kr⟩
  rw [lnv]
  by_cases hlt2 : i < 2 * L.length
  · have hlt2' : (i : Int) < ((2 * L.length : Nat) : Int) := by omega
    rw [r_lss, decide_eq_true hlt2', r_condT]
    refine r52_3 hr hl hlt2 hP hI kr fun w' part' h1 h2 h3 => ?_
    exact ⟨⟨i + 1, part', by omega, by go_num, h1, h2, h3⟩, by simp only [intOf]; omega⟩
  have hlt2' : ¬ (i : Int) < ((2 * L.length : Nat) : Int) := by omega
  obtain rfl : i = 2 * L.length := by omega
  rw [r_lss, decide_eq_false hlt2', r_condF, r_add _ _ (by omega) (by omega)]
  exact ⟨⟨t + 1, part, by omega, by go_num, hP.turn fun e he => by have := adjW_mem.1 he; exact ⟨this.1, this.2.1, this.2.2.1⟩, hI, kr⟩, by simp only [intOf]; omega⟩

set_option maxRecDepth 100000 in
theorem parted_calls {L : List T3} {v : Value} (w : World) (hr : RdS w v (sidesR L)) (hl : L.length ≤ 16) :
    Calls Tryd.prog 52 #[v] w fun e w' => Kp w w' ∧ ∃ v' part, e = .returned v' ∧ IntsAt w.heap.size w' v' (il part (2 * L.length)) ∧ PartI (2 * L.length) (adjW L) (adjB L) (2 * L.length) 0 0 part := by
  have hlen := sidesR_len L
  obtain ⟨a, cap, ev, _⟩ := hr.len
  have lnv : ∀ K : Value → Prop, ln1 v K = K (.int .i64 (2 * L.length : Nat)) := fun K => by rw [ev, hlen]; rfl
  refine lift52 ?_
  unfold S52
  rw [lnv]
  refine mk34' (n := 2 * L.length) (by omega) fun v1 w1 I1 k1 _ => ?_
  unfold S52L0
  have e0 : List.replicate (2 * L.length) (0 : Int) = il (fun v => if v < 0 then v else 0) (2 * L.length) := by
    refine List.ext_getElem (by simp [il]) fun i h1 h2 => by simp [il]
  rw [e0] at I1
  refine ⟨fun t4 wr => ∃ x : Nat, x ≤ 2 * L.length ∧ t4 = .int .i64 x ∧ IntsAt w.heap.size wr v1 (il (fun v => if v < x then v else 0) (2 * L.length)) ∧ Kp w wr, fun t4 _ => 2 * L.length - (intOf t4).toNat, ⟨0, by omega, rfl, I1, k1⟩, ?_⟩
  rintro _ _ wr ⟨x, hx, rfl, hI, kr⟩
  rw [lnv]
  by_cases hlt : x < 2 * L.length
  case neg =>
    have hlt' : ¬ (x : Int) < ((2 * L.length : Nat) : Int) := by omega
    rw [r_lss, decide_eq_false hlt', r_condF]
    have e1 : il (fun v => if v < x then v else 0) (2 * L.length) = il (fun v => v) (2 * L.length) := by
      unfold il
      refine List.map_congr_left fun v hv => ?_
      have := List.mem_range.1 hv
      show (((if v < x then v else 0 : Nat)) : Int) = v
      rw [if_pos (by omega)]
    rw [e1] at hI
    exact r52_1 hr hl hI kr fun w' part h1 h2 h3 => ⟨h3, v1, part, rfl, h2, h1⟩
  have hlt' : (x : Int) < ((2 * L.length : Nat) : Int) := by omega
  rw [r_lss, decide_eq_true hlt', r_condT]
  obtain ⟨g, eg, ar⟩ := IntsAt.ar hI (by rw [il_len]; omega)
  obtain ⟨iX, cX, fX, sX⟩ := ar x (by rw [il_len]; exact hlt)
  have lg := (RecAt.lt hI eg).1
  rw [iX, st3 cX fX, r_add _ _ (by omega) (by omega)]
  have hI3 := sX (x : Int)
  rw [il_set] at hI3
  have e2 : link (fun v => if v < x then v else 0) x x = fun v => if v < x + 1 then v else 0 := by
    funext v
    unfold link
    by_cases h1 : v = x
    · subst h1; rw [if_pos rfl, if_pos (by omega)]
    · rw [if_neg h1]
      show (if v < x then v else 0) = _
      by_cases h2 : v < x
      · rw [if_pos h2, if_pos (by omega)]
      · rw [if_neg h2, if_neg (by omega)]
  rw [e2] at hI3
  have ch : Chg (fun k => k = g) wr (wr.setCell ⟨g, x, none⟩ (.int .i64 x)) := Chg.setCell _ _ rfl
  exact ⟨⟨x + 1, by omega, by go_num, hI3, Kp.of_chg kr ch fun k e => by omega⟩, by simp only [intOf]; omega⟩

end Go.Proofs.YtkdcldbedbagjaaDoor

/- Contracts of the reference: least, ahead, place. -/
namespace Go.Proofs.YtkdcldbedbagjaaDoor
open Go.Lf Go.RowKit Go.Dt

/-- The parts are read. -/
structure RdP (w : World) (v t : Value) (L : List T3) (part : Nat → Nat) : Prop where
  sides : RdS w v (sidesR L)
  part : RdInts w t (il part (2 * L.length))
theorem RdP.kp {w w' : World} {v t : Value} {L : List T3} {part : Nat → Nat} (h : RdP w v t L part) (k : Kp w w') : RdP w' v t L part := ⟨h.sides.kp k, h.part.below k⟩

theorem part_at {w : World} {v t : Value} {L : List T3} {part : Nat → Nat} (h : RdP w v t L part) {i : Nat} (hi : i < 2 * L.length) (K : Value → Prop) : (iaS 1 t (.int .i64 i) fun p => ld1 w p K) = K (.int .i64 (part i : Nat)) := by
  rw [ints_ldK h.part (by rw [il_len]; exact hi), il_get hi]

set_option maxRecDepth 100000 in
set_option maxHeartbeats 1000000 in
theorem least_calls {W H : Int} {L : List T3} {part : Nat → Nat} {v t : Value} {k : Nat} (w : World) (d : Diss W H L) (hp : Parts L part) (hl : L.length ≤ 16) (h : RdP w v t L part) (hk : k < 2 * L.length) (hrep : part k = k) :
    Calls Tryd.prog 83 #[v, t, .int .i64 k] w fun e w' => e = .returned (.int .i64 (Lv L (lvS L k)).2.1) ∧ w = w' := by
  have hlen := sidesR_len L
  obtain ⟨a, cap, ev, _⟩ := h.sides.len
  have lnv : ∀ K : Value → Prop, ln1 v K = K (.int .i64 (2 * L.length : Nat)) := fun K => by rw [ev, hlen]; rfl
  obtain ⟨b, o, ia, a0, a1, a2⟩ := tri_three h.sides (i := k) (by omega)
  rw [sidesR_get hk] at a0
  unfold rot at a0
  have atk := lvS_at d hk
  refine lift83 ?_
  unfold S83
  rw [ia, r_fa, r_ld a0]
  unfold S83L0
  refine ⟨fun t7 t8 wr => ∃ (i : Nat) (x : Int), i ≤ 2 * L.length ∧ t8 = .int .i64 i ∧ t7 = .int .i64 x ∧ (Lv L (lvS L k)).2.1 ≤ x ∧ (∀ j, j < i → part j = k → x ≤ (sd L j).2.1) ∧ SameW w wr, fun _ t8 _ => 2 * L.length - (intOf t8).toNat, ⟨0, _, by omega, rfl, rfl, atk.2.2.1, fun j hj => by omega, rfl⟩, ?_⟩
  rintro _ _ _ wr ⟨i, x, hi, rfl, rfl, hx, hall, rfl⟩
  rw [lnv]
  by_cases hlt : i < 2 * L.length
  case neg =>
    have hlt' : ¬ (i : Int) < ((2 * L.length : Nat) : Int) := by omega
    rw [r_lss, decide_eq_false hlt', r_condF]
    have hin := lv_in d atk.1
    obtain ⟨l, hl1, e1, e2, e3⟩ := (lvs_lv d.side).cov _ (lv_mem atk.1) (Lv L (lvS L k)).2.1 (Int.le_refl _) hin.2.1
    obtain ⟨j, hj, rfl⟩ := List.getElem_of_mem hl1
    have hj' : j < 2 * L.length := by rw [← sides_len]; exact hj
    have ej : sd L j = (sidesL L)[j] := getD_lt _ _ _ hj
    rw [← ej] at e1 e2 e3
    have atj := lvS_at d hj'
    have hjk : lvS L j = lvS L k := lv_same d.side atj.1 atk.1 (by omega) (x := (Lv L (lvS L k)).2.1) (by omega) (by omega) (Int.le_refl _) (by omega)
    have := hall j (by omega) (by rw [hp.same j k hj' hk hjk]; exact hrep)
    have : x = (Lv L (lvS L k)).2.1 := by omega
    exact ⟨by rw [this], rfl⟩
  have hlt' : (i : Int) < ((2 * L.length : Nat) : Int) := by omega
  rw [r_lss, decide_eq_true hlt', r_condT, part_at h hlt, r_eql]
  have next : ∀ y : Int, (Lv L (lvS L k)).2.1 ≤ y → y ≤ x → (part i = k → y ≤ (sd L i).2.1) → (binQ Tryd.prog w .add 3 true (.int .i64 i) (.int .i64 1) fun t19_2 => (∃ (i : Nat) (x : Int), i ≤ 2 * L.length ∧ t19_2 = .int .i64 i ∧ Value.int .i64 y = .int .i64 x ∧ (Lv L (lvS L k)).2.1 ≤ x ∧ (∀ j, j < i → part j = k → x ≤ (sd L j).2.1) ∧ SameW w w) ∧ 2 * L.length - (intOf t19_2).toNat < 2 * L.length - (intOf (.int .i64 (i : Int))).toNat) := fun y h1 h2 h3 => by
    rw [r_add _ _ (by omega) (by omega)]
    refine ⟨⟨i + 1, y, by omega, by go_num, rfl, h1, fun j hj hpj => ?_, rfl⟩, by simp only [intOf]; omega⟩
    by_cases e : j = i
    · subst e; exact h3 hpj
    · have := hall j (by omega) hpj; omega
  by_cases hpk : part i = k
  · have hpk' : ((part i : Nat) : Int) = (k : Int) := by omega
    rw [decide_eq_true hpk']
    simp only [Join, r_condT]
    obtain ⟨b', o', ib, b0, _, _⟩ := tri_three h.sides (i := i) (by omega)
    rw [sidesR_get hlt] at b0
    unfold rot at b0
    rw [ib, r_fa, r_ld b0, r_min2]
    have ati := lvS_at d hlt
    have hsame : lvS L i = lvS L k := by rw [← hp.lv i hlt, hpk]
    rw [hsame] at ati
    exact next _ (by omega) (by omega) fun _ => by omega
  · have hpk' : ¬ ((part i : Nat) : Int) = (k : Int) := by omega
    rw [decide_eq_false hpk']
    simp only [Join, r_condF]
    exact next x hx (Int.le_refl _) fun e => absurd e hpk

set_option maxRecDepth 100000 in
set_option maxHeartbeats 1000000 in
theorem ahead_calls {W H : Int} {L : List T3} {part : Nat → Nat} {v t : Value} {a b : Nat} (w : World) (d : Diss W H L) (hp : Parts L part) (hl : L.length ≤ 16) (h : RdP w v t L part) (ha : a < 2 * L.length) (hb : b < 2 * L.length) (ra : part a = a) (rb : part b = b) :
    Calls Tryd.prog 69 #[v, t, .int .i64 a, .int .i64 b] w fun e w' => e = .returned (.bool (decide (lvS L a < lvS L b))) ∧ Kp w w' := by
  have hlen := sidesR_len L
  have ata := lvS_at d ha
  have atb := lvS_at d hb
  have hor := lv_order d ata.1 atb.1
  refine lift69 ?_
  unfold S69
  refine r_drew fun w2 k2 _ => ?_
  obtain ⟨c, o, ia, _, _, a2⟩ := tri_three (h.sides.kp k2) (i := a) (by omega)
  obtain ⟨c', o', ib, _, _, b2⟩ := tri_three (h.sides.kp k2) (i := b) (by omega)
  rw [sidesR_get ha] at a2
  rw [sidesR_get hb] at b2
  unfold rot at a2 b2
  rw [ia, r_fa, r_ld a2, ib, r_fa, r_ld b2, r_neq]
  dsimp only
  by_cases hy : (sd L a).1 = (sd L b).1
  · rw [decide_eq_true hy, Bool.not_true, r_condF]
    refine r_use fok83 (least_calls w2 d hp hl (h.kp k2) ha ra) rfl ?_
    rintro _ _ ⟨rfl, rfl⟩
    refine ⟨_, rfl, ?_⟩
    refine r_use fok83 (least_calls w2 d hp hl (h.kp k2) hb rb) rfl ?_
    rintro _ _ ⟨rfl, rfl⟩
    refine ⟨_, rfl, ?_⟩
    rw [r_lss]
    refine ⟨ret_bool ?_, k2⟩
    by_cases q : (Lv L (lvS L a)).2.1 < (Lv L (lvS L b)).2.1
    · rw [decide_eq_true q, decide_eq_true (hor.2 (by omega))]
    · rw [decide_eq_false q, decide_eq_false fun e => by have := hor.1 e; omega]
  · rw [decide_eq_false hy, Bool.not_false, r_condT]
    refine r_drew fun w3 k3 _ => ?_
    obtain ⟨c, o, ia, _, _, a2⟩ := tri_three (h.sides.kp (Kp.trans k2 k3)) (i := a) (by omega)
    obtain ⟨c', o', ib, _, _, b2⟩ := tri_three (h.sides.kp (Kp.trans k2 k3)) (i := b) (by omega)
    rw [sidesR_get ha] at a2
    rw [sidesR_get hb] at b2
    unfold rot at a2 b2
    rw [ia, r_fa, r_ld a2, ib, r_fa, r_ld b2, r_lss]
    refine ⟨ret_bool ?_, Kp.trans k2 k3⟩
    dsimp only
    by_cases q : (sd L a).1 < (sd L b).1
    · rw [decide_eq_true q, decide_eq_true (hor.2 (by omega))]
    · rw [decide_eq_false q, decide_eq_false fun e => by have := hor.1 e; omega]

set_option maxRecDepth 100000 in
set_option maxHeartbeats 1000000 in
theorem place_calls {W H : Int} {L : List T3} {part : Nat → Nat} {v t : Value} {c : Nat} (w : World) (d : Diss W H L) (hp : Parts L part) (hl : L.length ≤ 16) (h : RdP w v t L part) (hc : c < 2 * L.length) :
    Calls Tryd.prog 53 #[v, t, .int .i64 c] w fun e w' => e = .returned (.int .i64 (lvS L c : Nat)) ∧ Kp w w' := by
  have hlen := sidesR_len L
  obtain ⟨a, cap, ev, _⟩ := h.sides.len
  have lnv : ∀ K : Value → Prop, ln1 v K = K (.int .i64 (2 * L.length : Nat)) := fun K => by rw [ev, hlen]; rfl
  have pc := hp.lt c hc
  have pcc := Parts.twice d hp hc
  have plv := hp.lv c hc
  refine lift53 ?_
  unfold S53 S53L0
  refine ⟨fun t7 t8 wr => ∃ i : Nat, i ≤ 2 * L.length ∧ t8 = .int .i64 i ∧ t7 = .int .i64 (cntS i (fun k => decide (part k = k) && decide (lvS L k < lvS L c)) : Nat) ∧ Kp w wr, fun _ t8 _ => 2 * L.length - (intOf t8).toNat, ⟨0, by omega, rfl, rfl, Kp.refl _⟩, ?_⟩
  rintro _ _ _ wr ⟨i, hi, rfl, rfl, kr⟩
  rw [lnv]
  have hle := cnt_le (fun k => decide (part k = k) && decide (lvS L k < lvS L c)) i
  by_cases hlt : i < 2 * L.length
  case neg =>
    have hlt' : ¬ (i : Int) < ((2 * L.length : Nat) : Int) := by omega
    obtain rfl : i = 2 * L.length := by omega
    rw [r_lss, decide_eq_false hlt', r_condF, reps_count d hp (Nat.le_of_lt (lvS_at d hc).1)]
    exact ⟨rfl, kr⟩
  have hlt' : (i : Int) < ((2 * L.length : Nat) : Int) := by omega
  have hr := h.kp kr
  rw [r_lss, decide_eq_true hlt', r_condT, part_at hr hlt, r_eql]
  have stepc : cntS (i + 1) (fun k => decide (part k = k) && decide (lvS L k < lvS L c)) = cntS i (fun k => decide (part k = k) && decide (lvS L k < lvS L c)) + if (decide (part i = i) && decide (lvS L i < lvS L c)) = true then 1 else 0 := rfl
  have stay : ∀ w', Kp w w' → (decide (part i = i) && decide (lvS L i < lvS L c)) = false → (binQ Tryd.prog w' .add 3 true (.int .i64 i) (.int .i64 1) fun t14_2 => (∃ j : Nat, j ≤ 2 * L.length ∧ t14_2 = .int .i64 j ∧ Value.int .i64 (cntS i (fun k => decide (part k = k) && decide (lvS L k < lvS L c)) : Nat) = .int .i64 (cntS j (fun k => decide (part k = k) && decide (lvS L k < lvS L c)) : Nat) ∧ Kp w w') ∧ 2 * L.length - (intOf t14_2).toNat < 2 * L.length - (intOf (.int .i64 (i : Int))).toNat) := fun w' k hf => by
    rw [r_add _ _ (by omega) (by omega)]
    refine ⟨⟨i + 1, by omega, by go_num, ?_, k⟩, by simp only [intOf]; omega⟩
    rw [stepc, hf]; rfl
  by_cases hrep : part i = i
  case neg =>
    have hrep' : ¬ ((part i : Nat) : Int) = (i : Int) := by omega
    have := stay wr kr (by rw [decide_eq_false hrep]; rfl)
    rw [decide_eq_false hrep']
    simp only [r_gdU, r_gdFT, r_pickF, Join, r_condF]
    exact this
  have hrep' : ((part i : Nat) : Int) = (i : Int) := by omega
  rw [decide_eq_true hrep']
  simp only [r_gdTT]
  rw [part_at hr hc]
  refine r_use fok69 (ahead_calls wr d hp hl hr hlt pc hrep pcc) rfl ?_
  rintro _ w3 ⟨rfl, k3⟩
  refine ⟨_, rfl, ?_⟩
  rw [plv, r_pickT]
  have k03 := Kp.trans kr k3
  by_cases hlv : lvS L i < lvS L c
  · rw [decide_eq_true hlv]
    simp only [Join, r_condT]
    rw [r_add _ _ (by omega) (by omega), r_add _ _ (by omega) (by omega)]
    refine ⟨⟨i + 1, by omega, by go_num, ?_, k03⟩, by simp only [intOf]; omega⟩
    rw [stepc, decide_eq_true hrep, decide_eq_true hlv]
    go_num
  · have := stay w3 k03 (by rw [decide_eq_false hlv, Bool.and_false])
    rw [decide_eq_false hlv]
    simp only [Join, r_condF]
    exact this

end Go.Proofs.YtkdcldbedbagjaaDoor
