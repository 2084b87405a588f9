/- Texts of my own, merged by program: Xn Xo Xp. -/
import Derived.Test.YtkdcldbedbagjaaDoorM20
set_option linter.all false
/- Shifts; contract of the reference: tree. -/
namespace Go.Proofs.YtkdcldbedbagjaaDoor
open Go.Lf Go.RowKit Go.Dt

theorem b_genE {op : BinOp} {t : TypeId} {lit : Bool} {k k' : IntKind} {x y : Int} {v : Value} {w : World} {K : Value → Prop} (h : ∀ w', (semBin op t lit (.int k x) (.int k' y)).run Tryd.prog w' = .ok (.value v) w') (hn : intBin op k x y = none) : binQ Tryd.prog w op t lit (.int k x) (.int k' y) K = K v := by
  have e : binQ Tryd.prog w op t lit (.int k x) (.int k' y) K = genQ Tryd.prog w (semBin op t lit (.int k x) (.int k' y)) K := by
    simp [binQ, hn]
  rw [e]
  refine propext ⟨?_, fun hk => ⟨v, fun w' _ => h w', hk⟩⟩
  rintro ⟨u, hu, hk⟩
  have h1 := hu w (Below.refl _ _)
  rw [h] at h1
  injection h1 with h1 _
  injection h1 with h1
  rw [h1]; exact hk

set_option maxRecDepth 100000 in
theorem shl_run : ∀ (E : Nat), E ≤ 16 → ∀ (t : TypeId) (lit : Bool) (w' : World), (semBin .shl t lit (.int .i64 1) (.int .i64 E)).run Tryd.prog w' = .ok (.value (.int .i64 ((2 ^ E : Nat) : Int))) w'
  | 0, _, _, _, _ => by kernel_rfl
  | 1, _, _, _, _ => by kernel_rfl
  | 2, _, _, _, _ => by kernel_rfl
  | 3, _, _, _, _ => by kernel_rfl
  | 4, _, _, _, _ => by kernel_rfl
  | 5, _, _, _, _ => by kernel_rfl
  | 6, _, _, _, _ => by kernel_rfl
  | 7, _, _, _, _ => by kernel_rfl
  | 8, _, _, _, _ => by kernel_rfl
  | 9, _, _, _, _ => by kernel_rfl
  | 10, _, _, _, _ => by kernel_rfl
  | 11, _, _, _, _ => by kernel_rfl
  | 12, _, _, _, _ => by kernel_rfl
  | 13, _, _, _, _ => by kernel_rfl
  | 14, _, _, _, _ => by kernel_rfl
  | 15, _, _, _, _ => by kernel_rfl
  | 16, _, _, _, _ => by kernel_rfl
  | _ + 17, h, _, _, _ => absurd h (by omega)
theorem r_shl1 {w : World} {K : Value → Prop} {t : TypeId} {lit : Bool} (E : Nat) (hE : E ≤ 16) : binQ Tryd.prog w .shl t lit (.int .i64 1) (.int .i64 E) K = K (.int .i64 ((2 ^ E : Nat) : Int)) :=
  b_genE (fun w' => shl_run E hE t lit w') rfl

set_option maxRecDepth 100000 in
theorem shr_run (e : Int) : ∀ (E : Nat), E ≤ 16 → ∀ (t : TypeId) (lit : Bool) (w' : World), (semBin .shr t lit (.int .i64 e) (.int .i64 E)).run Tryd.prog w' = .ok (.value (.int .i64 (e.fdiv (2 ^ E)))) w'
  | 0, _, _, _, _ => by kernel_rfl
  | 1, _, _, _, _ => by kernel_rfl
  | 2, _, _, _, _ => by kernel_rfl
  | 3, _, _, _, _ => by kernel_rfl
  | 4, _, _, _, _ => by kernel_rfl
  | 5, _, _, _, _ => by kernel_rfl
  | 6, _, _, _, _ => by kernel_rfl
  | 7, _, _, _, _ => by kernel_rfl
  | 8, _, _, _, _ => by kernel_rfl
  | 9, _, _, _, _ => by kernel_rfl
  | 10, _, _, _, _ => by kernel_rfl
  | 11, _, _, _, _ => by kernel_rfl
  | 12, _, _, _, _ => by kernel_rfl
  | 13, _, _, _, _ => by kernel_rfl
  | 14, _, _, _, _ => by kernel_rfl
  | 15, _, _, _, _ => by kernel_rfl
  | 16, _, _, _, _ => by kernel_rfl
  | _ + 17, h, _, _, _ => absurd h (by omega)
theorem r_shrN {w : World} {K : Value → Prop} {t : TypeId} {lit : Bool} (e E : Nat) (hE : E ≤ 16) : binQ Tryd.prog w .shr t lit (.int .i64 e) (.int .i64 E) K = K (.int .i64 ((e / 2 ^ E : Nat) : Int)) := by
  refine b_genE (fun w' => ?_) rfl
  rw [shr_run e E hE]
  have : (e : Int).fdiv (2 ^ E) = ((e / 2 ^ E : Nat) : Int) := by
    rw [Int.fdiv_eq_ediv_of_nonneg _ (Int.pow_nonneg (by omega))]
    simp
  rw [this]

end Go.Proofs.YtkdcldbedbagjaaDoor

/- Contract of the reference: tree. -/
namespace Go.Proofs.YtkdcldbedbagjaaDoor
open Go.Lf Go.RowKit Go.Dt

theorem pick_pre : ∀ (l : List Wr) (m i : Nat), ∃ r, pick l m = pick (l.take i) m ++ r
  | l, m, 0 => ⟨pick l m, by cases l <;> rfl⟩
  | [], m, i + 1 => ⟨[], rfl⟩
  | e :: l, m, i + 1 => by
    obtain ⟨r, h⟩ := pick_pre l (m / 2) i
    refine ⟨r, ?_⟩
    simp only [List.take_succ_cons, pick]
    split
    · exact h
    · rw [h]; rfl

open Classical in
noncomputable def treeB (n : Nat) (ws : List Wr) (m : Nat) : Bool := decide (RF n (Dt.one 0) (pick ws m))
theorem treeB_t {n m : Nat} {ws : List Wr} (h : RF n (Dt.one 0) (pick ws m)) : treeB n ws m = true := by unfold treeB; simp [h]
theorem treeB_f {n m : Nat} {ws : List Wr} (h : ¬ RF n (Dt.one 0) (pick ws m)) : treeB n ws m = false := by unfold treeB; simp [h]

set_option maxRecDepth 100000 in
set_option maxHeartbeats 2000000 in
theorem r76_1 {n m : Nat} {ws : List Wr} {v t14 : Value} {w w1 : World} (hwf : Wf n ws) (hws : ws.length ≤ 16) (hn1 : 1 ≤ n) (hn : n ≤ 8) (hr : Rd 2 wN w v ws)
    (hI : IntsAt w.heap.size w1 t14 (il (fun v => v) n)) (k1 : Kp w w1) : S76L1 (.int .i64 n) v (.int .i64 m) t14 (fun e w' => e = .returned (.bool (treeB n ws m)) ∧ Kp w w') w1 := by
  obtain ⟨va, vc, ev, _⟩ := hr.len
  have lnv : ∀ K : Value → Prop, ln1 v K = K (.int .i64 ws.length) := fun K => by rw [ev]; rfl
  unfold S76L1
  refine ⟨fun t9 t10 wr => ∃ (i : Nat) (part : Nat → Nat), i ≤ ws.length ∧ t10 = .int .i64 i ∧ t9 = .int .i64 ((pick (ws.take i) m).length : Nat) ∧ UF n part (pick (ws.take i) m) ∧ IntsAt w.heap.size wr t14 (il part n) ∧ Kp w wr,
    fun _ t10 _ => ws.length - (intOf t10).toNat, ⟨0, fun v => v, by omega, rfl, rfl, UF.start n, hI, k1⟩, ?_⟩
  rintro _ _ _ wr ⟨i, part, hi, rfl, rfl, hU, hI, kr⟩
  rw [lnv]
  have hpl : (pick (ws.take i) m).length ≤ 16 := by
    have := (pick_sub (ws.take i) m).length_le
    rw [List.length_take] at this; omega
  by_cases hlt : i < ws.length
  case neg =>
    have hlt' : ¬ (i : Int) < (ws.length : Int) := by omega
    rw [List.take_of_length_le (by omega)] at hU hpl ⊢
    simp only [r_lss, decide_eq_false hlt', r_condF]
    rw [r_sub _ _ (by omega) (by omega), r_eql]
    refine ⟨ret_bool ?_, kr⟩
    by_cases h : (pick ws m).length = n - 1
    · have h' : ((pick ws m).length : Int) = (n : Int) - 1 := by omega
      rw [decide_eq_true h']
      exact (treeB_t (hU.tree hn1 h)).symm
    · have h' : ¬ ((pick ws m).length : Int) = (n : Int) - 1 := by omega
      rw [decide_eq_false h']
      exact (treeB_f fun hrf => h (by have := hrf.1; rw [cnt_one (by omega)] at this; omega)).symm
  have hlt' : (i : Int) < (ws.length : Int) := by omega
  simp only [r_lss, decide_eq_true hlt', r_condT]
  have hpt := pick_take ws m i hlt
  have hw := hwf ws[i] (List.getElem_mem hlt)
  have q1 : ∀ KK : Value → Prop, binQ Tryd.prog wr .rem 3 true (.int .i64 ((m / 2 ^ i : Nat) : Int)) (.int .i64 2) KK = KK (.int .i64 ((m / 2 ^ i % 2 : Nat) : Int)) := fun KK => r_remN (m / 2 ^ i) 2 (by omega)
  refine r_join1 (fun t w' => ∃ part', t = .int .i64 ((pick (ws.take (i + 1)) m).length : Nat) ∧ UF n part' (pick (ws.take (i + 1)) m) ∧ IntsAt w.heap.size w' t14 (il part' n) ∧ Kp w w') ?_ fun kk hkk => ?_
  · rintro _ w' ⟨part', rfl, g1, g2, g3⟩
    rw [r_add _ _ (by omega) (by omega)]
    exact ⟨⟨i + 1, part', by omega, by go_num, rfl, g1, g2, g3⟩, by simp only [intOf]; omega⟩
  rw [r_shrN m i (by omega), q1, r_eql]
  by_cases hbit : m / 2 ^ i % 2 = 0
  · have hbit' : ((m / 2 ^ i % 2 : Nat) : Int) = 0 := by omega
    rw [if_pos hbit, List.append_nil] at hpt
    rw [decide_eq_true hbit', r_condT]
    exact hkk _ _ ⟨part, by rw [hpt], by rw [hpt]; exact hU, hI, kr⟩
  have hbit' : ¬ ((m / 2 ^ i % 2 : Nat) : Int) = 0 := by omega
  rw [if_neg hbit] at hpt
  rw [decide_eq_false hbit', r_condF]
  refine r_drew fun w2 k2 _ => ?_
  have k02 := Kp.trans kr k2
  obtain ⟨b, o, ia, cA, cB⟩ := wire_two (hr.kp k02) hlt
  rw [getD_lt _ _ _ hlt] at cA cB
  rw [ia, r_fa, r_ld cA, ia, r_fa, r_ld cB]
  have hI2 := RecAt.kp hI k2
  have hlen := il_len part n
  refine r_use fok88 (root_calls w2 hU.lt hU.dep (Rd.ints (hI2.rd iC_len) (by rw [hlen]; omega)) hw.1) rfl ?_
  rintro _ _ ⟨a, la, ha, rfl, rfl⟩
  refine ⟨_, rfl, r_keep (Kp.refl _) ?_⟩
  refine r_use fok88 (root_calls w2 hU.lt hU.dep (Rd.ints (hI2.rd iC_len) (by rw [hlen]; omega)) hw.2.1) rfl ?_
  rintro _ _ ⟨c, lc, hc, rfl, rfl⟩
  refine ⟨_, rfl, ?_⟩
  rw [r_eql]
  by_cases hab : a = c
  · have hab' : (a : Int) = (c : Int) := by omega
    subst hab
    rw [decide_eq_true hab', r_condT]
    refine ⟨ret_bool ?_, k02⟩
    obtain ⟨r, hrr⟩ := pick_pre ws m (i + 1)
    rw [hpt, List.append_assoc] at hrr
    have hwf2 : Wf n (pick (ws.take i) m ++ ws[i] :: r) := by
      have : pick (ws.take i) m ++ ws[i] :: r = pick ws m := by rw [hrr]; rfl
      rw [this]
      exact hwf.sub (pick_sub ws m)
    refine (treeB_f ?_).symm
    rw [hrr]
    exact not_tree hwf2 hn1 ((hU.root_conn hw.1 ha).trans (hU.root_conn hw.2.1 hc).symm)
  have hab' : ¬ (a : Int) = (c : Int) := by omega
  rw [decide_eq_false hab', r_condF]
  obtain ⟨g, eg, ar⟩ := IntsAt.ar hI2 (by rw [hlen]; omega)
  obtain ⟨iA, cAA, fA, sA⟩ := ar a (by rw [hlen]; exact la)
  rw [iA, st3 cAA fA]
  have hI3 := sA (c : Int)
  rw [il_set] at hI3
  have ch : Chg (fun k => k = g) w2 (w2.setCell ⟨g, a, none⟩ (.int .i64 c)) := Chg.setCell _ _ rfl
  have lg := (RecAt.lt hI2 eg).1
  rw [r_add _ _ (by omega) (by omega)]
  refine hkk _ _ ⟨link part a c, by rw [hpt, List.length_append]; go_num, by rw [hpt]; exact hU.join hw.1 hw.2.1 ha hc la lc hab, hI3, Kp.of_chg k02 ch fun k e => by omega⟩

set_option maxRecDepth 100000 in
theorem tree_calls {n m : Nat} {ws : List Wr} {v : Value} (w : World) (hwf : Wf n ws) (hws : ws.length ≤ 16) (hn1 : 1 ≤ n) (hn : n ≤ 8) (hr : Rd 2 wN w v ws) :
    Calls Tryd.prog 76 #[.int .i64 n, v, .int .i64 m] w fun e w' => e = .returned (.bool (treeB n ws m)) ∧ Kp w w' := by
  refine lift76 ?_
  unfold S76
  refine mk34' (n := n) (by omega) fun v1 w1 I1 k1 _ => ?_
  unfold S76L0
  have e0 : List.replicate n (0 : Int) = il (fun v => if v < 0 then v else 0) n := by
    refine List.ext_getElem (by simp [il]) fun i h1 h2 => by simp [il]
  rw [e0] at I1
  refine ⟨fun t8 wr => ∃ x : Nat, x ≤ n ∧ t8 = .int .i64 x ∧ IntsAt w.heap.size wr v1 (il (fun v => if v < x then v else 0) n) ∧ Kp w wr, fun t8 _ => n - (intOf t8).toNat, ⟨0, by omega, rfl, I1, k1⟩, ?_⟩
  rintro _ _ wr ⟨x, hx, rfl, hI, kr⟩
  by_cases hlt : x < n
  case neg =>
    have hlt' : ¬ (x : Int) < (n : Int) := by omega
    simp only [r_lss, decide_eq_false hlt', r_condF]
    have e1 : il (fun v => if v < x then v else 0) n = il (fun v => v) n := by
      unfold il
      refine List.map_congr_left fun v hv => ?_
      have := List.mem_range.1 hv
      show (((if v < x then v else 0 : Nat)) : Int) = v
      rw [if_pos (by omega)]
    rw [e1] at hI
    exact r76_1 hwf hws hn1 hn hr hI kr
  have hlt' : (x : Int) < (n : Int) := by omega
  simp only [r_lss, decide_eq_true hlt', r_condT]
  obtain ⟨g, eg, ar⟩ := IntsAt.ar hI (by rw [il_len]; omega)
  obtain ⟨iX, cX, fX, sX⟩ := ar x (by rw [il_len]; exact hlt)
  have lg := (RecAt.lt hI eg).1
  rw [iX, st3 cX fX, r_add _ _ (by omega) (by omega)]
  have hI3 := sX (x : Int)
  rw [il_set] at hI3
  have e2 : link (fun v => if v < x then v else 0) x x = fun v => if v < x + 1 then v else 0 := by
    funext v
    unfold link
    by_cases h1 : v = x
    · subst h1; rw [if_pos rfl, if_pos (by omega)]
    · rw [if_neg h1]
      show (if v < x then v else 0) = _
      by_cases h2 : v < x
      · rw [if_pos h2, if_pos (by omega)]
      · rw [if_neg h2, if_neg (by omega)]
  rw [e2] at hI3
  have ch : Chg (fun k => k = g) wr (wr.setCell ⟨g, x, none⟩ (.int .i64 x)) := Chg.setCell _ _ rfl
  exact ⟨⟨x + 1, by omega, by go_num, hI3, Kp.of_chg kr ch fun k e => by omega⟩, by simp only [intOf]; omega⟩

end Go.Proofs.YtkdcldbedbagjaaDoor

/- Contract of the reference: forests. -/
namespace Go.Proofs.YtkdcldbedbagjaaDoor
open Go.Lf Go.RowKit Go.Dt

/-- The sets below k that are trees. -/
noncomputable def forU (n : Nat) (ws : List Wr) (k : Nat) : List Nat := (List.range k).filter (treeB n ws)
noncomputable def forL (n : Nat) (ws : List Wr) : List Nat := forU n ws (2 ^ ws.length)
def natI (l : List Nat) : List Int := l.map fun (m : Nat) => (m : Int)
theorem forU_succ (n : Nat) (ws : List Wr) (k : Nat) : forU n ws (k + 1) = forU n ws k ++ if treeB n ws k = true then [k] else [] := by
  unfold forU
  rw [List.range_succ, List.filter_append]
  congr 1
  by_cases h : treeB n ws k = true
  · simp [h]
  · simp [h]
theorem forU_le (n : Nat) (ws : List Wr) (k : Nat) : (forU n ws k).length ≤ k := by
  have := List.length_filter_le (treeB n ws) (List.range k)
  rwa [List.length_range] at this
theorem forL_len (n : Nat) (ws : List Wr) : (forL n ws).length = trees n ws := by
  unfold trees
  rw [← pick_cnt ws (RF n (Dt.one 0))]
  rfl
theorem forL_mem {n m : Nat} {ws : List Wr} (h : m ∈ forL n ws) : RF n (Dt.one 0) (pick ws m) ∧ m < 2 ^ ws.length := by
  unfold forL forU at h
  obtain ⟨h1, h2⟩ := List.mem_filter.1 h
  refine ⟨?_, List.mem_range.1 h1⟩
  refine Classical.byContradiction fun hn => ?_
  rw [treeB_f hn] at h2
  cases h2

set_option maxRecDepth 100000 in
set_option maxHeartbeats 2000000 in
theorem forests_calls {n : Nat} {ws : List Wr} {v : Value} (w : World) (hwf : Wf n ws) (hws : ws.length ≤ 16) (hn1 : 1 ≤ n) (hn : n ≤ 8) (hr : Rd 2 wN w v ws) :
    Calls Tryd.prog 59 #[.int .i64 n, v] w fun e w' => Kp w w' ∧ ∃ v', e = .returned v' ∧ IntsAt w.heap.size w' v' (natI (forL n ws)) := by
  obtain ⟨va, vc, ev, _⟩ := hr.len
  have lnv : ∀ K : Value → Prop, ln1 v K = K (.int .i64 ws.length) := fun K => by rw [ev]; rfl
  have hpow : 2 ^ ws.length ≤ 65536 := Nat.pow_le_pow_right (by omega) hws
  have hsh : ∀ (w' : World) (K : Value → Prop), binQ Tryd.prog w' .shl 3 true (.int .i64 1) (.int .i64 ws.length) K = K (.int .i64 ((2 ^ ws.length : Nat) : Int)) := fun w' K => r_shl1 _ hws
  have hbits : ∀ (m : Nat) (w' : World), m < 2 ^ ws.length → Calls Tryd.prog 75 #[.int .i64 m] w' fun e w'' => e = .returned (.int .i64 (ones ws.length m : Nat)) ∧ w' = w'' := fun m w' h => bits_calls w' h (by omega) hws
  have hforL : forL n ws = forU n ws (2 ^ ws.length) := rfl
  generalize 2 ^ ws.length = N at *
  refine lift59 ?_
  unfold S59 S59L0
  refine ⟨fun t5 t6 wr => ∃ m : Nat, m ≤ N ∧ t6 = .int .i64 m ∧ IntsAt w.heap.size wr t5 (natI (forU n ws m)) ∧ Kp w wr, fun _ t6 _ => N - (intOf t6).toNat, ⟨0, by omega, rfl, RecAt.nil, Kp.refl _⟩, ?_⟩
  rintro _ t5 _ wr ⟨m, hm, rfl, hI, kr⟩
  rw [lnv, hsh]
  by_cases hlt : m < N
  case neg =>
    have hlt' : ¬ (m : Int) < (N : Int) := by omega
    obtain rfl : m = N := by omega
    rw [r_lss, decide_eq_false hlt', r_condF]
    exact ⟨kr, _, rfl, by rw [hforL]; exact hI⟩
  have hlt' : (m : Int) < (N : Int) := by omega
  rw [r_lss, decide_eq_true hlt', r_condT]
  refine r_use fok75 (hbits m wr hlt) rfl ?_
  rintro _ _ ⟨rfl, rfl⟩
  refine ⟨_, rfl, ?_⟩
  have hlen := pick_len ws m
  have hfu := forU_succ n ws m
  have hfl := forU_le n ws m
  have hsz := kr.size
  have next : ∀ (u : Value) (w' : World), IntsAt w.heap.size w' u (natI (forU n ws (m + 1))) → Kp w w' →
      binQ Tryd.prog w' .add 3 true (.int .i64 m) (.int .i64 1) fun t13 => (∃ m : Nat, m ≤ N ∧ t13 = .int .i64 m ∧ IntsAt w.heap.size w' u (natI (forU n ws m)) ∧ Kp w w') ∧ N - (intOf t13).toNat < N - (intOf (.int .i64 (m : Int))).toNat := fun u w' h k => by
    rw [r_add _ _ (by omega) (by omega)]
    exact ⟨⟨m + 1, by omega, by go_num, h, k⟩, by simp only [intOf]; omega⟩
  rw [r_sub _ _ (by omega) (by omega), r_eql]
  have skip : treeB n ws m = false → IntsAt w.heap.size wr t5 (natI (forU n ws (m + 1))) := fun h => by
    rw [hfu, h]; simpa using hI
  by_cases hb : ones ws.length m = n - 1
  case neg =>
    have hb' : ¬ ((ones ws.length m : Nat) : Int) = (n : Int) - 1 := by omega
    rw [decide_eq_false hb']
    have hf : treeB n ws m = false := treeB_f fun hrf => hb (by have := hrf.1; rw [cnt_one (by omega)] at this; omega)
    simp only [r_gdFT, r_pickF, Join, r_condF]
    exact next _ _ (skip hf) kr
  have hb' : ((ones ws.length m : Nat) : Int) = (n : Int) - 1 := by omega
  rw [decide_eq_true hb']
  simp only [r_gdTT]
  refine r_use fok76 (tree_calls (m := m) wr hwf hws hn1 hn (hr.kp kr)) rfl ?_
  rintro _ w2 ⟨rfl, k2⟩
  refine ⟨_, rfl, ?_⟩
  rw [r_pickT]
  have k02 := Kp.trans kr k2
  cases hT : treeB n ws m with
  | false =>
    simp only [Join, r_condF]
    exact next _ _ ((skip hT).kp k2) k02
  | true =>
    simp only [Join, r_condT]
    have hI2 := RecAt.kp hI k2
    refine r_pushRec (x := (m : Int)) slt34 iC_len rfl (bs34 _ _ _) (by intro u hu; simp [iC] at hu; rw [hu]; rfl) (by omega) hI2 (by simp only [natI, List.length_map]; omega) (by have := k2.size; omega) fun v' w' o1 c1 _ => ?_
    refine next _ _ ?_ (Kp.of_chg k02 c1 fun q hq => (RecAt.lt hI2 hq).1)
    rw [hfu, hT, if_pos rfl]
    unfold natI at o1 ⊢
    rw [List.map_append]
    exact o1

end Go.Proofs.YtkdcldbedbagjaaDoor
