/- Texts of my own, merged by program: B3 B4 Sd. -/
import Derived.Test.YtgalbokmgffhkaaN07
import Derived.Test.YtgalbokmgffhkaaN03
set_option linter.all false
/- Contract: Refutes of the program. -/
namespace Go.Proofs.Ytgalbokmgffhkaa
open Go.Lf Go.RowKit Go.Wg

abbrev nilS : Value := .slice none 0 0
def rowB (W H : Nat) (p : List Int) : Bool := decide (p.length = W + 1) && decide (1 ≤ p.getD 0 0) && decide (p.getD 0 0 < H) && (p.drop 1).all colB
def upB (proof : List (List Int)) (i : Nat) : Bool := decide (i = 0) || decide (cmpL (proof.getD (i - 1) []) (proof.getD i []) < 0)
def okP (W H : Nat) (proof : List (List Int)) : Prop := ∀ i, i < proof.length → rowB W H (proof.getD i []) = true ∧ upB proof i = true
def deadF (d : Int → Int) (p : List Int) : Int → Int := if d (code (p.drop 1)) = 0 then upd d (code (p.drop 1)) (p.getD 0 0) else d
def deadL (proof : List (List Int)) : Int → Int := proof.foldl deadF (fun _ => 0)
def finP (L : List Line) (d : Int → Int) : Prop := (∀ x ∈ L, d x.2.2.1 ≠ 0) ∧ ∀ c, d c ≠ 0 → ∀ x ∈ L, x.2.1 = c → d x.2.2.1 < d c
def grpL (L : List Line) (c : Int) : List Int := (L.filter fun x => decide (x.2.1 = c)).map fun x => x.2.2.1

theorem und68 : Try.prog.underlying 68 = some (.map 3 3) := by kernel_rfl
theorem und75 : Try.prog.underlying 75 = some (.map 3 30) := by kernel_rfl
theorem zero3 (w : World) : (zeroValue 3).run Try.prog w = .ok (iK 0) w := by kernel_rfl
theorem zero30 (w : World) : (zeroValue 30).run Try.prog w = .ok nilS w := by kernel_rfl

theorem any_not (l : List Int) : (l.any fun x => !colB x) = !(l.all colB) := by
  induction l with
  | nil => rfl
  | cons x l ih => simp [ih]
theorem all_cols {l : List Int} (h : l.all colB = true) : Cols l := fun x hx => by
  have := List.all_eq_true.1 h x hx
  simpa [colB] using this

/-- A map of lists, each in memory of its own. -/
def GrpAt (base : Nat) (w : World) (b : Nat) (N : Int → List Int) : Prop := ∃ f, MapF w b nilS f ∧ (∀ c, IntsAt base w (f c) (N c)) ∧ ∀ c c', c ≠ c' → ∀ k, (f c).ownBlock = some k → (f c').ownBlock ≠ some k

theorem GrpAt.chg {S : Nat → Prop} {base : Nat} {w w' : World} {b : Nat} {N : Int → List Int} (h : GrpAt base w b N) (hc : Chg S w w') (hb : ¬ S b) (hs : ∀ k, base ≤ k → k < w.heap.size → ¬ S k) : GrpAt base w' b N := by
  obtain ⟨f, h1, h2, h3⟩ := h
  exact ⟨f, h1.chg hc hb, fun c => (h2 c).chg hc fun k hk => hs k ((h2 c).lt hk).1 ((h2 c).lt hk).2, h3⟩
theorem GrpAt.kp {base : Nat} {w w' : World} {b : Nat} {N : Int → List Int} (h : GrpAt base w b N) (hc : Kp w w') : GrpAt base w' b N := by
  obtain ⟨f, h1, h2, h3⟩ := h
  exact ⟨f, h1.kp hc, fun c => (h2 c).kp hc, h3⟩

/-- The test of Refutes on the heights. -/
theorem high_call {d : Int → Int} {k x : Int} {bm b11 b20 : Nat} (w : World) (hm : MapF w bm (iK 0) fun c => iK (d c)) (h11 : w.heap[b11]? = some (.cells #[.map (some bm)] 68 (0, 0))) (h20 : w.heap[b20]? = some (.cells #[.int .i64 k] 3 (0, 0))) (hx : IKey x)
    (w' : World) (hk : Kp w w') (K : Value → World → Prop) (h : ∀ w'', Kp w' w'' → K (.bool (decide (k ≤ d x))) w'') : callW Try.prog (.func (.func 60) #[] #[.pointer (some ⟨b11, 0, none⟩), .pointer (some ⟨b20, 0, none⟩)]) [.int .i64 x] w' K := by
  have hc : Calls Try.prog 60 #[.int .i64 x, .pointer (some ⟨b11, 0, none⟩), .pointer (some ⟨b20, 0, none⟩)] w' fun e w'' => e = .returned (.bool (decide (k ≤ d x))) ∧ w' = w'' := by
    refine lift60 ?_
    unfold S60
    have c1 : w'.cell? ⟨b11, 0, none⟩ = some (.map (some bm)) := by rw [cell_row (block_below h11 hk)]; rfl
    have c2 : w'.cell? ⟨b20, 0, none⟩ = some (.int .i64 k) := by rw [cell_row (block_below h20 hk)]; rfl
    rw [r_ld c1, r_lkF und68 zero3 (hm.kp hk) hx, r_ld c2]
    simp only [r_ln, r_pick, r_pickT, r_pickF, r_condT, r_condF, r_gdTT, r_gdFF, r_gdTF, r_gdFT, r_gqTT, r_gqFF, r_gqTF, r_gqFT, r_not, r_lss, r_leq, r_gtr, r_geq, r_eql, r_neq, r_add, r_sub, r_min2, r_max2, r_min3, r_max3, r_fa, r_iaS, r_iaA, r_ex2a, r_ex2b, r_ex3a, r_ex3b, r_ex3c, r_nc, r_keepE, Nat.zero_add, Nat.add_zero, Nat.mul_one, Int.toNat_natCast, toNat_sub1, toNat_add1, decide_true, decide_false, Bool.not_true, Bool.not_false, if_true, if_false, Bool.false_eq_true, reduceCtorEq]
    exact ⟨by first | rfl | trivial, by first | rfl | trivial⟩
  refine r_use fok60 hc rfl ?_
  rintro _ _ ⟨rfl, rfl⟩
  exact ⟨_, rfl, h w' (Kp.refl _)⟩

set_option maxRecDepth 100000 in
/-- append(v, xs...) where v is one's own, and where the new slice lies. -/
theorem r_apAt {t e ty : TypeId} {size bytes base n m c : Nat} {v : Value} {xs news : List Value} {a : Addr} {w : World} {K : Value → World → Prop} (T : SlT t e size bytes)
    (hown : w.ownsRow base e size v n xs) (hl : news.length = m * size) (hnews : ∀ j u, news[j]? = some u → w.cell? (a.add j) = some u) (h1 : ∀ u ∈ news, u.oneCell' = true)
    (hn : n + m ≤ 1099511627776) (hby : bytes ≤ 128) (hb : base ≤ w.heap.size)
    (hk : ∀ v' w', w'.ownsRow base e size v' (n + m) (xs ++ news) → Chg (fun k => v.ownBlock = some k) w w' → (∀ k, v'.ownBlock = some k → v.ownBlock = some k ∨ w.heap.size ≤ k) → K v' w') : semW Try.prog (apS [t, t] ty [v, .slice (some a) m c]) w K := by
  obtain ⟨i, z, i1, i2, i3, i4, i5⟩ := T.info
  have hb2 : (n + m) * bytes ≤ 140737488355328 := Nat.le_trans (Nat.mul_le_mul hn hby) (by decide)
  obtain ⟨v', w', hr, ho, hg, _, hat⟩ := run_append_own_at (P := Try.prog) (w := w) base t ty e i z size bytes T.und i1 i2 i3 i4 i5 T.pos v n xs hown a m c news hl hnews h1 (by unfold maxLen; omega) hb2 hb
  refine semW_of_run (by simp [apS, hr]) (hk v' w' ho (Chg.of_grown hg fun k hk => hk) fun k hk => ?_)
  rcases hat with h | h
  · exact .inl (h ▸ hk)
  · rw [h] at hk
    cases hk
    exact .inr (by omega)

theorem grp_take {L : List Line} {i : Nat} {x : Line} (hx : L[i]? = some x) (c : Int) : grpL (L.take (i + 1)) c = grpL (L.take i) c ++ if x.2.1 = c then [x.2.2.1] else [] := by
  have : L.take (i + 1) = L.take i ++ [x] := by rw [List.take_add_one, hx]; rfl
  rw [this, grpL, List.filter_append, List.map_append]
  congr 1
  by_cases h : x.2.1 = c <;> simp [h]
theorem grp_len (L : List Line) (c : Int) : (grpL L c).length ≤ L.length := by
  rw [grpL, List.length_map]
  exact List.length_filter_le _ _
theorem mem_grp {L : List Line} {c s : Int} : s ∈ grpL L c ↔ ∃ x ∈ L, x.2.1 = c ∧ x.2.2.1 = s := by
  simp only [grpL, List.mem_map, List.mem_filter, decide_eq_true_eq]
  constructor
  · rintro ⟨x, ⟨h1, h2⟩, h3⟩; exact ⟨x, h1, h2, h3⟩
  · rintro ⟨x, h1, h2, h3⟩; exact ⟨x, ⟨h1, h2⟩, h3⟩

/-- What Refutes returns. -/
def RefPost (l : List Tile) (a b : Int) (proof : List (List Int)) (e : Ending) : Prop :=
  (ordErr l a b ≠ 0 ∧ e = .returned (.tuple #[.bool false, .int .i64 2])) ∨ (ordErr l a b = 0 ∧ 65535 < proof.length ∧ e = .returned (.tuple #[.bool false, .int .i64 3])) ∨
    (ordErr l a b = 0 ∧ proof.length ≤ 65535 ∧ ∃ r, e = .returned (.tuple #[.bool r, .int .i64 0]) ∧ (r = true ↔ okP a.toNat b.toNat proof ∧ finP (linesL l a.toNat) (deadL proof)))

set_option maxRecDepth 100000 in
set_option maxHeartbeats 800000 in
theorem refutes_calls {v pv : Value} {l : List Tile} {proof : List (List Int)} (a b : Int) (w : World) (hr : RdT w v l) (hp : RdRows w pv proof) :
    Calls Try.prog 19 #[v, .int .i64 a, .int .i64 b, pv] w fun e w' => Kp w w' ∧ RefPost l a b proof e := by
  obtain ⟨pa, pcap, rfl, hpl⟩ := hp.len
  refine lift19 ?_
  unfold S19
  refine r_use fok53 (board_calls a b w hr) rfl ?_
  rintro _ w1 ⟨rfl, k1⟩
  refine ⟨_, rfl, ?_⟩
  have h20 : ¬ ((2 : Int) = 0) := by decide
  rcases ordErr_cases l a b with he | he
  rotate_left
  · simp (disch := omega) only [r_ln, r_pick, r_pickT, r_pickF, r_condT, r_condF, r_gdTT, r_gdFF, r_gdTF, r_gdFT, r_gqTT, r_gqFF, r_gqTF, r_gqFT, r_not, r_lss, r_leq, r_gtr, r_geq, r_eql, r_neq, r_add, r_sub, r_min2, r_max2, r_min3, r_max3, r_fa, r_iaS, r_iaA, r_ex2a, r_ex2b, r_ex3a, r_ex3b, r_ex3c, r_nc, r_keepE, Nat.zero_add, Nat.add_zero, Nat.mul_one, Int.toNat_natCast, toNat_sub1, toNat_add1, decide_true, decide_false, Bool.not_true, Bool.not_false, if_true, if_false, Bool.false_eq_true, reduceCtorEq, he, h20]
    exact ⟨k1, .inl ⟨by rw [he]; decide, rfl⟩⟩
  obtain ⟨hs, W, H, rfl, rfl, hW, hH⟩ := ord_ok he
  by_cases hlen : (65535 : Int) < (proof.length : Int)
  · simp (disch := omega) only [r_ln, r_pick, r_pickT, r_pickF, r_condT, r_condF, r_gdTT, r_gdFF, r_gdTF, r_gdFT, r_gqTT, r_gqFF, r_gqTF, r_gqFT, r_not, r_lss, r_leq, r_gtr, r_geq, r_eql, r_neq, r_add, r_sub, r_min2, r_max2, r_min3, r_max3, r_fa, r_iaS, r_iaA, r_ex2a, r_ex2b, r_ex3a, r_ex3b, r_ex3c, r_nc, r_keepE, Nat.zero_add, Nat.add_zero, Nat.mul_one, Int.toNat_natCast, toNat_sub1, toNat_add1, decide_true, decide_false, Bool.not_true, Bool.not_false, if_true, if_false, Bool.false_eq_true, reduceCtorEq, he, decide_eq_true (rfl : (0 : Int) = 0), decide_eq_true hlen]
    exact ⟨k1, .inr (.inl ⟨he, by omega, rfl⟩)⟩
  simp (disch := omega) only [r_ln, r_pick, r_pickT, r_pickF, r_condT, r_condF, r_gdTT, r_gdFF, r_gdTF, r_gdFT, r_gqTT, r_gqFF, r_gqTF, r_gqFT, r_not, r_lss, r_leq, r_gtr, r_geq, r_eql, r_neq, r_add, r_sub, r_min2, r_max2, r_min3, r_max3, r_fa, r_iaS, r_iaA, r_ex2a, r_ex2b, r_ex3a, r_ex3b, r_ex3c, r_nc, r_keepE, Nat.zero_add, Nat.add_zero, Nat.mul_one, Int.toNat_natCast, toNat_sub1, toNat_add1, decide_true, decide_false, Bool.not_true, Bool.not_false, if_true, if_false, Bool.false_eq_true, reduceCtorEq, he, decide_eq_true (rfl : (0 : Int) = 0), hlen, mmW]
  have m2 := map_new w1 (iK 0)
  have k2 : Kp w1 (w1.alloc (.map #[] 0)) := below_alloc _
  have sz2 : (w1.alloc (.map #[] 0)).heap.size = w1.heap.size + 1 := by show (w1.heap.push _).size = _; simp
  generalize hbm : w1.heap.size = bm at *
  generalize w1.alloc (.map #[] 0) = w2 at *
  refine r_box fun b11 w3 e3 s3 h3 k3 => ?_
  refine r_stAll (n := 1) (ty := 68) (cs := #[.map none]) (by kernel_rfl) rfl (by intro u hu; simp [Value.cells] at hu; subst hu; rfl) h3 rfl fun w4 c4 s4 h4 => ?_
  have sk1 := k1.size
  have m4 : MapF w4 bm (iK 0) (fun c => iK (deadL [] c)) := (m2.kp k3).chg c4 (by omega)
  have k04 : Kp w w4 := Kp.of_chg (Kp.trans k1 (Kp.trans k2 k3)) c4 fun i e => by have := (Kp.trans k1 k2).size; omega
  try simp only [Int.toNat_natCast]
  have hbmw : w.heap.size ≤ bm := by omega
  refine ⟨fun t34 wr => ∃ i : Nat, i ≤ proof.length ∧ t34 = .int .i64 i ∧ (∀ k, k < i → rowB W H (proof.getD k []) = true ∧ upB proof k = true) ∧ MapF wr bm (iK 0) (fun c => iK (deadL (proof.take i) c)) ∧ wr.heap[b11]? = some (.cells #[.map (some bm)] 68 (0, 0)) ∧ Kp w wr ∧ Kp w1 wr,
    fun t34 _ => proof.length - (intOf t34).toNat, ⟨0, by omega, rfl, fun k hk => absurd hk (by omega), m4, h4, k04, Kp.of_chg (Kp.trans k2 k3) c4 fun i e => by omega⟩, ?_⟩
  rintro _ _ wr ⟨i, hi, rfl, hok, hmr, h11, kr, kr1⟩
  by_cases hlt : i < proof.length
  case neg =>
    have hlt' : ¬ (i : Int) < (proof.length : Int) := by omega
    rw [List.take_of_length_le (by omega)] at hmr
    have hokP : okP W H proof := fun k hk => hok k (by omega)
    have outF : ¬ finP (linesL l W) (deadL proof) → RefPost l W H proof (.returned (.tuple #[.bool false, .int .i64 0])) := fun hb => by
      refine .inr (.inr ⟨he, by omega, false, rfl, ?_⟩)
      constructor
      · intro h; cases h
      · intro h; exact absurd h.2 hb
    have outT : finP (linesL l W) (deadL proof) → RefPost l W H proof (.returned (.tuple #[.bool true, .int .i64 0])) := fun hb =>
      .inr (.inr ⟨he, by omega, true, rfl, fun _ => ⟨hokP, hb⟩, fun _ => rfl⟩)
    simp (disch := omega) only [r_ln, r_pick, r_pickT, r_pickF, r_condT, r_condF, r_gdTT, r_gdFF, r_gdTF, r_gdFT, r_gqTT, r_gqFF, r_gqTF, r_gqFT, r_not, r_lss, r_leq, r_gtr, r_geq, r_eql, r_neq, r_add, r_sub, r_min2, r_max2, r_min3, r_max3, r_fa, r_iaS, r_iaA, r_ex2a, r_ex2b, r_ex3a, r_ex3b, r_ex3c, r_nc, r_keepE, Nat.zero_add, Nat.add_zero, Nat.mul_one, Int.toNat_natCast, toNat_sub1, toNat_add1, decide_true, decide_false, Bool.not_true, Bool.not_false, if_true, if_false, Bool.false_eq_true, reduceCtorEq, hlt']
    refine r_use fok59 (rows_calls hs hW wr (hr.kp kr)) rfl ?_
    rintro _ w5 ⟨lv, rfl, k5, hL⟩
    refine ⟨_, rfl, ?_⟩
    change LnAt _ _ _ (linesL l W) at hL
    have hlo := lines_ok hs hW.2
    have hll := lines_len hs hW.2
    have h8 := pow8N_le hW.2
    try simp only [mmW]
    have mg := map_new w5 nilS
    have kg : Kp w5 (w5.alloc (.map #[] 0)) := below_alloc _
    have sg : (w5.alloc (.map #[] 0)).heap.size = w5.heap.size + 1 := by show (w5.heap.push _).size = _; simp
    generalize hbn : w5.heap.size = bn at *
    generalize w5.alloc (.map #[] 0) = w6 at *
    obtain ⟨la, lcap, rfl, hlc⟩ := hL.len
    have hkp5 : Kp w w5 := Kp.trans kr k5
    have m5 := hmr.kp k5
    have h115 := block_below h11 k5
    have hrdL := hL.rd lnC_len
    generalize linesL l W = L at *
    generalize deadL proof = D at *
    have ikey : ∀ x ∈ L, IKey x.2.1 ∧ IKey x.2.2.1 := fun x hx => by
      obtain ⟨⟨x1, x2⟩, x3, x4⟩ := hlo x hx
      have e8 : ((8 ^ W : Nat) : Int) ≤ 4096 := by exact_mod_cast h8
      exact ⟨⟨by omega, by omega⟩, by omega, by omega⟩
    try simp only [r_ln, r_pick, r_pickT, r_pickF, r_condT, r_condF, r_gdTT, r_gdFF, r_gdTF, r_gdFT, r_gqTT, r_gqFF, r_gqTF, r_gqFT, r_not, r_lss, r_leq, r_gtr, r_geq, r_eql, r_neq, r_add, r_sub, r_min2, r_max2, r_min3, r_max3, r_fa, r_iaS, r_iaA, r_ex2a, r_ex2b, r_ex3a, r_ex3b, r_ex3c, r_nc, r_keepE, Nat.zero_add, Nat.add_zero, Nat.mul_one, Int.toNat_natCast, toNat_sub1, toNat_add1, decide_true, decide_false, Bool.not_true, Bool.not_false, if_true, if_false, Bool.false_eq_true, reduceCtorEq]
    refine ⟨fun t95 wq => ∃ q : Nat, q ≤ L.length ∧ t95 = .int .i64 q ∧ (∀ x ∈ L.take q, D x.2.2.1 ≠ 0) ∧ GrpAt w6.heap.size wq bn (grpL (L.take q)) ∧ Kp w5 wq ∧ w6.heap.size ≤ wq.heap.size, fun t95 _ => L.length - (intOf t95).toNat,
      ⟨0, by omega, rfl, by simp, ⟨_, mg, fun c => by simp only [grpL, List.take_zero, List.filter_nil, List.map_nil]; exact RecAt.nil, fun c c' _ k h => by cases h⟩, kg, Nat.le_refl _⟩, ?_⟩
    rintro _ _ wq ⟨q, hq, rfl, hdq, hgq, kq, sq⟩
    have mq := m5.kp kq
    have h11q := block_below h115 kq
    have bm5 := m5.lt
    have b115 := block_lt h115
    have kwq := Kp.trans hkp5 kq
    by_cases hql : q < L.length
    case neg =>
      have hql' : ¬ (q : Int) < (L.length : Int) := by omega
      rw [List.take_of_length_le (by omega)] at hdq hgq
      have c11 : wq.cell? ⟨b11, 0, none⟩ = some (.map (some bm)) := by rw [cell_row h11q]; rfl
      simp (disch := omega) only [r_ln, r_pick, r_pickT, r_pickF, r_condT, r_condF, r_gdTT, r_gdFF, r_gdTF, r_gdFT, r_gqTT, r_gqFF, r_gqTF, r_gqFT, r_not, r_lss, r_leq, r_gtr, r_geq, r_eql, r_neq, r_add, r_sub, r_min2, r_max2, r_min3, r_max3, r_fa, r_iaS, r_iaA, r_ex2a, r_ex2b, r_ex3a, r_ex3b, r_ex3c, r_nc, r_keepE, Nat.zero_add, Nat.add_zero, Nat.mul_one, Int.toNat_natCast, toNat_sub1, toNat_add1, decide_true, decide_false, Bool.not_true, Bool.not_false, if_true, if_false, Bool.false_eq_true, reduceCtorEq, hql', r_ld c11]
      refine r_rgF und68 mq fun z1 left0 hit kz1 => ?_
      obtain ⟨f, hf1, hf2, hf3⟩ := hgq
      have sz1 := kz1.size
      have hwq := kwq.size
      have hbnq := hf1.lt
      refine ⟨fun wz => ∃ (left : Nat) (seen : Int → Prop), IterF wz bm wq.heap.size (iK 0) (fun c => iK (D c)) left seen ∧ (∀ c, seen c → ∀ x ∈ L, x.2.1 = c → D x.2.2.1 < D c) ∧ Chg (fun k => k = wq.heap.size) z1 wz, fun wz => leftW wz bm wq.heap.size, ⟨left0, _, hit, fun c h => h.elim, Chg.refl _ _⟩, ?_⟩
      rintro _ wz ⟨left, seen, hitz, hsz, cz⟩
      have kwz : Kp w wz := Kp.of_chg (Kp.trans kwq kz1) cz fun k e => by omega
      have hlw := hitz.left
      have bmq := mq.lt
      have b11q := block_lt h11q
      refine r_nxF hitz (fun hall => ?_) fun c w' left' hik hcz hll' hit' hch hss hen => ?_
      · rw [r_exQ _ 0 (.bool false) rfl, r_condF]
        exact ⟨kwz, outT ⟨hdq, fun c hc x hx hxc => hsz c (hall c fun e => hc (iK_inj e)) x hx hxc⟩⟩
      have hDc : D c ≠ 0 := fun e => hcz (by rw [e])
      simp only [r_ln, r_pick, r_pickT, r_pickF, r_condT, r_condF, r_gdTT, r_gdFF, r_gdTF, r_gdFT, r_gqTT, r_gqFF, r_gqTF, r_gqFT, r_not, r_lss, r_leq, r_gtr, r_geq, r_eql, r_neq, r_add, r_sub, r_min2, r_max2, r_min3, r_max3, r_fa, r_iaS, r_iaA, r_ex2a, r_ex2b, r_ex3a, r_ex3b, r_ex3c, r_nc, r_keepE, Nat.zero_add, Nat.add_zero, Nat.mul_one, Int.toNat_natCast, toNat_sub1, toNat_add1, decide_true, decide_false, Bool.not_true, Bool.not_false, if_true, if_false, Bool.false_eq_true, reduceCtorEq]
      rw [hen]
      simp only [r_ln, r_pick, r_pickT, r_pickF, r_condT, r_condF, r_gdTT, r_gdFF, r_gdTF, r_gdFT, r_gqTT, r_gqFF, r_gqTF, r_gqFT, r_not, r_lss, r_leq, r_gtr, r_geq, r_eql, r_neq, r_add, r_sub, r_min2, r_max2, r_min3, r_max3, r_fa, r_iaS, r_iaA, r_ex2a, r_ex2b, r_ex3a, r_ex3b, r_ex3c, r_nc, r_keepE, Nat.zero_add, Nat.add_zero, Nat.mul_one, Int.toNat_natCast, toNat_sub1, toNat_add1, decide_true, decide_false, Bool.not_true, Bool.not_false, if_true, if_false, Bool.false_eq_true, reduceCtorEq]
      have cz' : Chg (fun k => k = wq.heap.size) z1 w' := cz.trans hch
      refine r_box fun b20 u1 e20 s20 h20 v1 => ?_
      refine r_stAll (n := 1) (ty := 3) (cs := #[.int .i64 0]) (by kernel_rfl) rfl (by intro u hu; simp [Value.cells] at hu; subst hu; rfl) h20 rfl fun u2 d2 s2' h202 => ?_
      have v2 : Kp w' u2 := Kp.of_chg v1 d2 fun i e => by omega
      have kw' : Kp w w' := Kp.of_chg (Kp.trans kwq kz1) cz' fun k e => by omega
      have hfu : MapF u2 bn nilS f := ((hf1.kp kz1).chg cz' (by omega)).kp v2
      have hiu : IntsAt w6.heap.size u2 (f c) (grpL L c) := (((hf2 c).kp kz1).chg cz' fun k hk e => by have := ((hf2 c).lt hk).2; omega).kp v2
      have hdu : MapF u2 bm (iK 0) (fun c => iK (D c)) := ((mq.kp kz1).chg cz' (by omega)).kp v2
      have h11u : u2.heap[b11]? = some (.cells #[.map (some bm)] 68 (0, 0)) := block_below (cz'.at (block_below h11q kz1) (by omega)) v2
      rw [r_lkF und75 zero30 hfu hik]
      have hgl := grp_len L c
      refine r_use fok54 (containsF_calls (fun s => decide (D c ≤ D s)) u2 ((hiu.rd iC_len).ints (by omega)) fun s hs u3 K v3 hK => ?_) rfl ?_
      · obtain ⟨x, hx, _, rfl⟩ := mem_grp.1 hs
        exact high_call u2 hdu h11u h202 (ikey x hx).2 u3 v3 K hK
      rintro _ u4 ⟨rfl, v4⟩
      refine ⟨_, rfl, ?_⟩
      have v24 := Kp.trans v2 v4
      cases hany : (grpL L c).any fun s => decide (D c ≤ D s) with
      | true =>
        simp only [r_ln, r_pick, r_pickT, r_pickF, r_condT, r_condF, r_gdTT, r_gdFF, r_gdTF, r_gdFT, r_gqTT, r_gqFF, r_gqTF, r_gqFT, r_not, r_lss, r_leq, r_gtr, r_geq, r_eql, r_neq, r_add, r_sub, r_min2, r_max2, r_min3, r_max3, r_fa, r_iaS, r_iaA, r_ex2a, r_ex2b, r_ex3a, r_ex3b, r_ex3c, r_nc, r_keepE, Nat.zero_add, Nat.add_zero, Nat.mul_one, Int.toNat_natCast, toNat_sub1, toNat_add1, decide_true, decide_false, Bool.not_true, Bool.not_false, if_true, if_false, Bool.false_eq_true, reduceCtorEq]
        refine ⟨Kp.trans kw' v24, outF fun h => ?_⟩
        obtain ⟨s, hs, hle⟩ := List.any_eq_true.1 hany
        obtain ⟨x, hx, hxc, rfl⟩ := mem_grp.1 hs
        have := h.2 c hDc x hx hxc
        simp only [decide_eq_true_eq] at hle
        omega
      | false =>
        simp only [r_ln, r_pick, r_pickT, r_pickF, r_condT, r_condF, r_gdTT, r_gdFF, r_gdTF, r_gdFT, r_gqTT, r_gqFF, r_gqTF, r_gqFT, r_not, r_lss, r_leq, r_gtr, r_geq, r_eql, r_neq, r_add, r_sub, r_min2, r_max2, r_min3, r_max3, r_fa, r_iaS, r_iaA, r_ex2a, r_ex2b, r_ex3a, r_ex3b, r_ex3c, r_nc, r_keepE, Nat.zero_add, Nat.add_zero, Nat.mul_one, Int.toNat_natCast, toNat_sub1, toNat_add1, decide_true, decide_false, Bool.not_true, Bool.not_false, if_true, if_false, Bool.false_eq_true, reduceCtorEq]
        have hit2 : IterF u4 bm wq.heap.size (iK 0) (fun c => iK (D c)) left' (fun x => seen x ∨ x = c) := hit'.chg (Chg.of_kp (S := fun _ => False) v24) id id
        refine ⟨⟨left', _, hit2, fun c' hc' x hx hxc => ?_, cz'.trans (Chg.of_kp v24)⟩, by rw [hit2.left, hlw]; exact hll'⟩
        rcases hc' with h | rfl
        · exact hsz c' h x hx hxc
        · refine Int.lt_of_not_ge fun hge => ?_
          have := List.any_eq_false.1 hany _ (mem_grp.2 ⟨x, hx, hxc, rfl⟩)
          simp only [decide_eq_true_eq] at this
          exact this hge
    have hql' : (q : Int) < (L.length : Int) := by omega
    obtain ⟨x, hx⟩ : ∃ x, L[q]? = some x := ⟨_, List.getElem?_eq_getElem hql⟩
    have hxm := List.mem_of_getElem? hx
    obtain ⟨lb, lo, lc, el, _, hld⟩ := RdL.line (hrdL.kp kq) hx
    cases el
    simp (disch := omega) only [r_ln, r_pick, r_pickT, r_pickF, r_condT, r_condF, r_gdTT, r_gdFF, r_gdTF, r_gdFT, r_gqTT, r_gqFF, r_gqTF, r_gqFT, r_not, r_lss, r_leq, r_gtr, r_geq, r_eql, r_neq, r_add, r_sub, r_min2, r_max2, r_min3, r_max3, r_fa, r_iaS, r_iaA, r_ex2a, r_ex2b, r_ex3a, r_ex3b, r_ex3c, r_nc, r_keepE, Nat.zero_add, Nat.add_zero, Nat.mul_one, Int.toNat_natCast, toNat_sub1, toNat_add1, decide_true, decide_false, Bool.not_true, Bool.not_false, if_true, if_false, Bool.false_eq_true, reduceCtorEq, decide_eq_true hql', hld]
    refine r_box fun b18 x2 e18 s18 h18 y2 => ?_
    refine r_stAll (n := 7) (ty := 78) (by kernel_rfl) rfl (by intro u hu; simp [Value.cells] at hu; rcases hu with rfl | rfl | rfl | rfl | rfl | rfl | rfl <;> rfl) h18 rfl fun x3 c18 s18' h183 => ?_
    have y3 : Kp wq x3 := Kp.of_chg y2 c18 fun i e => by omega
    have c11 : x3.cell? ⟨b11, 0, none⟩ = some (.map (some bm)) := by rw [cell_row (block_below h11q y3)]; rfl
    have c5 : x3.cell? ⟨b18, 5, none⟩ = some (.int .i64 x.2.2.1) := by rw [cell_row h183]; rfl
    obtain ⟨ik1, ik2⟩ := ikey x hxm
    rw [r_ld c11]
    simp only [r_ln, r_pick, r_pickT, r_pickF, r_condT, r_condF, r_gdTT, r_gdFF, r_gdTF, r_gdFT, r_gqTT, r_gqFF, r_gqTF, r_gqFT, r_not, r_lss, r_leq, r_gtr, r_geq, r_eql, r_neq, r_add, r_sub, r_min2, r_max2, r_min3, r_max3, r_fa, r_iaS, r_iaA, r_ex2a, r_ex2b, r_ex3a, r_ex3b, r_ex3c, r_nc, r_keepE, Nat.zero_add, Nat.add_zero, Nat.mul_one, Int.toNat_natCast, toNat_sub1, toNat_add1, decide_true, decide_false, Bool.not_true, Bool.not_false, if_true, if_false, Bool.false_eq_true, reduceCtorEq]
    rw [r_ld c5, r_lkF und68 zero3 (mq.kp y3) ik2, r_eql]
    by_cases hd0 : D x.2.2.1 = 0
    · simp (disch := omega) only [r_ln, r_pick, r_pickT, r_pickF, r_condT, r_condF, r_gdTT, r_gdFF, r_gdTF, r_gdFT, r_gqTT, r_gqFF, r_gqTF, r_gqFT, r_not, r_lss, r_leq, r_gtr, r_geq, r_eql, r_neq, r_add, r_sub, r_min2, r_max2, r_min3, r_max3, r_fa, r_iaS, r_iaA, r_ex2a, r_ex2b, r_ex3a, r_ex3b, r_ex3c, r_nc, r_keepE, Nat.zero_add, Nat.add_zero, Nat.mul_one, Int.toNat_natCast, toNat_sub1, toNat_add1, decide_true, decide_false, Bool.not_true, Bool.not_false, if_true, if_false, Bool.false_eq_true, reduceCtorEq, decide_eq_true hd0]
      exact ⟨Kp.trans kwq y3, outF fun h => h.1 x hxm hd0⟩
    simp (disch := omega) only [r_ln, r_pick, r_pickT, r_pickF, r_condT, r_condF, r_gdTT, r_gdFF, r_gdTF, r_gdFT, r_gqTT, r_gqFF, r_gqTF, r_gqFT, r_not, r_lss, r_leq, r_gtr, r_geq, r_eql, r_neq, r_add, r_sub, r_min2, r_max2, r_min3, r_max3, r_fa, r_iaS, r_iaA, r_ex2a, r_ex2b, r_ex3a, r_ex3b, r_ex3c, r_nc, r_keepE, Nat.zero_add, Nat.add_zero, Nat.mul_one, Int.toNat_natCast, toNat_sub1, toNat_add1, decide_true, decide_false, Bool.not_true, Bool.not_false, if_true, if_false, Bool.false_eq_true, reduceCtorEq, hd0]
    refine r_drew fun x4 y4 _ => ?_
    have y04 := Kp.trans y3 y4
    have h184 := block_below h183 y4
    have c4' : x4.cell? ⟨b18, 4, none⟩ = some (.int .i64 x.2.1) := by rw [cell_row h184]; rfl
    have c5' : x4.cell? ⟨b18, 5, none⟩ = some (.int .i64 x.2.2.1) := by rw [cell_row h184]; rfl
    obtain ⟨f, hf1, hf2, hf3⟩ := hgq.kp y04
    have hfc := hf2 x.2.1
    have sy := y04.size
    have sx3 := y3.size
    have fb : ∀ c k, (f c).ownBlock = some k → w6.heap.size ≤ k ∧ k ≠ b18 := fun c k hk => by
      refine ⟨((hf2 c).lt hk).1, fun e => ?_⟩
      obtain ⟨f0, _, g2, _⟩ := hgq
      subst e
      rcases (hf2 c).2 with ⟨h, _⟩ | ⟨g, cap, cur, h, _, hg, _⟩
      · rw [h] at hk; cases hk
      · rw [h] at hk
        cases hk
        rw [h184] at hg
        injection hg with hg
        injection hg with _ h3 _
        exact absurd h3 (by decide)
    have nb18 : ¬ (fun k => (f x.2.1).ownBlock = some k) b18 := fun h => (fb _ _ h).2 rfl
    have nbn : ¬ (fun k => (f x.2.1).ownBlock = some k) bn := fun h => by have := (fb _ _ h).1; omega
    refine ⟨fun k => (f x.2.1).ownBlock = some k, ?_⟩
    simp only [r_ln, r_pick, r_pickT, r_pickF, r_condT, r_condF, r_gdTT, r_gdFF, r_gdTF, r_gdFT, r_gqTT, r_gqFF, r_gqTF, r_gqFT, r_not, r_lss, r_leq, r_gtr, r_geq, r_eql, r_neq, r_add, r_sub, r_min2, r_max2, r_min3, r_max3, r_fa, r_iaS, r_iaA, r_ex2a, r_ex2b, r_ex3a, r_ex3b, r_ex3c, r_nc, r_keepE, Nat.zero_add, Nat.add_zero, Nat.mul_one, Int.toNat_natCast, toNat_sub1, toNat_add1, decide_true, decide_false, Bool.not_true, Bool.not_false, if_true, if_false, Bool.false_eq_true, reduceCtorEq, r_tx, r_txl (X := fun k => (f x.2.1).ownBlock = some k) c4' nb18]
    refine r_txG und75 zero30 hf1 ik1 nbn ?_
    simp only [r_ln, r_pick, r_pickT, r_pickF, r_condT, r_condF, r_gdTT, r_gdFF, r_gdTF, r_gdFT, r_gqTT, r_gqFF, r_gqTF, r_gqFT, r_not, r_lss, r_leq, r_gtr, r_geq, r_eql, r_neq, r_add, r_sub, r_min2, r_max2, r_min3, r_max3, r_fa, r_iaS, r_iaA, r_ex2a, r_ex2b, r_ex3a, r_ex3b, r_ex3c, r_nc, r_keepE, Nat.zero_add, Nat.add_zero, Nat.mul_one, Int.toNat_natCast, toNat_sub1, toNat_add1, decide_true, decide_false, Bool.not_true, Bool.not_false, if_true, if_false, Bool.false_eq_true, reduceCtorEq, r_tx, r_txl (X := fun k => (f x.2.1).ownBlock = some k) c5' nb18]
    rw [bs30]
    refine ⟨BX.of_below (below_alloc _), ?_⟩
    have y5 : Kp x4 (x4.alloc (.cells #[.int .i64 x.2.2.1] 3)) := below_alloc _
    have n5 := heap_alloc_new x4 (.cells #[.int .i64 x.2.2.1] 3)
    generalize x4.alloc (.cells #[.int .i64 x.2.2.1] 3) = x5 at *
    have sx5 := y5.size
    have hglen := grp_len (L.take q) x.2.1
    rw [List.length_take] at hglen
    dsimp only
    refine r_apAt (news := [.int .i64 x.2.2.1]) slt30 (owns_kp hfc y5) rfl (cells_at_row n5) (by intro u hu; simp at hu; subst hu; rfl) (by omega) (by omega) (by omega) fun v' x6 ho6 c6 hv6 => ?_
    refine ⟨BX.of_chg c6, ?_⟩
    have hm6 : MapF x6 bn nilS f := (hf1.kp y5).chg c6 nbn
    have hv6n : v' ≠ nilS := fun e => by
      rcases ho6.2 with ⟨_, h⟩ | ⟨g, cap, cur, h, _⟩
      · omega
      · rw [e] at h; cases h
    refine r_muF und75 zero30 hm6 ik1 hv6n fun x7 hm7 c7 s7 => ?_
    have s6 := c6.size
    have fne : ∀ c k, c ≠ x.2.1 → (f c).ownBlock = some k → (f x.2.1).ownBlock ≠ some k := fun c k hc hk h => hf3 c x.2.1 hc k hk h
    try simp (disch := omega) only [r_ln, r_pick, r_pickT, r_pickF, r_condT, r_condF, r_gdTT, r_gdFF, r_gdTF, r_gdFT, r_gqTT, r_gqFF, r_gqTF, r_gqFT, r_not, r_lss, r_leq, r_gtr, r_geq, r_eql, r_neq, r_add, r_sub, r_min2, r_max2, r_min3, r_max3, r_fa, r_iaS, r_iaA, r_ex2a, r_ex2b, r_ex3a, r_ex3b, r_ex3c, r_nc, r_keepE, Nat.zero_add, Nat.add_zero, Nat.mul_one, Int.toNat_natCast, toNat_sub1, toNat_add1, decide_true, decide_false, Bool.not_true, Bool.not_false, if_true, if_false, Bool.false_eq_true, reduceCtorEq]
    refine ⟨⟨q + 1, by omega, by go_num, fun y hy => ?_, ⟨_, hm7, fun c => ?_, fun c c' hcc k hk hk' => ?_⟩, ?_, ?_⟩, by simp only [intOf]; omega⟩
    · rw [List.take_add_one, hx] at hy
      rcases List.mem_append.1 hy with hy | hy
      · exact hdq y hy
      · simp at hy; rw [hy]; exact hd0
    · rw [grp_take hx]
      by_cases hc : c = x.2.1
      · subst hc
        rw [upd_same, if_pos rfl]
        have : IntsAt w6.heap.size x6 v' (grpL (L.take q) x.2.1 ++ [x.2.2.1]) := by
          unfold IntsAt RecAt
          rw [recCells_append, List.length_append]
          exact ho6
        refine this.chg c7 fun k hk e => ?_
        rcases hv6 k hk with h | h
        · have := (fb _ _ h).1; omega
        · omega
      · rw [upd_ne hc, if_neg (fun e => hc e.symm), List.append_nil]
        refine (((hf2 c).kp y5).chg c6 fun k hk e => fne c k hc hk e).chg c7 fun k hk e => ?_
        have := (fb _ _ hk).1; omega
    · by_cases hc : c = x.2.1
      · subst hc
        have hc' : c' ≠ x.2.1 := fun e => hcc e.symm
        rw [upd_same] at hk
        rw [upd_ne hc'] at hk'
        rcases hv6 k hk with h | h
        · exact fne c' k hc' hk' h
        · have := ((hf2 c').lt hk').2; omega
      · rw [upd_ne hc] at hk
        by_cases hc' : c' = x.2.1
        · subst hc'
          rw [upd_same] at hk'
          rcases hv6 k hk' with h | h
          · exact fne c k hc hk h
          · have := ((hf2 c).lt hk).2; omega
        · rw [upd_ne hc'] at hk'
          exact hf3 c c' hcc k hk hk'
    · have kq5 : Kp w5 x5 := Kp.trans kq (Kp.trans y04 y5)
      refine Kp.of_chg (Kp.of_chg kq5 c6 fun k e => ?_) c7 fun k e => by omega
      have := (fb _ _ e).1; omega
    · omega
  have hlt' : (i : Int) < (proof.length : Int) := by omega
  obtain ⟨pb, po, _, rv, ep, hcell, hrow⟩ := (hp.below kr).row hlt
  cases ep
  obtain ⟨ra, rc, rfl, hrl⟩ := hrow.len
  have out : ¬ (rowB W H (proof.getD i []) = true ∧ upB proof i = true) → RefPost l W H proof (.returned (.tuple #[.bool false, .int .i64 0])) := fun hb => by
    refine .inr (.inr ⟨he, by omega, false, rfl, ?_⟩)
    constructor
    · intro h; cases h
    · intro h; exact absurd (h.1 i hlt) hb
  generalize hpe : proof.getD i [] = p at *
  by_cases hpl2 : (p.length : Int) = (W : Int) + 1
  case neg =>
    simp (disch := omega) only [r_ln, r_pick, r_pickT, r_pickF, r_condT, r_condF, r_gdTT, r_gdFF, r_gdTF, r_gdFT, r_gqTT, r_gqFF, r_gqTF, r_gqFT, r_not, r_lss, r_leq, r_gtr, r_geq, r_eql, r_neq, r_add, r_sub, r_min2, r_max2, r_min3, r_max3, r_fa, r_iaS, r_iaA, r_ex2a, r_ex2b, r_ex3a, r_ex3b, r_ex3c, r_nc, r_keepE, Nat.zero_add, Nat.add_zero, Nat.mul_one, Int.toNat_natCast, toNat_sub1, toNat_add1, decide_true, decide_false, Bool.not_true, Bool.not_false, if_true, if_false, Bool.false_eq_true, reduceCtorEq, decide_eq_true hlt', r_ld hcell, hpl2]
    exact ⟨kr, out fun h => hpl2 (by have := h.1; simp only [rowB, Bool.and_eq_true, decide_eq_true_eq] at this; omega)⟩
  obtain ⟨rb, ro, _, er, hx0⟩ := hrow.at (j := 0) (by omega)
  cases er
  have i0 : (0 : Int).toNat = 0 := rfl
  rw [Nat.add_zero] at hx0
  by_cases hp1 : p.getD 0 0 < 1
  · simp (disch := omega) only [r_ln, r_pick, r_pickT, r_pickF, r_condT, r_condF, r_gdTT, r_gdFF, r_gdTF, r_gdFT, r_gqTT, r_gqFF, r_gqTF, r_gqFT, r_not, r_lss, r_leq, r_gtr, r_geq, r_eql, r_neq, r_add, r_sub, r_min2, r_max2, r_min3, r_max3, r_fa, r_iaS, r_iaA, r_ex2a, r_ex2b, r_ex3a, r_ex3b, r_ex3c, r_nc, r_keepE, Nat.zero_add, Nat.add_zero, Nat.mul_one, Int.toNat_natCast, toNat_sub1, toNat_add1, decide_true, decide_false, Bool.not_true, Bool.not_false, if_true, if_false, Bool.false_eq_true, reduceCtorEq, decide_eq_true hlt', r_ld hcell, decide_eq_true hpl2, i0, Nat.zero_mul, r_ld hx0, decide_eq_true hp1]
    exact ⟨kr, out fun h => by have := h.1; simp only [rowB, Bool.and_eq_true, decide_eq_true_eq] at this; omega⟩
  by_cases hp2 : (H : Int) ≤ p.getD 0 0
  · simp (disch := omega) only [r_ln, r_pick, r_pickT, r_pickF, r_condT, r_condF, r_gdTT, r_gdFF, r_gdTF, r_gdFT, r_gqTT, r_gqFF, r_gqTF, r_gqFT, r_not, r_lss, r_leq, r_gtr, r_geq, r_eql, r_neq, r_add, r_sub, r_min2, r_max2, r_min3, r_max3, r_fa, r_iaS, r_iaA, r_ex2a, r_ex2b, r_ex3a, r_ex3b, r_ex3c, r_nc, r_keepE, Nat.zero_add, Nat.add_zero, Nat.mul_one, Int.toNat_natCast, toNat_sub1, toNat_add1, decide_true, decide_false, Bool.not_true, Bool.not_false, if_true, if_false, Bool.false_eq_true, reduceCtorEq, decide_eq_true hlt', r_ld hcell, decide_eq_true hpl2, i0, Nat.zero_mul, r_ld hx0, hp1, decide_eq_true hp2]
    exact ⟨kr, out fun h => by have := h.1; simp only [rowB, Bool.and_eq_true, decide_eq_true_eq] at this; omega⟩
  have i1 : (1 : Int).toNat = 1 := rfl
  simp (disch := omega) only [r_ln, r_pick, r_pickT, r_pickF, r_condT, r_condF, r_gdTT, r_gdFF, r_gdTF, r_gdFT, r_gqTT, r_gqFF, r_gqTF, r_gqFT, r_not, r_lss, r_leq, r_gtr, r_geq, r_eql, r_neq, r_add, r_sub, r_min2, r_max2, r_min3, r_max3, r_fa, r_iaS, r_iaA, r_ex2a, r_ex2b, r_ex3a, r_ex3b, r_ex3c, r_nc, r_keepE, Nat.zero_add, Nat.add_zero, Nat.mul_one, Int.toNat_natCast, toNat_sub1, toNat_add1, decide_true, decide_false, Bool.not_true, Bool.not_false, if_true, if_false, Bool.false_eq_true, reduceCtorEq, decide_eq_true hlt', r_ld hcell, decide_eq_true hpl2, i0, Nat.zero_mul, r_ld hx0, hp1, hp2, r_slFrom, i1]
  have htail := rd_from (j := 1) hrow (by omega)
  rw [Nat.mul_one] at htail
  refine r_use fok54 (containsF_calls (fun x => !colB x) wr htail fun x _ w' K _ hK => nocol_call x w' K hK) rfl ?_
  rintro _ w5 ⟨rfl, k5⟩
  refine ⟨_, rfl, ?_⟩
  rw [any_not]
  have kr5 := Kp.trans kr k5
  cases hcol : (p.drop 1).all colB with
  | false =>
    simp (disch := omega) only [r_ln, r_pick, r_pickT, r_pickF, r_condT, r_condF, r_gdTT, r_gdFF, r_gdTF, r_gdFT, r_gqTT, r_gqFF, r_gqTF, r_gqFT, r_not, r_lss, r_leq, r_gtr, r_geq, r_eql, r_neq, r_add, r_sub, r_min2, r_max2, r_min3, r_max3, r_fa, r_iaS, r_iaA, r_ex2a, r_ex2b, r_ex3a, r_ex3b, r_ex3c, r_nc, r_keepE, Nat.zero_add, Nat.add_zero, Nat.mul_one, Int.toNat_natCast, toNat_sub1, toNat_add1, decide_true, decide_false, Bool.not_true, Bool.not_false, if_true, if_false, Bool.false_eq_true, reduceCtorEq]
    exact ⟨kr5, out fun h => by
      have := h.1
      simp only [rowB, Bool.and_eq_true, decide_eq_true_eq, hcol] at this
      exact absurd this.2 (by decide)⟩
  | true =>
  have hrowB : rowB W H p = true := by
    simp only [rowB, Bool.and_eq_true, decide_eq_true_eq, hcol]
    exact ⟨⟨⟨by omega, by omega⟩, by omega⟩, trivial⟩
  have hcols := all_cols hcol
  have hdl : (p.drop 1).length = W := by rw [List.length_drop]; omega
  have hrg := code_range hcols (by omega)
  have hkey : IKey (code (p.drop 1)) := ⟨by omega, by omega⟩
  have hdead : deadL (proof.take (i + 1)) = deadF (deadL (proof.take i)) p := by
    rw [take_succ' _ _ hlt, deadL, List.foldl_append, ← getD_lt proof i [] hlt, hpe]
    rfl
  simp (disch := omega) only [r_ln, r_pick, r_pickT, r_pickF, r_condT, r_condF, r_gdTT, r_gdFF, r_gdTF, r_gdFT, r_gqTT, r_gqFF, r_gqTF, r_gqFT, r_not, r_lss, r_leq, r_gtr, r_geq, r_eql, r_neq, r_add, r_sub, r_min2, r_max2, r_min3, r_max3, r_fa, r_iaS, r_iaA, r_ex2a, r_ex2b, r_ex3a, r_ex3b, r_ex3c, r_nc, r_keepE, Nat.zero_add, Nat.add_zero, Nat.mul_one, Int.toNat_natCast, toNat_sub1, toNat_add1, decide_true, decide_false, Bool.not_true, Bool.not_false, if_true, if_false, Bool.false_eq_true, reduceCtorEq]
  by_cases hup : upB proof i = true
  case neg =>
    have hi0 : 0 < i := by
      refine Nat.pos_of_ne_zero fun e => hup ?_
      simp [upB, e]
    have hi0' : (0 : Int) < (i : Int) := by omega
    have hcm : ¬ cmpL (proof.getD (i - 1) []) p < 0 := fun h => hup (by simp only [upB, hpe, Bool.or_eq_true, decide_eq_true_eq]; exact .inr h)
    obtain ⟨qb, qo, _, qv, eq, qcell, qrow⟩ := (hp.below kr5).row (i := i - 1) (by omega)
    cases eq
    simp (disch := omega) only [r_ln, r_pick, r_pickT, r_pickF, r_condT, r_condF, r_gdTT, r_gdFF, r_gdTF, r_gdFT, r_gqTT, r_gqFF, r_gqTF, r_gqFT, r_not, r_lss, r_leq, r_gtr, r_geq, r_eql, r_neq, r_add, r_sub, r_min2, r_max2, r_min3, r_max3, r_fa, r_iaS, r_iaA, r_ex2a, r_ex2b, r_ex3a, r_ex3b, r_ex3c, r_nc, r_keepE, Nat.zero_add, Nat.add_zero, Nat.mul_one, Int.toNat_natCast, toNat_sub1, toNat_add1, decide_true, decide_false, Bool.not_true, Bool.not_false, if_true, if_false, Bool.false_eq_true, reduceCtorEq, decide_eq_true hi0', r_ld qcell]
    refine r_use fok57 (compare_calls w5 qrow (hrow.below k5)) rfl ?_
    rintro _ _ ⟨rfl, rfl⟩
    refine ⟨_, rfl, ?_⟩
    have hcm' : 0 ≤ cmpL (proof.getD (i - 1) []) p := by omega
    simp (disch := omega) only [r_ln, r_pick, r_pickT, r_pickF, r_condT, r_condF, r_gdTT, r_gdFF, r_gdTF, r_gdFT, r_gqTT, r_gqFF, r_gqTF, r_gqFT, r_not, r_lss, r_leq, r_gtr, r_geq, r_eql, r_neq, r_add, r_sub, r_min2, r_max2, r_min3, r_max3, r_fa, r_iaS, r_iaA, r_ex2a, r_ex2b, r_ex3a, r_ex3b, r_ex3c, r_nc, r_keepE, Nat.zero_add, Nat.add_zero, Nat.mul_one, Int.toNat_natCast, toNat_sub1, toNat_add1, decide_true, decide_false, Bool.not_true, Bool.not_false, if_true, if_false, Bool.false_eq_true, reduceCtorEq, decide_eq_true hcm']
    exact ⟨kr5, out fun h => hup h.2⟩
  have nexti : ∀ (x : World) (d' : Int → Int), Kp w x → Kp w1 x → MapF x bm (iK 0) (fun c => iK (d' c)) → d' = deadL (proof.take (i + 1)) → x.heap[b11]? = some (.cells #[.map (some bm)] 68 (0, 0)) →
      ∃ i' : Nat, i' ≤ proof.length ∧ Value.int .i64 ((i : Int) + 1) = .int .i64 i' ∧ (∀ k, k < i' → rowB W H (proof.getD k []) = true ∧ upB proof k = true) ∧ MapF x bm (iK 0) (fun c => iK (deadL (proof.take i') c)) ∧ x.heap[b11]? = some (.cells #[.map (some bm)] 68 (0, 0)) ∧ Kp w x ∧ Kp w1 x := fun x d' q1 q2 q3 q4 q5 => by
    subst q4
    refine ⟨i + 1, by omega, by go_num, fun k hk => ?_, q3, q5, q1, q2⟩
    by_cases hki : k < i
    · exact hok k hki
    · have : k = i := by omega
      subst this
      exact ⟨by rw [hpe]; exact hrowB, hup⟩
  rcases Nat.eq_zero_or_pos i with hi0 | hi0
  have hi0' : ¬ (0 : Int) < (i : Int) := by omega
  simp (disch := omega) only [r_ln, r_pick, r_pickT, r_pickF, r_condT, r_condF, r_gdTT, r_gdFF, r_gdTF, r_gdFT, r_gqTT, r_gqFF, r_gqTF, r_gqFT, r_not, r_lss, r_leq, r_gtr, r_geq, r_eql, r_neq, r_add, r_sub, r_min2, r_max2, r_min3, r_max3, r_fa, r_iaS, r_iaA, r_ex2a, r_ex2b, r_ex3a, r_ex3b, r_ex3c, r_nc, r_keepE, Nat.zero_add, Nat.add_zero, Nat.mul_one, Int.toNat_natCast, toNat_sub1, toNat_add1, decide_true, decide_false, Bool.not_true, Bool.not_false, if_true, if_false, Bool.false_eq_true, reduceCtorEq, hi0', r_slFrom, i1]
  rotate_left
  have hi0' : (0 : Int) < (i : Int) := by omega
  have hcm : cmpL (proof.getD (i - 1) []) p < 0 := by
    simp only [upB, hpe, Bool.or_eq_true, decide_eq_true_eq] at hup
    rcases hup with h | h
    · omega
    · exact h
  obtain ⟨qb, qo, _, qv, eq, qcell, qrow⟩ := (hp.below kr5).row (i := i - 1) (by omega)
  cases eq
  simp (disch := omega) only [r_ln, r_pick, r_pickT, r_pickF, r_condT, r_condF, r_gdTT, r_gdFF, r_gdTF, r_gdFT, r_gqTT, r_gqFF, r_gqTF, r_gqFT, r_not, r_lss, r_leq, r_gtr, r_geq, r_eql, r_neq, r_add, r_sub, r_min2, r_max2, r_min3, r_max3, r_fa, r_iaS, r_iaA, r_ex2a, r_ex2b, r_ex3a, r_ex3b, r_ex3c, r_nc, r_keepE, Nat.zero_add, Nat.add_zero, Nat.mul_one, Int.toNat_natCast, toNat_sub1, toNat_add1, decide_true, decide_false, Bool.not_true, Bool.not_false, if_true, if_false, Bool.false_eq_true, reduceCtorEq, decide_eq_true hi0', r_ld qcell]
  refine r_use fok57 (compare_calls w5 qrow (hrow.below k5)) rfl ?_
  rintro _ _ ⟨rfl, rfl⟩
  refine ⟨_, rfl, ?_⟩
  have hcm' : ¬ 0 ≤ cmpL (proof.getD (i - 1) []) p := by omega
  simp (disch := omega) only [r_ln, r_pick, r_pickT, r_pickF, r_condT, r_condF, r_gdTT, r_gdFF, r_gdTF, r_gdFT, r_gqTT, r_gqFF, r_gqTF, r_gqFT, r_not, r_lss, r_leq, r_gtr, r_geq, r_eql, r_neq, r_add, r_sub, r_min2, r_max2, r_min3, r_max3, r_fa, r_iaS, r_iaA, r_ex2a, r_ex2b, r_ex3a, r_ex3b, r_ex3c, r_nc, r_keepE, Nat.zero_add, Nat.add_zero, Nat.mul_one, Int.toNat_natCast, toNat_sub1, toNat_add1, decide_true, decide_false, Bool.not_true, Bool.not_false, if_true, if_false, Bool.false_eq_true, reduceCtorEq, hcm', r_slFrom, i1]
  rotate_left
  all_goals
    refine r_use fok58 (number_calls w5 (htail.below k5) hcols (by omega)) rfl ?_
    rintro _ _ ⟨rfl, rfl⟩
    refine ⟨_, rfl, ?_⟩
    have m5 := hmr.kp k5
    have h115 := block_below h11 k5
    have kr15 := Kp.trans kr1 k5
    have c11 : w5.cell? ⟨b11, 0, none⟩ = some (.map (some bm)) := by rw [cell_row h115]; rfl
    rw [r_ld c11, r_lkF und68 zero3 m5 hkey, r_eql]
    refine r_join0 (fun x => ∃ d', Kp w x ∧ Kp w1 x ∧ MapF x bm (iK 0) (fun c => iK (d' c)) ∧ d' = deadL (proof.take (i + 1)) ∧ x.heap[b11]? = some (.cells #[.map (some bm)] 68 (0, 0))) ?_ ?_
    · rintro x ⟨d', q1, q2, q3, q4, q5⟩
      try simp (disch := omega) only [r_ln, r_pick, r_pickT, r_pickF, r_condT, r_condF, r_gdTT, r_gdFF, r_gdTF, r_gdFT, r_gqTT, r_gqFF, r_gqTF, r_gqFT, r_not, r_lss, r_leq, r_gtr, r_geq, r_eql, r_neq, r_add, r_sub, r_min2, r_max2, r_min3, r_max3, r_fa, r_iaS, r_iaA, r_ex2a, r_ex2b, r_ex3a, r_ex3b, r_ex3c, r_nc, r_keepE, Nat.zero_add, Nat.add_zero, Nat.mul_one, Int.toNat_natCast, toNat_sub1, toNat_add1, decide_true, decide_false, Bool.not_true, Bool.not_false, if_true, if_false, Bool.false_eq_true, reduceCtorEq]
      exact ⟨nexti x d' q1 q2 q3 q4 q5, by simp only [intOf]; omega⟩
    intro kk hkk
    by_cases hd0 : deadL (proof.take i) (code (p.drop 1)) = 0
    · simp (disch := omega) only [r_ln, r_pick, r_pickT, r_pickF, r_condT, r_condF, r_gdTT, r_gdFF, r_gdTF, r_gdFT, r_gqTT, r_gqFF, r_gqTF, r_gqFT, r_not, r_lss, r_leq, r_gtr, r_geq, r_eql, r_neq, r_add, r_sub, r_min2, r_max2, r_min3, r_max3, r_fa, r_iaS, r_iaA, r_ex2a, r_ex2b, r_ex3a, r_ex3b, r_ex3c, r_nc, r_keepE, Nat.zero_add, Nat.add_zero, Nat.mul_one, Int.toNat_natCast, toNat_sub1, toNat_add1, decide_true, decide_false, Bool.not_true, Bool.not_false, if_true, if_false, Bool.false_eq_true, reduceCtorEq, decide_eq_true hd0]
      refine r_drew fun w7 k7 _ => ?_
      have c117 : w7.cell? ⟨b11, 0, none⟩ = some (.map (some bm)) := cell_later k7 c11
      have hx07 := cell_later (Kp.trans k5 k7) hx0
      simp (disch := omega) only [r_ln, r_pick, r_pickT, r_pickF, r_condT, r_condF, r_gdTT, r_gdFF, r_gdTF, r_gdFT, r_gqTT, r_gqFF, r_gqTF, r_gqFT, r_not, r_lss, r_leq, r_gtr, r_geq, r_eql, r_neq, r_add, r_sub, r_min2, r_max2, r_min3, r_max3, r_fa, r_iaS, r_iaA, r_ex2a, r_ex2b, r_ex3a, r_ex3b, r_ex3c, r_nc, r_keepE, Nat.zero_add, Nat.add_zero, Nat.mul_one, Int.toNat_natCast, toNat_sub1, toNat_add1, decide_true, decide_false, Bool.not_true, Bool.not_false, if_true, if_false, Bool.false_eq_true, reduceCtorEq, r_ld c117, i0, Nat.zero_mul, r_ld hx07]
      refine r_muF und68 zero3 (m5.kp k7) hkey (fun e => by have := iK_inj e; omega) fun w8 m8 c8 s8 => ?_
      have sbm := m5.lt
      refine hkk w8 ⟨upd (deadL (proof.take i)) (code (p.drop 1)) (p.getD 0 0), Kp.of_chg (Kp.trans kr5 k7) c8 fun k e => by omega, Kp.of_chg (Kp.trans kr15 k7) c8 fun k e => by omega, ?_, ?_, c8.at (block_below h115 k7) (by omega)⟩
      · have e : (fun c => iK (upd (deadL (proof.take i)) (code (p.drop 1)) (p.getD 0 0) c)) = upd (fun c => iK (deadL (proof.take i) c)) (code (p.drop 1)) (iK (p.getD 0 0)) := by
          funext c
          simp only [upd]
          split <;> rfl
        rw [e]
        exact m8
      · rw [hdead, deadF, if_pos hd0]
    · simp (disch := omega) only [r_ln, r_pick, r_pickT, r_pickF, r_condT, r_condF, r_gdTT, r_gdFF, r_gdTF, r_gdFT, r_gqTT, r_gqFF, r_gqTF, r_gqFT, r_not, r_lss, r_leq, r_gtr, r_geq, r_eql, r_neq, r_add, r_sub, r_min2, r_max2, r_min3, r_max3, r_fa, r_iaS, r_iaA, r_ex2a, r_ex2b, r_ex3a, r_ex3b, r_ex3c, r_nc, r_keepE, Nat.zero_add, Nat.add_zero, Nat.mul_one, Int.toNat_natCast, toNat_sub1, toNat_add1, decide_true, decide_false, Bool.not_true, Bool.not_false, if_true, if_false, Bool.false_eq_true, reduceCtorEq, hd0]
      exact hkk w5 ⟨deadL (proof.take i), kr5, kr15, m5, by rw [hdead, deadF, if_neg hd0], h115⟩

end Go.Proofs.Ytgalbokmgffhkaa

/- Contract: alive: which lists of Norths can be gone on from. -/
namespace Go.Proofs.Ytgalbokmgffhkaa
open Go.Lf Go.RowKit Go.Wg

abbrev vE (u : Value) : List Value := [u]
theorem vE_len (u : Value) : (vE u).length = 1 := rfl

theorem rec_one {α : Type} {e : TypeId} {enc : α → List Value} {x : α} {z : Value} (hz : enc x = [z]) (w : World) : RecAt e 1 enc w.heap.size (w.alloc (.cells #[z] e)) (.slice (some ⟨w.heap.size, 0, none⟩) 1 1) [x] := by
  have e1 : recCells enc [x] = [z] := by simp [recCells, hz]
  refine ⟨by rw [e1]; rfl, .inr ⟨w.heap.size, 1, _, rfl, Nat.le_refl _, heap_alloc_new w _, Nat.le_refl _, by unfold maxLen; omega, rfl, ?_⟩⟩
  rw [e1]
  rfl

/-- Lists of booleans, each in memory of its own. -/
def BRows (base : Nat) (w : World) (v : Value) (R : List (List Bool)) : Prop :=
  ∃ vs : List Value, RecAt 91 1 vE base w v vs ∧ vs.length = R.length ∧ ∀ (i : Nat) (u : Value) (r : List Bool), vs[i]? = some u → R[i]? = some r → BoolsAt base w u r

theorem BRows.kp {base : Nat} {w w' : World} {v : Value} {R : List (List Bool)} (h : BRows base w v R) (hk : Kp w w') : BRows base w' v R :=
  let ⟨vs, h1, h2, h3⟩ := h; ⟨vs, h1.kp hk, h2, fun i u r hu hr => (h3 i u r hu hr).kp hk⟩
theorem BRows.len {base : Nat} {w : World} {v : Value} {R : List (List Bool)} (h : BRows base w v R) : ∃ a cap, v = .slice a R.length cap ∧ R.length ≤ cap := by
  obtain ⟨vs, h1, h2, _⟩ := h
  have := h1.len
  rwa [h2] at this
theorem BRows.row {base : Nat} {w : World} {v : Value} {R : List (List Bool)} (h : BRows base w v R) {i : Nat} {r : List Bool} (hi : R[i]? = some r) :
    ∃ b off cap u, v = .slice (some ⟨b, off, none⟩) R.length cap ∧ w.cell? ⟨b, off + i, none⟩ = some u ∧ BoolsAt base w u r := by
  obtain ⟨vs, h1, h2, h3⟩ := h
  have hlt : i < vs.length := by rw [h2]; exact (List.getElem?_eq_some_iff.1 hi).1
  obtain ⟨b, off, cap, e, _, hc⟩ := (h1.rd vE_len).at (List.getElem?_eq_getElem hlt)
  exact ⟨b, off, cap, vs[i], by rw [← h2]; exact e, by simpa using hc 0 _ rfl, h3 i _ r (List.getElem?_eq_getElem hlt) hi⟩

/-- Blocks of different types are different. -/
theorem rec_ne {α β : Type} {e e' : TypeId} {m m' : Nat} {enc : α → List Value} {enc' : β → List Value} {base base' : Nat} {w : World} {v v' : Value} {P : List α} {Q : List β} (h : RecAt e m enc base w v P) (h' : RecAt e' m' enc' base' w v' Q) (hne : e ≠ e') : ∀ k, v.ownBlock = some k → v'.ownBlock ≠ some k := by
  intro k hk hk'
  rcases h.2 with ⟨rfl, _⟩ | ⟨g, cap, cur, rfl, _, hg, _⟩
  · cases hk
  rcases h'.2 with ⟨rfl, _⟩ | ⟨g', cap', cur', rfl, _, hg', _⟩
  · cases hk'
  cases hk
  injection hk' with hk'
  dsimp only at hk'
  subst hk'
  rw [hg] at hg'
  injection hg' with hg'
  injection hg' with _ h3 _
  exact hne h3

def alvF (prev a : List Bool) (x : Line) : List Bool := a.set x.2.1.toNat (a.getD x.2.1.toNat false || prev.getD x.2.2.1.toNat false)
def alvL (L : List Line) (N : Nat) : Nat → List Bool
  | 0 => List.replicate N true
  | k + 1 => L.foldl (alvF (alvL L N k)) (List.replicate N false)
theorem alvF_len (prev : List Bool) : ∀ (L : List Line) (a : List Bool), (L.foldl (alvF prev) a).length = a.length
  | [], _ => rfl
  | x :: L, a => by rw [List.foldl_cons, alvF_len prev L]; simp [alvF]
theorem alvL_len (L : List Line) (N : Nat) : ∀ k, (alvL L N k).length = N
  | 0 => by simp [alvL]
  | k + 1 => by rw [alvL, alvF_len]; simp

set_option maxRecDepth 100000 in
set_option maxHeartbeats 800000 in
theorem alive_calls {lv : Value} {L : List Line} {a h : Nat} (w : World) (ha : 1 ≤ a ∧ a ≤ 4) (hh : h ≤ 100) (hL : RdL w lv L) (hok : LnOk (8 ^ a) L) (hLl : L.length ≤ 1000000) :
    Calls Try.prog 76 #[lv, .int .i64 a, .int .i64 h] w fun e w' => ∃ v', e = .returned v' ∧ Kp w w' ∧ BRows w.heap.size w' v' ((List.range (h + 1)).map (alvL L (8 ^ a))) := by
  obtain ⟨la, lcap, rfl, hlc⟩ := hL.len
  refine lift76 ?_
  unfold S76
  rw [bs91]
  have k1 : Kp w (w.alloc (.cells #[.bool true] 4)) := below_alloc _
  have n1 := heap_alloc_new w (.cells #[.bool true] 4)
  generalize w.alloc (.cells #[.bool true] 4) = w1 at *
  refine r_use fok73 (codes_calls w1 ha.2) rfl ?_
  rintro _ _ ⟨rfl, rfl⟩
  refine ⟨_, rfl, ?_⟩
  have h8 := pow8N_le ha.2
  have hm := mulOk ha
  have hcodes := fun w => codes_calls w ha.2
  generalize 8 ^ a = N at *
  refine r_use fok106 (repeatB_calls (b := w.heap.size) (off := 0) (x := true) hm w1 (by rw [cell_row n1]; rfl)) rfl ?_
  rintro _ w2 ⟨rv, rfl, k2, hrv⟩
  refine ⟨_, rfl, ?_⟩
  clear hm
  have k02 := Kp.trans k1 k2
  have s1 := k1.size
  have s2 := k2.size
  obtain ⟨ra, rcap, rfl, _⟩ := hrv.len
  rw [bs88]
  have k3 : Kp w2 (w2.alloc (.cells #[.slice ra (List.replicate N true).length rcap] 91)) := below_alloc _
  have o3 := rec_one (e := 91) (enc := vE) (x := .slice ra (List.replicate N true).length rcap) rfl w2
  generalize hsz2 : w2.heap.size = sz2 at *
  generalize w2.alloc (.cells #[.slice ra (List.replicate N true).length rcap] 91) = w3 at *
  have B0 : BRows w.heap.size w3 (.slice (some ⟨sz2, 0, none⟩) 1 1) ((List.range 1).map (alvL L N)) := by
    refine ⟨[.slice ra (List.replicate N true).length rcap], o3.down (by omega), rfl, fun i u r hu hr => ?_⟩
    match i with
    | 0 =>
      cases hu
      cases hr
      exact (hrv.kp k3).down (by omega)
    | i + 1 => simp at hu
  have k03 := Kp.trans k02 k3
  refine ⟨fun t7 t8 wr => ∃ k : Nat, 1 ≤ k ∧ k ≤ h + 1 ∧ t8 = .int .i64 k ∧ BRows w.heap.size wr t7 ((List.range k).map (alvL L N)) ∧ Kp w wr, fun _ t8 _ => h + 1 - (intOf t8).toNat, ⟨1, by omega, by omega, rfl, B0, k03⟩, ?_⟩
  rintro _ t7 _ wr ⟨k, hk1, hk, rfl, hB, kr⟩
  by_cases hkl : k ≤ h
  case neg =>
    have hkl' : ¬ (k : Int) ≤ (h : Int) := by omega
    have : k = h + 1 := by omega
    subst this
    simp (disch := omega) only [r_ln, r_pick, r_pickT, r_pickF, r_condT, r_condF, r_gdTT, r_gdFF, r_gdTF, r_gdFT, r_gqTT, r_gqFF, r_gqTF, r_gqFT, r_not, r_lss, r_leq, r_gtr, r_geq, r_eql, r_neq, r_add, r_sub, r_min2, r_max2, r_min3, r_max3, r_fa, r_iaS, r_iaA, r_ex2a, r_ex2b, r_ex3a, r_ex3b, r_ex3c, r_nc, r_keepE, Nat.zero_add, Nat.add_zero, Nat.mul_one, Int.toNat_natCast, toNat_sub1, toNat_add1, decide_true, decide_false, Bool.not_true, Bool.not_false, if_true, if_false, Bool.false_eq_true, reduceCtorEq, hkl']
    exact ⟨_, rfl, kr, hB⟩
  have hkl' : (k : Int) ≤ (h : Int) := by omega
  simp (disch := omega) only [r_ln, r_pick, r_pickT, r_pickF, r_condT, r_condF, r_gdTT, r_gdFF, r_gdTF, r_gdFT, r_gqTT, r_gqFF, r_gqTF, r_gqFT, r_not, r_lss, r_leq, r_gtr, r_geq, r_eql, r_neq, r_add, r_sub, r_min2, r_max2, r_min3, r_max3, r_fa, r_iaS, r_iaA, r_ex2a, r_ex2b, r_ex3a, r_ex3b, r_ex3c, r_nc, r_keepE, Nat.zero_add, Nat.add_zero, Nat.mul_one, Int.toNat_natCast, toNat_sub1, toNat_add1, decide_true, decide_false, Bool.not_true, Bool.not_false, if_true, if_false, Bool.false_eq_true, reduceCtorEq, decide_eq_true hkl']
  refine r_use fok73 (hcodes wr) rfl ?_
  rintro _ _ ⟨rfl, rfl⟩
  refine ⟨_, rfl, ?_⟩
  refine mk91 (by omega) fun v w4 hv k4 hvb => ?_
  have sr := kr.size
  have s4 := k4.size
  obtain ⟨oa, ocap, rfl, _⟩ := hB.len
  try simp only [r_ln, r_pick, r_pickT, r_pickF, r_condT, r_condF, r_gdTT, r_gdFF, r_gdTF, r_gdFT, r_gqTT, r_gqFF, r_gqTF, r_gqFT, r_not, r_lss, r_leq, r_gtr, r_geq, r_eql, r_neq, r_add, r_sub, r_min2, r_max2, r_min3, r_max3, r_fa, r_iaS, r_iaA, r_ex2a, r_ex2b, r_ex3a, r_ex3b, r_ex3c, r_nc, r_keepE, Nat.zero_add, Nat.add_zero, Nat.mul_one, Int.toNat_natCast, toNat_sub1, toNat_add1, decide_true, decide_false, Bool.not_true, Bool.not_false, if_true, if_false, Bool.false_eq_true, reduceCtorEq]
  refine ⟨fun t27 wq => ∃ i : Nat, i ≤ L.length ∧ t27 = .int .i64 i ∧ Kp wr wq ∧ BoolsAt wr.heap.size wq v ((L.take i).foldl (alvF (alvL L N (k - 1))) (List.replicate N false)), fun t27 _ => L.length - (intOf t27).toNat,
    ⟨0, by omega, rfl, k4, by simpa using hv⟩, ?_⟩
  rintro _ _ wq ⟨i, hi, rfl, kq, hvq⟩
  have hBq := hB.kp kq
  have hNl := alvF_len (alvL L N (k - 1)) (L.take i) (List.replicate N false)
  rw [List.length_replicate] at hNl
  have sq := kq.size
  by_cases hil : i < L.length
  case neg =>
    have hil' : ¬ (i : Int) < (L.length : Int) := by omega
    rw [List.take_of_length_le (by omega)] at hvq hNl
    simp (disch := omega) only [r_ln, r_pick, r_pickT, r_pickF, r_condT, r_condF, r_gdTT, r_gdFF, r_gdTF, r_gdFT, r_gqTT, r_gqFF, r_gqTF, r_gqFT, r_not, r_lss, r_leq, r_gtr, r_geq, r_eql, r_neq, r_add, r_sub, r_min2, r_max2, r_min3, r_max3, r_fa, r_iaS, r_iaA, r_ex2a, r_ex2b, r_ex3a, r_ex3b, r_ex3c, r_nc, r_keepE, Nat.zero_add, Nat.add_zero, Nat.mul_one, Int.toNat_natCast, toNat_sub1, toNat_add1, decide_true, decide_false, Bool.not_true, Bool.not_false, if_true, if_false, Bool.false_eq_true, reduceCtorEq, hil']
    obtain ⟨va, vcap, rfl, _⟩ := hvq.len
    obtain ⟨vs, o1, o2, o3'⟩ := hBq
    refine r_pushRec (x := .slice va _ vcap) slt88 vE_len rfl (bs88 _ _ _ _) (by intro u hu; simp at hu; subst hu; rfl) (by omega) o1 (by rw [o2]; simp; omega) (by omega) fun v' w5 p1 p2 p3 => ?_
    try simp (disch := omega) only [r_ln, r_pick, r_pickT, r_pickF, r_condT, r_condF, r_gdTT, r_gdFF, r_gdTF, r_gdFT, r_gqTT, r_gqFF, r_gqTF, r_gqFT, r_not, r_lss, r_leq, r_gtr, r_geq, r_eql, r_neq, r_add, r_sub, r_min2, r_max2, r_min3, r_max3, r_fa, r_iaS, r_iaA, r_ex2a, r_ex2b, r_ex3a, r_ex3b, r_ex3c, r_nc, r_keepE, Nat.zero_add, Nat.add_zero, Nat.mul_one, Int.toNat_natCast, toNat_sub1, toNat_add1, decide_true, decide_false, Bool.not_true, Bool.not_false, if_true, if_false, Bool.false_eq_true, reduceCtorEq]
    refine ⟨⟨k + 1, by omega, by omega, by go_num, ⟨_, p1, by simp [o2], fun j u r hu hr => ?_⟩, Kp.of_chg (Kp.trans kr kq) p2 fun q hq => (o1.lt hq).1⟩, by simp only [intOf]; omega⟩
    have key : ∀ u r, BoolsAt w.heap.size wq u r → BoolsAt w.heap.size w5 u r := fun u r hb => hb.chg p2 fun q hq => rec_ne hb o1 (by decide) q hq
    rw [List.range_succ, List.map_append] at hr
    by_cases hj : j < vs.length
    · rw [List.getElem?_append_left hj] at hu
      rw [List.getElem?_append_left (by rw [← o2]; exact hj)] at hr
      exact key u r (o3' j u r hu hr)
    · rw [List.getElem?_append_right (by omega)] at hu
      rw [List.getElem?_append_right (by rw [← o2]; omega), ← o2] at hr
      match hjj : j - vs.length with
      | 0 =>
        rw [hjj] at hu hr
        cases hu
        simp at hr
        subst hr
        refine key _ _ (RecAt.down ?_ sr)
        have e : alvL L N k = L.foldl (alvF (alvL L N (k - 1))) (List.replicate N false) := by
          obtain ⟨k', rfl⟩ : ∃ k', k = k' + 1 := ⟨k - 1, by omega⟩
          rfl
        rw [e]
        exact hvq
      | n + 1 => rw [hjj] at hu; simp at hu
  have hil' : (i : Int) < (L.length : Int) := by omega
  obtain ⟨x, hx⟩ : ∃ x, L[i]? = some x := ⟨_, List.getElem?_eq_getElem hil⟩
  obtain ⟨lb, lo, lc, el, _, hld⟩ := RdL.line (hL.kp (Kp.trans kr kq)) hx
  cases el
  simp (disch := omega) only [r_ln, r_pick, r_pickT, r_pickF, r_condT, r_condF, r_gdTT, r_gdFF, r_gdTF, r_gdFT, r_gqTT, r_gqFF, r_gqTF, r_gqFT, r_not, r_lss, r_leq, r_gtr, r_geq, r_eql, r_neq, r_add, r_sub, r_min2, r_max2, r_min3, r_max3, r_fa, r_iaS, r_iaA, r_ex2a, r_ex2b, r_ex3a, r_ex3b, r_ex3c, r_nc, r_keepE, Nat.zero_add, Nat.add_zero, Nat.mul_one, Int.toNat_natCast, toNat_sub1, toNat_add1, decide_true, decide_false, Bool.not_true, Bool.not_false, if_true, if_false, Bool.false_eq_true, reduceCtorEq, decide_eq_true hil', hld]
  refine r_box fun b11 x2 e11 s11 h11 y2 => ?_
  refine r_stAll (n := 7) (ty := 78) (by kernel_rfl) rfl (by intro u hu; simp [Value.cells] at hu; rcases hu with rfl | rfl | rfl | rfl | rfl | rfl | rfl <;> rfl) h11 rfl fun x3 c11 s11' h113 => ?_
  have y3 : Kp wq x3 := Kp.of_chg y2 c11 fun i e => by omega
  refine r_drew fun x4 y4 _ => ?_
  have y04 := Kp.trans y3 y4
  have h114 := block_below h113 y4
  have c4 : x4.cell? ⟨b11, 4, none⟩ = some (.int .i64 x.2.1) := by rw [cell_row h114]; rfl
  have c5 : x4.cell? ⟨b11, 5, none⟩ = some (.int .i64 x.2.2.1) := by rw [cell_row h114]; rfl
  obtain ⟨⟨x1, x2'⟩, x3', x4'⟩ := hok x (List.mem_of_getElem? hx)
  have htake : (L.take (i + 1)).foldl (alvF (alvL L N (k - 1))) (List.replicate N false) = alvF (alvL L N (k - 1)) ((L.take i).foldl (alvF (alvL L N (k - 1))) (List.replicate N false)) x := by
    rw [List.take_add_one, hx]
    simp
  have hpl := alvL_len L N (k - 1)
  obtain ⟨ob, oo, _, u, eo, ocell, hu⟩ := (hBq.kp y04).row (i := k - 1) (r := alvL L N (k - 1)) (by rw [List.getElem?_map, List.getElem?_range (by omega)]; rfl)
  cases eo
  generalize alvL L N (k - 1) = prev at *
  generalize (L.take i).foldl (alvF prev) (List.replicate N false) = A at *
  obtain ⟨g, cap, ev, hgb, gc, gf, gset⟩ := BoolsAt.put (hvq.kp y04) (q := x.2.1.toNat) (by omega) (A.getD x.2.1.toNat false || prev.getD x.2.2.1.toNat false)
  obtain ⟨ub, uo, uc, eu, _, hus⟩ := (hu.rd bC_len).at (i := x.2.2.1.toNat) (x := prev.getD x.2.2.1.toNat false) (by rw [List.getElem?_eq_getElem (by omega), getD_lt _ _ _ (by omega)])
  have hus0 := hus 0 _ rfl
  simp only [Nat.mul_one, Nat.add_zero] at hus0
  subst ev
  subst eu
  cases hA : A.getD x.2.1.toNat false with
  | true =>
    rw [hA] at gset
    simp (disch := omega) only [r_ln, r_pick, r_pickT, r_pickF, r_condT, r_condF, r_gdTT, r_gdFF, r_gdTF, r_gdFT, r_gqTT, r_gqFF, r_gqTF, r_gqFT, r_not, r_lss, r_leq, r_gtr, r_geq, r_eql, r_neq, r_add, r_sub, r_min2, r_max2, r_min3, r_max3, r_fa, r_iaS, r_iaA, r_ex2a, r_ex2b, r_ex3a, r_ex3b, r_ex3c, r_nc, r_keepE, Nat.zero_add, Nat.add_zero, Nat.mul_one, Int.toNat_natCast, toNat_sub1, toNat_add1, decide_true, decide_false, Bool.not_true, Bool.not_false, if_true, if_false, Bool.false_eq_true, reduceCtorEq, r_ld c4, r_ld c5, r_ld gc, hA]
    rw [st4 gc gf]
    try simp (disch := omega) only [r_ln, r_pick, r_pickT, r_pickF, r_condT, r_condF, r_gdTT, r_gdFF, r_gdTF, r_gdFT, r_gqTT, r_gqFF, r_gqTF, r_gqFT, r_not, r_lss, r_leq, r_gtr, r_geq, r_eql, r_neq, r_add, r_sub, r_min2, r_max2, r_min3, r_max3, r_fa, r_iaS, r_iaA, r_ex2a, r_ex2b, r_ex3a, r_ex3b, r_ex3c, r_nc, r_keepE, Nat.zero_add, Nat.add_zero, Nat.mul_one, Int.toNat_natCast, toNat_sub1, toNat_add1, decide_true, decide_false, Bool.not_true, Bool.not_false, if_true, if_false, Bool.false_eq_true, reduceCtorEq]
    refine ⟨⟨i + 1, by omega, by go_num, Kp.of_chg (Kp.trans kq y04) (Chg.setCell (S := fun k => k = g) _ _ rfl) fun k e => by omega, ?_⟩, by simp only [intOf]; omega⟩
    rw [htake, alvF, hA]
    simpa using gset
  | false =>
    rw [hA] at gset
    have hlm : (List.map (alvL L N) (List.range k)).length = k := by simp
    simp (disch := omega) only [r_ln, r_pick, r_pickT, r_pickF, r_condT, r_condF, r_gdTT, r_gdFF, r_gdTF, r_gdFT, r_gqTT, r_gqFF, r_gqTF, r_gqFT, r_not, r_lss, r_leq, r_gtr, r_geq, r_eql, r_neq, r_add, r_sub, r_min2, r_max2, r_min3, r_max3, r_fa, r_iaS, r_iaA, r_ex2a, r_ex2b, r_ex3a, r_ex3b, r_ex3c, r_nc, r_keepE, Nat.zero_add, Nat.add_zero, Nat.mul_one, Int.toNat_natCast, toNat_sub1, toNat_add1, decide_true, decide_false, Bool.not_true, Bool.not_false, if_true, if_false, Bool.false_eq_true, reduceCtorEq, r_ld c4, r_ld c5, r_ld gc, hA, hlm, r_ld ocell, r_ld hus0]
    rw [st4 gc gf]
    try simp (disch := omega) only [r_ln, r_pick, r_pickT, r_pickF, r_condT, r_condF, r_gdTT, r_gdFF, r_gdTF, r_gdFT, r_gqTT, r_gqFF, r_gqTF, r_gqFT, r_not, r_lss, r_leq, r_gtr, r_geq, r_eql, r_neq, r_add, r_sub, r_min2, r_max2, r_min3, r_max3, r_fa, r_iaS, r_iaA, r_ex2a, r_ex2b, r_ex3a, r_ex3b, r_ex3c, r_nc, r_keepE, Nat.zero_add, Nat.add_zero, Nat.mul_one, Int.toNat_natCast, toNat_sub1, toNat_add1, decide_true, decide_false, Bool.not_true, Bool.not_false, if_true, if_false, Bool.false_eq_true, reduceCtorEq]
    refine ⟨⟨i + 1, by omega, by go_num, Kp.of_chg (Kp.trans kq y04) (Chg.setCell (S := fun k => k = g) _ _ rfl) fun k e => by omega, ?_⟩, by simp only [intOf]; omega⟩
    rw [htake, alvF, hA]
    simpa using gset

end Go.Proofs.Ytgalbokmgffhkaa

/- Lifted texts, printed by program (gen.py): what each function's code asks. The ties are by the kernel. -/
namespace Go.Proofs.Ytgalbokmgffhkaa
open Go.Lf Go.RowKit

def S85 (t0 t1 : Value) (w : World) (R : Ending → World → Prop) : Prop :=
  callW Try.prog (.func (.func 57) #[] #[]) [t0, t1] w fun t7 w =>
  R (.returned t7) w

def A85 : Ann where
  live := fun _ => []
  wr := fun _ _ => false
  sched := fun _ => .done

set_option maxRecDepth 100000 in
theorem ok85 : (codeOk Try.f85.ntmps A85 (Try.f85.body.getD .skip) 0 && Nat.ble 2 Try.f85.ntmps) = true := by kernel_rfl
set_option maxRecDepth 100000 in
theorem lift85 {t0 t1 : Value} {w : World} {R : Ending → World → Prop} (h : S85 t0 t1 w R) : Calls Try.prog 85 #[t0, t1] w R :=
  calls_of_cw (fn := Try.f85) (c := Try.f85.body.getD .skip) A85 mixes Try.func85 (by kernel_rfl) ok85
    ((by kernel_rfl : (S85 t0 t1 w R) = cw Try.prog A85 (Try.f85.body.getD .skip) 0 (bodyQ Try.prog Try.f85 R) (frOf #[t0, t1]) w).mp h)

def S21 (t0 t1 : Value) (w : World) (R : Ending → World → Prop) : Prop :=
  boxW 22 t0 w fun t2 w =>
  ld1 w t2 fun t19 =>
  callW Try.prog (.func (.func 65) #[] #[]) [t19] w fun t20 w =>
  unQ .not t20 fun t21 =>
  gd t21 false (fun k => k t1 w) w fun t23 w =>
  gd t21 false (fun k => ln1 t23 fun v => k v w) w fun t24 w =>
  gd t21 false (fun k => callW Try.prog (.func (.func 66) #[] #[]) [t24] w k) w fun t25 w =>
  gd t21 false (fun k => unQ .not t25 fun v => k v w) w fun t26 w =>
  pickQ t21 (.bool true) t26 fun t27 =>
  gd t27 false (fun k => k t1 w) w fun t29 w =>
  gd t27 false (fun k => iaS 1 t29 (.int .i64 0) fun v => k v w) w fun t30 w =>
  gd t27 false (fun k => ld1 w t30 fun v => k v w) w fun t31 w =>
  gd t27 false (fun k => ln1 t31 fun v => k v w) w fun t32 w =>
  gd t27 false (fun k => callW Try.prog (.func (.func 66) #[] #[]) [t32] w k) w fun t33 w =>
  gd t27 false (fun k => unQ .not t33 fun v => k v w) w fun t34 w =>
  pickQ t27 (.bool true) t34 fun t35 =>
  condW t35 (
    R (.returned (.tuple #[(.bool false), (.bool false), (.int .i64 2)])) w
  ) (
    iaS 1 t1 (.int .i64 0) fun t37 =>
    ld1 w t37 fun t38 =>
    ln1 t38 fun t39 =>
    ln1 t1 fun t41 =>
    ln1 t1 fun t43 =>
    Loop1 (.int .i64 0) w fun _ t44 w next =>
      binQ Try.prog w .lss 3 false t44 t43 fun t45 =>
      condW t45 (
        iaS 1 t1 t44 fun t46 =>
        ld1 w t46 fun t47 =>
        ln1 t47 fun t49 =>
        binQ Try.prog w .neq 3 false t49 t39 fun t51 =>
        gd t51 false (fun k => k t47 w) w fun t53 w =>
        gd t51 false (fun k => k (.func (.func 67) #[] #[t2]) w) w fun t54 w =>
        gd t51 false (fun k => callW Try.prog (.func (.func 54) #[] #[]) [t53, t54] w k) w fun t55 w =>
        pickQ t51 (.bool true) t55 fun t56 =>
        condW t56 (
          R (.returned (.tuple #[(.bool false), (.bool false), (.int .i64 2)])) w
        ) (
          binQ Try.prog w .add 3 true t44 (.int .i64 1) fun t57 =>
          next t57 w
        )
      ) (
        ln1 t1 fun t59 =>
        Loop3 (.bool true) (.bool true) (.int .i64 0) w fun _ t11 t12 t60 w next_2 =>
          binQ Try.prog w .lss 3 false t60 t59 fun t61 =>
          condW t61 (
            iaS 1 t1 t60 fun t63 =>
            ld1 w t63 fun t64 =>
            ln1 t64 fun t66 =>
            Loop3 t11 t12 (.int .i64 0) w fun _ t11_2 t12_2 t67 w next_3 =>
              binQ Try.prog w .lss 3 false t67 t66 fun t68 =>
              condW t68 (
                iaS 1 t64 t67 fun t70 =>
                ld1 w t70 fun t71 =>
                Drew w fun w =>
                Join (fun (k_2 : Value → Value → World → Prop) =>
                  ∃ X : Nat → Prop,
                  takeX X w (fun w k => ld1 w t2 k) fun t72 =>
                  takeX X w (fun w k => k t64) fun t73 =>
                  takeX X w (fun w k => k t67) fun t74 =>
                  takeX X w (fun w k => binQ Try.prog w .add 3 true t74 (.int .i64 1) k) fun t75 =>
                  takeX X w (fun w k => k t39) fun t76 =>
                  takeX X w (fun w k => binQ Try.prog w .rem 3 false t75 t76 k) fun t77 =>
                  takeX X w (fun w k => iaS 1 t73 t77 k) fun t78 =>
                  takeX X w (fun w k => ld1 w t78 k) fun t79 =>
                  takeX X w (fun w k => iaS 4 t72 t79 k) fun t80 =>
                  takeX X w (fun w k => ldN 4 w t80 k) fun t81 =>
                  takeX X w (fun w k => ld1 w t2 k) fun t82 =>
                  takeX X w (fun w k => k t1) fun t83 =>
                  takeX X w (fun w k => k t60) fun t84 =>
                  takeX X w (fun w k => binQ Try.prog w .add 3 true t84 (.int .i64 1) k) fun t85 =>
                  takeX X w (fun w k => k t41) fun t86 =>
                  takeX X w (fun w k => binQ Try.prog w .rem 3 false t85 t86 k) fun t87 =>
                  takeX X w (fun w k => iaS 1 t83 t87 k) fun t88 =>
                  takeX X w (fun w k => ld1 w t88 k) fun t89 =>
                  takeX X w (fun w k => k t67) fun t90 =>
                  takeX X w (fun w k => iaS 1 t89 t90 k) fun t91 =>
                  takeX X w (fun w k => ld1 w t91 k) fun t92 =>
                  takeX X w (fun w k => iaS 4 t82 t92 k) fun t93 =>
                  takeX X w (fun w k => ldN 4 w t93 k) fun t94 =>
                  And (
                    boxW 32 (.agg #[(.int .i64 0), (.int .i64 0), (.int .i64 0), (.int .i64 0)]) w <| keepX X w fun t17_2 w =>
                    boxW 32 (.agg #[(.int .i64 0), (.int .i64 0), (.int .i64 0), (.int .i64 0)]) w <| keepX X w fun t18_2 w =>
                    stW Try.prog 32 t17_2 t81 w <| keepW X w fun w =>
                    stW Try.prog 32 t18_2 t94 w fun w =>
                    k_2 t17_2 t18_2 w
                  ) <|
                  And (
                    boxW 32 (.agg #[(.int .i64 0), (.int .i64 0), (.int .i64 0), (.int .i64 0)]) w <| keepX X w fun t18_3 w =>
                    boxW 32 (.agg #[(.int .i64 0), (.int .i64 0), (.int .i64 0), (.int .i64 0)]) w <| keepX X w fun t17_3 w =>
                    stW Try.prog 32 t17_3 t81 w <| keepW X w fun w =>
                    stW Try.prog 32 t18_3 t94 w fun w =>
                    k_2 t17_3 t18_3 w
                  ) <|
                  True
                ) fun t17 t18 w =>
                Drew w fun w =>
                ld1 w t2 fun t95 =>
                iaS 4 t95 t71 fun t97 =>
                fa1 t97 1 fun t98 =>
                ld1 w t98 fun t99 =>
                fa1 t17 3 fun t100 =>
                ld1 w t100 fun t101 =>
                binQ Try.prog w .neq 3 false t99 t101 fun t102 =>
                Join (fun (k_4 : Value → Value → World → Prop) =>
                  condW t102 (
                    gd t11_2 true (fun k => k t67 w) w fun t105 w =>
                    gd t11_2 true (fun k => k t39 w) w fun t106 w =>
                    gd t11_2 true (fun k => binQ Try.prog w .sub 3 true t106 (.int .i64 1) fun v => k v w) w fun t107 w =>
                    gd t11_2 true (fun k => binQ Try.prog w .eql 3 false t105 t107 fun v => k v w) w fun t108 w =>
                    pickQ t11_2 t108 (.bool false) fun t109 =>
                    k_4 t109 (.bool false) w
                  ) (
                    k_4 t11_2 t12_2 w
                  )
                ) fun t11_4 t12_4 w =>
                Drew w fun w =>
                ld1 w t2 fun t110_2 =>
                iaS 4 t110_2 t71 fun t112_2 =>
                fa1 t112_2 2 fun t113_2 =>
                ld1 w t113_2 fun t114_2 =>
                fa1 t18 0 fun t115_2 =>
                ld1 w t115_2 fun t116_2 =>
                binQ Try.prog w .neq 3 false t114_2 t116_2 fun t117_2 =>
                Join (fun (k_5 : Value → Value → World → Prop) =>
                  condW t117_2 (
                    gd t11_4 true (fun k => k t60 w) w fun t120_2 w =>
                    gd t11_4 true (fun k => k t41 w) w fun t121_2 w =>
                    gd t11_4 true (fun k => binQ Try.prog w .sub 3 true t121_2 (.int .i64 1) fun v => k v w) w fun t122_2 w =>
                    gd t11_4 true (fun k => binQ Try.prog w .eql 3 false t120_2 t122_2 fun v => k v w) w fun t123_2 w =>
                    pickQ t11_4 t123_2 (.bool false) fun t124_2 =>
                    k_5 t124_2 (.bool false) w
                  ) (
                    k_5 t11_4 t12_4 w
                  )
                ) fun t11_5 t12_5 w =>
                binQ Try.prog w .add 3 true t67 (.int .i64 1) fun t125_4 =>
                next_3 t11_5 t12_5 t125_4 w
              ) (
                binQ Try.prog w .add 3 true t60 (.int .i64 1) fun t126 =>
                next_2 t11_2 t12_2 t126 w
              )
          ) (
            R (.returned (.tuple #[t11, t12, (.int .i64 0)])) w
          )
      )
  )

def A21 : Ann where
  live := fun
    | 0 => [44]
    | 2 => [11, 12, 60]
    | 4 => [11, 12, 67]
    | _ => []
  wr := fun
    | 0 => fun i => (Nat.ble 4 i && Nat.ble i 6) || Nat.beq i 10 || (Nat.ble 44 i && Nat.ble i 57)
    | 2 => fun i => (Nat.ble 11 i && Nat.ble i 18) || (Nat.ble 60 i && Nat.ble i 126)
    | 4 => fun i => (Nat.ble 11 i && Nat.ble i 12) || (Nat.ble 15 i && Nat.ble i 18) || (Nat.ble 67 i && Nat.ble i 125)
    | _ => fun _ => false
  sched := fun
    | 17 => (.cls (.take 0 (.take 1 (.take 2 (.take 3 (.take 4 (.take 5 (.take 6 (.take 7 (.take 8 (.take 9 (.take 10 (.take 11 (.take 12 (.take 13 (.take 14 (.take 15 (.take 16 (.take 17 (.take 18 (.take 19 (.take 20 (.take 21 (.take 22 (.alt 23 (.eff 24 (.eff 25 (.bar 26 .done))) (.alt 24 (.eff 23 (.eff 25 (.bar 26 .done))) .nomore))))))))))))))))))))))))))
    | 18 => (.take 0 (.take 1 (.take 2 (.take 3 (.take 4 (.take 5 (.take 6 (.take 7 .done))))))))
    | 21 => (.take 0 (.take 1 (.take 2 (.take 3 (.take 4 (.take 5 (.take 6 (.take 7 .done))))))))
    | _ => .done

set_option maxRecDepth 100000 in
theorem ok21 : (codeOk Try.f21.ntmps A21 (Try.f21.body.getD .skip) 0 && Nat.ble 2 Try.f21.ntmps) = true := by kernel_rfl
set_option maxRecDepth 100000 in
theorem lift21 {t0 t1 : Value} {w : World} {R : Ending → World → Prop} (h : S21 t0 t1 w R) : Calls Try.prog 21 #[t0, t1] w R :=
  calls_of_cw (fn := Try.f21) (c := Try.f21.body.getD .skip) A21 mixes Try.func21 (by kernel_rfl) ok21
    ((by kernel_rfl : (S21 t0 t1 w R) = cw Try.prog A21 (Try.f21.body.getD .skip) 0 (bodyQ Try.prog Try.f21 R) (frOf #[t0, t1]) w).mp h)

def S22 (t0 t1 : Value) (w : World) (R : Ending → World → Prop) : Prop :=
  callW Try.prog (.func (.func 35) #[] #[]) [t0] w fun t17 w =>
  unQ .not t17 fun t18 =>
  gd t18 false (fun k => k t1 w) w fun t20 w =>
  gd t18 false (fun k => ln1 t20 fun v => k v w) w fun t21 w =>
  gd t18 false (fun k => callW Try.prog (.func (.func 68) #[] #[]) [t21] w k) w fun t22 w =>
  gd t18 false (fun k => unQ .not t22 fun v => k v w) w fun t23 w =>
  pickQ t18 (.bool true) t23 fun t24 =>
  gd t24 false (fun k => k t1 w) w fun t26 w =>
  gd t24 false (fun k => iaS 1 t26 (.int .i64 0) fun v => k v w) w fun t27 w =>
  gd t24 false (fun k => ld1 w t27 fun v => k v w) w fun t28 w =>
  gd t24 false (fun k => ln1 t28 fun v => k v w) w fun t29 w =>
  gd t24 false (fun k => callW Try.prog (.func (.func 68) #[] #[]) [t29] w k) w fun t30 w =>
  gd t24 false (fun k => unQ .not t30 fun v => k v w) w fun t31 w =>
  pickQ t24 (.bool true) t31 fun t32 =>
  condW t32 (
    R (.returned (.tuple #[(.bool false), (.bool false), (.int .i64 2)])) w
  ) (
    iaS 1 t1 (.int .i64 0) fun t34 =>
    ld1 w t34 fun t35 =>
    ln1 t35 fun t36 =>
    ln1 t1 fun t38 =>
    Loop1 (.int .i64 0) w fun _ t9 w next =>
      binQ Try.prog w .lss 3 false t9 t38 fun t41 =>
      condW t41 (
        iaS 1 t1 t9 fun t46 =>
        ld1 w t46 fun t47 =>
        ln1 t47 fun t48 =>
        binQ Try.prog w .neq 3 false t48 t36 fun t50 =>
        condW t50 (
          R (.returned (.tuple #[(.bool false), (.bool false), (.int .i64 2)])) w
        ) (
          Loop1 (.int .i64 0) w fun _ t10 w next_2 =>
            binQ Try.prog w .lss 3 false t10 t36 fun t53 =>
            condW t53 (
              iaS 1 t1 t9 fun t58 =>
              ld1 w t58 fun t59 =>
              iaS 1 t59 t10 fun t61 =>
              ld1 w t61 fun t62 =>
              binQ Try.prog w .lss 3 true t62 (.int .i64 0) fun t63 =>
              gd t63 false (fun k => k t1 w) w fun t65 w =>
              gd t63 false (fun k => k t9 w) w fun t66 w =>
              gd t63 false (fun k => iaS 1 t65 t66 fun v => k v w) w fun t67 w =>
              gd t63 false (fun k => ld1 w t67 fun v => k v w) w fun t68 w =>
              gd t63 false (fun k => k t10 w) w fun t69 w =>
              gd t63 false (fun k => iaS 1 t68 t69 fun v => k v w) w fun t70 w =>
              gd t63 false (fun k => ld1 w t70 fun v => k v w) w fun t71 w =>
              gd t63 false (fun k => k t0 w) w fun t72 w =>
              gd t63 false (fun k => ln1 t72 fun v => k v w) w fun t73 w =>
              gd t63 false (fun k => binQ Try.prog w .geq 3 false t71 t73 fun v => k v w) w fun t74 w =>
              pickQ t63 (.bool true) t74 fun t75 =>
              condW t75 (
                R (.returned (.tuple #[(.bool false), (.bool false), (.int .i64 2)])) w
              ) (
                binQ Try.prog w .add 3 true t10 (.int .i64 1) fun t55 =>
                next_2 t55 w
              )
            ) (
              binQ Try.prog w .add 3 true t9 (.int .i64 1) fun t43 =>
              next t43 w
            )
        )
      ) (
        Loop3 (.bool true) (.bool true) (.int .i64 0) w fun _ t11 t12 t13 w next_3 =>
          binQ Try.prog w .lss 3 false t13 t38 fun t78 =>
          condW t78 (
            Loop3 t11 t12 (.int .i64 0) w fun _ t11_2 t12_2 t14 w next_4 =>
              binQ Try.prog w .lss 3 false t14 t36 fun t83 =>
              condW t83 (
                iaS 1 t1 t13 fun t89 =>
                ld1 w t89 fun t90 =>
                iaS 1 t90 t14 fun t92 =>
                ld1 w t92 fun t93 =>
                iaS 4 t0 t93 fun t94 =>
                ldN 4 w t94 fun t95 =>
                boxW 32 (.agg #[(.int .i64 0), (.int .i64 0), (.int .i64 0), (.int .i64 0)]) w fun t15 w =>
                stW Try.prog 32 t15 t95 w fun w =>
                Drew w fun w =>
                fa1 t15 1 fun t96 =>
                ld1 w t96 fun t97 =>
                iaS 1 t1 t13 fun t101 =>
                ld1 w t101 fun t102 =>
                binQ Try.prog w .add 3 true t14 (.int .i64 1) fun t104 =>
                binQ Try.prog w .rem 3 false t104 t36 fun t106 =>
                iaS 1 t102 t106 fun t107 =>
                ld1 w t107 fun t108 =>
                iaS 4 t0 t108 fun t109 =>
                fa1 t109 3 fun t110 =>
                ld1 w t110 fun t111 =>
                binQ Try.prog w .neq 3 false t97 t111 fun t112 =>
                Join (fun (k_3 : Value → Value → World → Prop) =>
                  condW t112 (
                    gd t11_2 true (fun k => k t14 w) w fun t115 w =>
                    gd t11_2 true (fun k => binQ Try.prog w .add 3 true t115 (.int .i64 1) fun v => k v w) w fun t116 w =>
                    gd t11_2 true (fun k => k t36 w) w fun t117 w =>
                    gd t11_2 true (fun k => binQ Try.prog w .eql 3 false t116 t117 fun v => k v w) w fun t118 w =>
                    pickQ t11_2 t118 (.bool false) fun t119 =>
                    k_3 t119 (.bool false) w
                  ) (
                    k_3 t11_2 t12_2 w
                  )
                ) fun t11_4 t12_4 w =>
                Drew w fun w =>
                fa1 t15 2 fun t120_2 =>
                ld1 w t120_2 fun t121_2 =>
                binQ Try.prog w .add 3 true t13 (.int .i64 1) fun t125_2 =>
                binQ Try.prog w .rem 3 false t125_2 t38 fun t127_2 =>
                iaS 1 t1 t127_2 fun t128_2 =>
                ld1 w t128_2 fun t129_2 =>
                iaS 1 t129_2 t14 fun t131_2 =>
                ld1 w t131_2 fun t132_2 =>
                iaS 4 t0 t132_2 fun t133_2 =>
                fa1 t133_2 0 fun t134_2 =>
                ld1 w t134_2 fun t135_2 =>
                binQ Try.prog w .neq 3 false t121_2 t135_2 fun t136_2 =>
                Join (fun (k_4 : Value → Value → World → Prop) =>
                  condW t136_2 (
                    gd t11_4 true (fun k => k t13 w) w fun t139_2 w =>
                    gd t11_4 true (fun k => binQ Try.prog w .add 3 true t139_2 (.int .i64 1) fun v => k v w) w fun t140_2 w =>
                    gd t11_4 true (fun k => k t38 w) w fun t141_2 w =>
                    gd t11_4 true (fun k => binQ Try.prog w .eql 3 false t140_2 t141_2 fun v => k v w) w fun t142_2 w =>
                    pickQ t11_4 t142_2 (.bool false) fun t143_2 =>
                    k_4 t143_2 (.bool false) w
                  ) (
                    k_4 t11_4 t12_4 w
                  )
                ) fun t11_5 t12_5 w =>
                binQ Try.prog w .add 3 true t14 (.int .i64 1) fun t85_4 =>
                next_4 t11_5 t12_5 t85_4 w
              ) (
                binQ Try.prog w .add 3 true t13 (.int .i64 1) fun t80 =>
                next_3 t11_2 t12_2 t80 w
              )
          ) (
            gd t11 true (fun k => k t12 w) w fun t147 w =>
            pickQ t11 t147 (.bool false) fun t148 =>
            R (.returned (.tuple #[t11, t148, (.int .i64 0)])) w
          )
      )
  )

def A22 : Ann where
  live := fun
    | 0 => [9]
    | 2 => [10]
    | 4 => [11, 12, 13]
    | 6 => [11, 12, 14]
    | _ => []
  wr := fun
    | 0 => fun i => (Nat.ble 4 i && Nat.ble i 6) || (Nat.ble 9 i && Nat.ble i 10) || (Nat.ble 39 i && Nat.ble i 75)
    | 2 => fun i => (Nat.ble 4 i && Nat.ble i 6) || Nat.beq i 10 || (Nat.ble 51 i && Nat.ble i 75)
    | 4 => fun i => (Nat.ble 11 i && Nat.ble i 15) || (Nat.ble 76 i && Nat.ble i 143)
    | 6 => fun i => (Nat.ble 11 i && Nat.ble i 12) || (Nat.ble 14 i && Nat.ble i 15) || (Nat.ble 81 i && Nat.ble i 143)
    | _ => fun _ => false
  sched := fun
    | 22 => (.take 0 (.take 1 (.take 2 (.take 3 (.take 4 (.take 5 (.take 6 (.take 7 (.take 8 (.take 9 (.take 10 (.take 11 (.take 12 (.take 13 (.take 14 (.take 15 (.take 16 .done)))))))))))))))))
    | 25 => (.take 0 (.take 1 (.take 2 (.take 3 (.take 4 (.take 5 (.take 6 (.take 7 (.take 8 (.take 9 (.take 10 (.take 11 (.take 12 (.take 13 (.take 14 (.take 15 (.take 16 .done)))))))))))))))))
    | _ => .done

set_option maxRecDepth 100000 in
theorem ok22 : (codeOk Try.f22.ntmps A22 (Try.f22.body.getD .skip) 0 && Nat.ble 2 Try.f22.ntmps) = true := by kernel_rfl
set_option maxRecDepth 100000 in
theorem lift22 {t0 t1 : Value} {w : World} {R : Ending → World → Prop} (h : S22 t0 t1 w R) : Calls Try.prog 22 #[t0, t1] w R :=
  calls_of_cw (fn := Try.f22) (c := Try.f22.body.getD .skip) A22 mixes Try.func22 (by kernel_rfl) ok22
    ((by kernel_rfl : (S22 t0 t1 w R) = cw Try.prog A22 (Try.f22.body.getD .skip) 0 (bodyQ Try.prog Try.f22 R) (frOf #[t0, t1]) w).mp h)

def S3 (t0 t1 t2 t3 : Value) (w : World) (R : Ending → World → Prop) : Prop :=
  ln1 t0 fun t14 =>
  binQ Try.prog w .gtr 3 true t14 (.int .i64 40) fun t15 =>
  gd t15 false (fun k => k t3 w) w fun t17 w =>
  gd t15 false (fun k => callW Try.prog (.func (.func 17) #[] #[]) [t17, (.int .i64 200)] w k) w fun t18 w =>
  gd t15 false (fun k => unQ .not t18 fun v => k v w) w fun t19 w =>
  pickQ t15 (.bool true) t19 fun t20 =>
  condW t20 (
    callW Try.prog (.func (.func 18) #[] #[]) [] w fun t21 w =>
    R (.returned t21) w
  ) (
    callW Try.prog (.func (.func 19) #[] #[]) [t0, t1, t2, t3] w fun t27 w =>
    exQ t27 0 fun t28 =>
    exQ t27 1 fun t29 =>
    callW Try.prog (.func (.func 20) #[] #[]) [t0, t1, t2, t3] w fun t35 w =>
    exQ t35 0 fun t36 =>
    exQ t35 1 fun t37 =>
    binQ Try.prog w .eql 4 false t28 t36 fun t40 =>
    gd t40 true (fun k => k t29 w) w fun t42 w =>
    gd t40 true (fun k => k t37 w) w fun t43 w =>
    gd t40 true (fun k => binQ Try.prog w .eql 26 false t42 t43 fun v => k v w) w fun t44 w =>
    pickQ t40 t44 (.bool false) fun t45 =>
    gd t45 true (fun k => callW Try.prog (.func (.func 18) #[] #[]) [] w k) w fun t47 w =>
    pickQ t45 t47 (.bool false) fun t48 =>
    R (.returned t48) w
  )

def A3 : Ann where
  live := fun _ => []
  wr := fun _ _ => false
  sched := fun _ => .done

set_option maxRecDepth 100000 in
theorem ok3 : (codeOk Try.f3.ntmps A3 (Try.f3.body.getD .skip) 0 && Nat.ble 4 Try.f3.ntmps) = true := by kernel_rfl
set_option maxRecDepth 100000 in
theorem lift3 {t0 t1 t2 t3 : Value} {w : World} {R : Ending → World → Prop} (h : S3 t0 t1 t2 t3 w R) : Calls Try.prog 3 #[t0, t1, t2, t3] w R :=
  calls_of_cw (fn := Try.f3) (c := Try.f3.body.getD .skip) A3 mixes Try.func3 (by kernel_rfl) ok3
    ((by kernel_rfl : (S3 t0 t1 t2 t3 w R) = cw Try.prog A3 (Try.f3.body.getD .skip) 0 (bodyQ Try.prog Try.f3 R) (frOf #[t0, t1, t2, t3]) w).mp h)

def S4 (t0 : Value) (w : World) (R : Ending → World → Prop) : Prop :=
  Join (fun (k_2 : Value → World → Prop) =>
    condW t0 (
      binQ Try.prog w .add 3 true (.int .i64 65535) (.int .i64 1) fun t10 =>
      k_2 t10 w
    ) (
      k_2 (.int .i64 65535) w
    )
  ) fun t3 w =>
  mkW Try.prog 23 t3 t3 w fun t12_2 w =>
  Loop1 (.int .i64 0) w fun _ t5_2 w next_2 =>
    binQ Try.prog w .lss 3 false t5_2 t3 fun t15_2 =>
    condW t15_2 (
      bsW Try.prog 30 2 [(0, (.int .i64 1)), (1, (.int .i64 1))] w fun t20_2 w =>
      iaS 1 t12_2 t5_2 fun t21_2 =>
      stW Try.prog 30 t21_2 t20_2 w fun w =>
      binQ Try.prog w .add 3 true t5_2 (.int .i64 1) fun t17_2 =>
      next_2 t17_2 w
    ) (
      bdQ Try.prog 32 [(2, (.int .i64 1))] fun t23_2 =>
      bsW Try.prog 22 1 [(0, t23_2)] w fun t24_2 w =>
      callW Try.prog (.func (.func 19) #[] #[]) [t24_2, (.int .i64 1), (.int .i64 2), t12_2] w fun t26_2 w =>
      exQ t26_2 0 fun t27_2 =>
      exQ t26_2 1 fun t28_2 =>
      condW t0 (
        unQ .not t27_2 fun t31_2 =>
        gd t31_2 true (fun k => k t28_2 w) w fun t33_2 w =>
        gd t31_2 true (fun k => binQ Try.prog w .eql 26 true t33_2 (.int .i64 3) fun v => k v w) w fun t34_2 w =>
        pickQ t31_2 t34_2 (.bool false) fun t35_2 =>
        gd t35_2 true (fun k => callW Try.prog (.func (.func 18) #[] #[]) [] w k) w fun t37_2 w =>
        pickQ t35_2 t37_2 (.bool false) fun t38_2 =>
        R (.returned t38_2) w
      ) (
        unQ .not t27_2 fun t40_2 =>
        gd t40_2 true (fun k => k t28_2 w) w fun t42_2 w =>
        gd t40_2 true (fun k => binQ Try.prog w .eql 26 true t42_2 (.int .i64 0) fun v => k v w) w fun t43_2 w =>
        pickQ t40_2 t43_2 (.bool false) fun t44_2 =>
        gd t44_2 true (fun k => callW Try.prog (.func (.func 18) #[] #[]) [] w k) w fun t46_2 w =>
        pickQ t44_2 t46_2 (.bool false) fun t47_2 =>
        R (.returned t47_2) w
      )
    )

def A4 : Ann where
  live := fun
    | 0 => [5]
    | _ => []
  wr := fun
    | 0 => fun i => Nat.beq i 5 || (Nat.ble 13 i && Nat.ble i 21)
    | _ => fun _ => false
  sched := fun _ => .done

set_option maxRecDepth 100000 in
theorem ok4 : (codeOk Try.f4.ntmps A4 (Try.f4.body.getD .skip) 0 && Nat.ble 1 Try.f4.ntmps) = true := by kernel_rfl
set_option maxRecDepth 100000 in
theorem lift4 {t0 : Value} {w : World} {R : Ending → World → Prop} (h : S4 t0 w R) : Calls Try.prog 4 #[t0] w R :=
  calls_of_cw (fn := Try.f4) (c := Try.f4.body.getD .skip) A4 mixes Try.func4 (by kernel_rfl) ok4
    ((by kernel_rfl : (S4 t0 w R) = cw Try.prog A4 (Try.f4.body.getD .skip) 0 (bodyQ Try.prog Try.f4 R) (frOf #[t0]) w).mp h)

def S5 (t0 t1 : Value) (w : World) (R : Ending → World → Prop) : Prop :=
  ln1 t0 fun t12 =>
  binQ Try.prog w .gtr 3 true t12 (.int .i64 40) fun t13 =>
  gd t13 false (fun k => k t1 w) w fun t15 w =>
  gd t13 false (fun k => callW Try.prog (.func (.func 17) #[] #[]) [t15, (.int .i64 20)] w k) w fun t16 w =>
  gd t13 false (fun k => unQ .not t16 fun v => k v w) w fun t17 w =>
  pickQ t13 (.bool true) t17 fun t18 =>
  condW t18 (
    callW Try.prog (.func (.func 18) #[] #[]) [] w fun t19 w =>
    R (.returned t19) w
  ) (
    callW Try.prog (.func (.func 21) #[] #[]) [t0, t1] w fun t23 w =>
    exQ t23 0 fun t24 =>
    exQ t23 1 fun t25 =>
    exQ t23 2 fun t26 =>
    callW Try.prog (.func (.func 22) #[] #[]) [t0, t1] w fun t30 w =>
    exQ t30 0 fun t31 =>
    exQ t30 1 fun t32 =>
    exQ t30 2 fun t33 =>
    binQ Try.prog w .eql 4 false t24 t31 fun t36 =>
    gd t36 true (fun k => k t25 w) w fun t38 w =>
    gd t36 true (fun k => k t32 w) w fun t39 w =>
    gd t36 true (fun k => binQ Try.prog w .eql 4 false t38 t39 fun v => k v w) w fun t40 w =>
    pickQ t36 t40 (.bool false) fun t41 =>
    gd t41 true (fun k => k t26 w) w fun t43 w =>
    gd t41 true (fun k => k t33 w) w fun t44 w =>
    gd t41 true (fun k => binQ Try.prog w .eql 26 false t43 t44 fun v => k v w) w fun t45 w =>
    pickQ t41 t45 (.bool false) fun t46 =>
    gd t46 true (fun k => callW Try.prog (.func (.func 18) #[] #[]) [] w k) w fun t48 w =>
    pickQ t46 t48 (.bool false) fun t49 =>
    R (.returned t49) w
  )

def A5 : Ann where
  live := fun _ => []
  wr := fun _ _ => false
  sched := fun _ => .done

set_option maxRecDepth 100000 in
theorem ok5 : (codeOk Try.f5.ntmps A5 (Try.f5.body.getD .skip) 0 && Nat.ble 2 Try.f5.ntmps) = true := by kernel_rfl
set_option maxRecDepth 100000 in
theorem lift5 {t0 t1 : Value} {w : World} {R : Ending → World → Prop} (h : S5 t0 t1 w R) : Calls Try.prog 5 #[t0, t1] w R :=
  calls_of_cw (fn := Try.f5) (c := Try.f5.body.getD .skip) A5 mixes Try.func5 (by kernel_rfl) ok5
    ((by kernel_rfl : (S5 t0 t1 w R) = cw Try.prog A5 (Try.f5.body.getD .skip) 0 (bodyQ Try.prog Try.f5 R) (frOf #[t0, t1]) w).mp h)

theorem fok85 : fnOk Try.prog 85 = true := by kernel_rfl
theorem fok21 : fnOk Try.prog 21 = true := by kernel_rfl
theorem fok22 : fnOk Try.prog 22 = true := by kernel_rfl
theorem fok3 : fnOk Try.prog 3 = true := by kernel_rfl
theorem fok4 : fnOk Try.prog 4 = true := by kernel_rfl
theorem fok5 : fnOk Try.prog 5 = true := by kernel_rfl
end Go.Proofs.Ytgalbokmgffhkaa
