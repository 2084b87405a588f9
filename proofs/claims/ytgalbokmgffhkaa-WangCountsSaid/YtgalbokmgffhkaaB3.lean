/- Contract: Refutes of the program. -/
import Derived.Test.YtgalbokmgffhkaaB2
set_option linter.all false
namespace Go.Proofs.Ytgalbokmgffhkaa
open Go.Lf Go.RowKit Go.Wg

abbrev nilS : Value := .slice none 0 0
def rowB (W H : Nat) (p : List Int) : Bool := decide (p.length = W + 1) && decide (1 ≤ p.getD 0 0) && decide (p.getD 0 0 < H) && (p.drop 1).all colB
def upB (proof : List (List Int)) (i : Nat) : Bool := decide (i = 0) || decide (cmpL (proof.getD (i - 1) []) (proof.getD i []) < 0)
def okP (W H : Nat) (proof : List (List Int)) : Prop := ∀ i, i < proof.length → rowB W H (proof.getD i []) = true ∧ upB proof i = true
def deadF (d : Int → Int) (p : List Int) : Int → Int := if d (code (p.drop 1)) = 0 then upd d (code (p.drop 1)) (p.getD 0 0) else d
def deadL (proof : List (List Int)) : Int → Int := proof.foldl deadF (fun _ => 0)
def finP (L : List Line) (d : Int → Int) : Prop := (∀ x ∈ L, d x.2.2.1 ≠ 0) ∧ ∀ c, d c ≠ 0 → ∀ x ∈ L, x.2.1 = c → d x.2.2.1 < d c
def grpL (L : List Line) (c : Int) : List Int := (L.filter fun x => decide (x.2.1 = c)).map fun x => x.2.2.1

theorem und68 : Try.prog.underlying 68 = some (.map 3 3) := by kernel_rfl
theorem und75 : Try.prog.underlying 75 = some (.map 3 30) := by kernel_rfl
theorem zero3 (w : World) : (zeroValue 3).run Try.prog w = .ok (iK 0) w := by kernel_rfl
theorem zero30 (w : World) : (zeroValue 30).run Try.prog w = .ok nilS w := by kernel_rfl

theorem any_not (l : List Int) : (l.any fun x => !colB x) = !(l.all colB) := by
  induction l with
  | nil => rfl
  | cons x l ih => simp [ih]
theorem all_cols {l : List Int} (h : l.all colB = true) : Cols l := fun x hx => by
  have := List.all_eq_true.1 h x hx
  simpa [colB] using this

/-- A map of lists, each in memory of its own. -/
def GrpAt (base : Nat) (w : World) (b : Nat) (N : Int → List Int) : Prop := ∃ f, MapF w b nilS f ∧ (∀ c, IntsAt base w (f c) (N c)) ∧ ∀ c c', c ≠ c' → ∀ k, (f c).ownBlock = some k → (f c').ownBlock ≠ some k

theorem GrpAt.chg {S : Nat → Prop} {base : Nat} {w w' : World} {b : Nat} {N : Int → List Int} (h : GrpAt base w b N) (hc : Chg S w w') (hb : ¬ S b) (hs : ∀ k, base ≤ k → k < w.heap.size → ¬ S k) : GrpAt base w' b N := by
  obtain ⟨f, h1, h2, h3⟩ := h
  exact ⟨f, h1.chg hc hb, fun c => (h2 c).chg hc fun k hk => hs k ((h2 c).lt hk).1 ((h2 c).lt hk).2, h3⟩
theorem GrpAt.kp {base : Nat} {w w' : World} {b : Nat} {N : Int → List Int} (h : GrpAt base w b N) (hc : Kp w w') : GrpAt base w' b N := by
  obtain ⟨f, h1, h2, h3⟩ := h
  exact ⟨f, h1.kp hc, fun c => (h2 c).kp hc, h3⟩

/-- The test of Refutes on the heights. -/
theorem high_call {d : Int → Int} {k x : Int} {bm b11 b20 : Nat} (w : World) (hm : MapF w bm (iK 0) fun c => iK (d c)) (h11 : w.heap[b11]? = some (.cells #[.map (some bm)] 68 (0, 0))) (h20 : w.heap[b20]? = some (.cells #[.int .i64 k] 3 (0, 0))) (hx : IKey x)
    (w' : World) (hk : Kp w w') (K : Value → World → Prop) (h : ∀ w'', Kp w' w'' → K (.bool (decide (k ≤ d x))) w'') : callW Try.prog (.func (.func 60) #[] #[.pointer (some ⟨b11, 0, none⟩), .pointer (some ⟨b20, 0, none⟩)]) [.int .i64 x] w' K := by
  have hc : Calls Try.prog 60 #[.int .i64 x, .pointer (some ⟨b11, 0, none⟩), .pointer (some ⟨b20, 0, none⟩)] w' fun e w'' => e = .returned (.bool (decide (k ≤ d x))) ∧ w' = w'' := by
    refine lift60 ?_
    unfold S60
    have c1 : w'.cell? ⟨b11, 0, none⟩ = some (.map (some bm)) := by rw [cell_row (block_below h11 hk)]; rfl
    have c2 : w'.cell? ⟨b20, 0, none⟩ = some (.int .i64 k) := by rw [cell_row (block_below h20 hk)]; rfl
    rw [r_ld c1, r_lkF und68 zero3 (hm.kp hk) hx, r_ld c2]
    simp only [r_ln, r_pick, r_pickT, r_pickF, r_condT, r_condF, r_gdTT, r_gdFF, r_gdTF, r_gdFT, r_gqTT, r_gqFF, r_gqTF, r_gqFT, r_not, r_lss, r_leq, r_gtr, r_geq, r_eql, r_neq, r_add, r_sub, r_min2, r_max2, r_min3, r_max3, r_fa, r_iaS, r_iaA, r_ex2a, r_ex2b, r_ex3a, r_ex3b, r_ex3c, r_nc, r_keepE, Nat.zero_add, Nat.add_zero, Nat.mul_one, Int.toNat_natCast, toNat_sub1, toNat_add1, decide_true, decide_false, Bool.not_true, Bool.not_false, if_true, if_false, Bool.false_eq_true, reduceCtorEq]
    exact ⟨by first | rfl | trivial, by first | rfl | trivial⟩
  refine r_use fok60 hc rfl ?_
  rintro _ _ ⟨rfl, rfl⟩
  exact ⟨_, rfl, h w' (Kp.refl _)⟩

set_option maxRecDepth 100000 in
/-- append(v, xs...) where v is one's own, and where the new slice lies. -/
theorem r_apAt {t e ty : TypeId} {size bytes base n m c : Nat} {v : Value} {xs news : List Value} {a : Addr} {w : World} {K : Value → World → Prop} (T : SlT t e size bytes)
    (hown : w.ownsRow base e size v n xs) (hl : news.length = m * size) (hnews : ∀ j u, news[j]? = some u → w.cell? (a.add j) = some u) (h1 : ∀ u ∈ news, u.oneCell' = true)
    (hn : n + m ≤ 1099511627776) (hby : bytes ≤ 128) (hb : base ≤ w.heap.size)
    (hk : ∀ v' w', w'.ownsRow base e size v' (n + m) (xs ++ news) → Chg (fun k => v.ownBlock = some k) w w' → (∀ k, v'.ownBlock = some k → v.ownBlock = some k ∨ w.heap.size ≤ k) → K v' w') : semW Try.prog (apS [t, t] ty [v, .slice (some a) m c]) w K := by
  obtain ⟨i, z, i1, i2, i3, i4, i5⟩ := T.info
  have hb2 : (n + m) * bytes ≤ 140737488355328 := Nat.le_trans (Nat.mul_le_mul hn hby) (by decide)
  obtain ⟨v', w', hr, ho, hg, _, hat⟩ := run_append_own_at (P := Try.prog) (w := w) base t ty e i z size bytes T.und i1 i2 i3 i4 i5 T.pos v n xs hown a m c news hl hnews h1 (by unfold maxLen; omega) hb2 hb
  refine semW_of_run (by simp [apS, hr]) (hk v' w' ho (Chg.of_grown hg fun k hk => hk) fun k hk => ?_)
  rcases hat with h | h
  · exact .inl (h ▸ hk)
  · rw [h] at hk
    cases hk
    exact .inr (by omega)

theorem grp_take {L : List Line} {i : Nat} {x : Line} (hx : L[i]? = some x) (c : Int) : grpL (L.take (i + 1)) c = grpL (L.take i) c ++ if x.2.1 = c then [x.2.2.1] else [] := by
  have : L.take (i + 1) = L.take i ++ [x] := by rw [List.take_add_one, hx]; rfl
  rw [this, grpL, List.filter_append, List.map_append]
  congr 1
  by_cases h : x.2.1 = c <;> simp [h]
theorem grp_len (L : List Line) (c : Int) : (grpL L c).length ≤ L.length := by
  rw [grpL, List.length_map]
  exact List.length_filter_le _ _
theorem mem_grp {L : List Line} {c s : Int} : s ∈ grpL L c ↔ ∃ x ∈ L, x.2.1 = c ∧ x.2.2.1 = s := by
  simp only [grpL, List.mem_map, List.mem_filter, decide_eq_true_eq]
  constructor
  · rintro ⟨x, ⟨h1, h2⟩, h3⟩; exact ⟨x, h1, h2, h3⟩
  · rintro ⟨x, h1, h2, h3⟩; exact ⟨x, ⟨h1, h2⟩, h3⟩

/-- What Refutes returns. -/
def RefPost (l : List Tile) (a b : Int) (proof : List (List Int)) (e : Ending) : Prop :=
  (ordErr l a b ≠ 0 ∧ e = .returned (.tuple #[.bool false, .int .i64 2])) ∨ (ordErr l a b = 0 ∧ 65535 < proof.length ∧ e = .returned (.tuple #[.bool false, .int .i64 3])) ∨
    (ordErr l a b = 0 ∧ proof.length ≤ 65535 ∧ ∃ r, e = .returned (.tuple #[.bool r, .int .i64 0]) ∧ (r = true ↔ okP a.toNat b.toNat proof ∧ finP (linesL l a.toNat) (deadL proof)))

set_option maxRecDepth 100000 in
set_option maxHeartbeats 800000 in
theorem refutes_calls {v pv : Value} {l : List Tile} {proof : List (List Int)} (a b : Int) (w : World) (hr : RdT w v l) (hp : RdRows w pv proof) :
    Calls Try.prog 19 #[v, .int .i64 a, .int .i64 b, pv] w fun e w' => Kp w w' ∧ RefPost l a b proof e := by
  obtain ⟨pa, pcap, rfl, hpl⟩ := hp.len
  refine lift19 ?_
  unfold S19
  refine r_use fok53 (board_calls a b w hr) rfl ?_
  rintro _ w1 ⟨rfl, k1⟩
  refine ⟨_, rfl, ?_⟩
  have h20 : ¬ ((2 : Int) = 0) := by decide
  rcases ordErr_cases l a b with he | he
  rotate_left
  · simp (disch := omega) only [r_ln, r_pick, r_pickT, r_pickF, r_condT, r_condF, r_gdTT, r_gdFF, r_gdTF, r_gdFT, r_gqTT, r_gqFF, r_gqTF, r_gqFT, r_not, r_lss, r_leq, r_gtr, r_geq, r_eql, r_neq, r_add, r_sub, r_min2, r_max2, r_min3, r_max3, r_fa, r_iaS, r_iaA, r_ex2a, r_ex2b, r_ex3a, r_ex3b, r_ex3c, r_nc, r_keepE, Nat.zero_add, Nat.add_zero, Nat.mul_one, Int.toNat_natCast, toNat_sub1, toNat_add1, decide_true, decide_false, Bool.not_true, Bool.not_false, if_true, if_false, Bool.false_eq_true, reduceCtorEq, he, h20]
    exact ⟨k1, .inl ⟨by rw [he]; decide, rfl⟩⟩
  obtain ⟨hs, W, H, rfl, rfl, hW, hH⟩ := ord_ok he
  by_cases hlen : (65535 : Int) < (proof.length : Int)
  · simp (disch := omega) only [r_ln, r_pick, r_pickT, r_pickF, r_condT, r_condF, r_gdTT, r_gdFF, r_gdTF, r_gdFT, r_gqTT, r_gqFF, r_gqTF, r_gqFT, r_not, r_lss, r_leq, r_gtr, r_geq, r_eql, r_neq, r_add, r_sub, r_min2, r_max2, r_min3, r_max3, r_fa, r_iaS, r_iaA, r_ex2a, r_ex2b, r_ex3a, r_ex3b, r_ex3c, r_nc, r_keepE, Nat.zero_add, Nat.add_zero, Nat.mul_one, Int.toNat_natCast, toNat_sub1, toNat_add1, decide_true, decide_false, Bool.not_true, Bool.not_false, if_true, if_false, Bool.false_eq_true, reduceCtorEq, he, decide_eq_true (rfl : (0 : Int) = 0), decide_eq_true hlen]
    exact ⟨k1, .inr (.inl ⟨he, by omega, rfl⟩)⟩
  simp (disch := omega) only [r_ln, r_pick, r_pickT, r_pickF, r_condT, r_condF, r_gdTT, r_gdFF, r_gdTF, r_gdFT, r_gqTT, r_gqFF, r_gqTF, r_gqFT, r_not, r_lss, r_leq, r_gtr, r_geq, r_eql, r_neq, r_add, r_sub, r_min2, r_max2, r_min3, r_max3, r_fa, r_iaS, r_iaA, r_ex2a, r_ex2b, r_ex3a, r_ex3b, r_ex3c, r_nc, r_keepE, Nat.zero_add, Nat.add_zero, Nat.mul_one, Int.toNat_natCast, toNat_sub1, toNat_add1, decide_true, decide_false, Bool.not_true, Bool.not_false, if_true, if_false, Bool.false_eq_true, reduceCtorEq, he, decide_eq_true (rfl : (0 : Int) = 0), hlen, mmW]
  have m2 := map_new w1 (iK 0)
  have k2 : Kp w1 (w1.alloc (.map #[] 0)) := below_alloc _
  have sz2 : (w1.alloc (.map #[] 0)).heap.size = w1.heap.size + 1 := by show (w1.heap.push _).size = _; simp
  generalize hbm : w1.heap.size = bm at *
  generalize w1.alloc (.map #[] 0) = w2 at *
  refine r_box fun b11 w3 e3 s3 h3 k3 => ?_
  refine r_stAll (n := 1) (ty := 68) (cs := #[.map none]) (by kernel_rfl) rfl (by intro u hu; simp [Value.cells] at hu; subst hu; rfl) h3 rfl fun w4 c4 s4 h4 => ?_
  have sk1 := k1.size
  have m4 : MapF w4 bm (iK 0) (fun c => iK (deadL [] c)) := (m2.kp k3).chg c4 (by omega)
  have k04 : Kp w w4 := Kp.of_chg (Kp.trans k1 (Kp.trans k2 k3)) c4 fun i e => by have := (Kp.trans k1 k2).size; omega
  try simp only [Int.toNat_natCast]
  have hbmw : w.heap.size ≤ bm := by omega
  refine ⟨fun t34 wr => ∃ i : Nat, i ≤ proof.length ∧ t34 = .int .i64 i ∧ (∀ k, k < i → rowB W H (proof.getD k []) = true ∧ upB proof k = true) ∧ MapF wr bm (iK 0) (fun c => iK (deadL (proof.take i) c)) ∧ wr.heap[b11]? = some (.cells #[.map (some bm)] 68 (0, 0)) ∧ Kp w wr ∧ Kp w1 wr,
    fun t34 _ => proof.length - (intOf t34).toNat, ⟨0, by omega, rfl, fun k hk => absurd hk (by omega), m4, h4, k04, Kp.of_chg (Kp.trans k2 k3) c4 fun i e => by omega⟩, ?_⟩
  rintro _ _ wr ⟨i, hi, rfl, hok, hmr, h11, kr, kr1⟩
  by_cases hlt : i < proof.length
  case neg =>
    have hlt' : ¬ (i : Int) < (proof.length : Int) := by omega
    rw [List.take_of_length_le (by omega)] at hmr
    have hokP : okP W H proof := fun k hk => hok k (by omega)
    have outF : ¬ finP (linesL l W) (deadL proof) → RefPost l W H proof (.returned (.tuple #[.bool false, .int .i64 0])) := fun hb => by
      refine .inr (.inr ⟨he, by omega, false, rfl, ?_⟩)
      constructor
      · intro h; cases h
      · intro h; exact absurd h.2 hb
    have outT : finP (linesL l W) (deadL proof) → RefPost l W H proof (.returned (.tuple #[.bool true, .int .i64 0])) := fun hb =>
      .inr (.inr ⟨he, by omega, true, rfl, fun _ => ⟨hokP, hb⟩, fun _ => rfl⟩)
    simp (disch := omega) only [r_ln, r_pick, r_pickT, r_pickF, r_condT, r_condF, r_gdTT, r_gdFF, r_gdTF, r_gdFT, r_gqTT, r_gqFF, r_gqTF, r_gqFT, r_not, r_lss, r_leq, r_gtr, r_geq, r_eql, r_neq, r_add, r_sub, r_min2, r_max2, r_min3, r_max3, r_fa, r_iaS, r_iaA, r_ex2a, r_ex2b, r_ex3a, r_ex3b, r_ex3c, r_nc, r_keepE, Nat.zero_add, Nat.add_zero, Nat.mul_one, Int.toNat_natCast, toNat_sub1, toNat_add1, decide_true, decide_false, Bool.not_true, Bool.not_false, if_true, if_false, Bool.false_eq_true, reduceCtorEq, hlt']
    refine r_use fok59 (rows_calls hs hW wr (hr.kp kr)) rfl ?_
    rintro _ w5 ⟨lv, rfl, k5, hL⟩
    refine ⟨_, rfl, ?_⟩
    change LnAt _ _ _ (linesL l W) at hL
    have hlo := lines_ok hs hW.2
    have hll := lines_len hs hW.2
    have h8 := pow8N_le hW.2
    try simp only [mmW]
    have mg := map_new w5 nilS
    have kg : Kp w5 (w5.alloc (.map #[] 0)) := below_alloc _
    have sg : (w5.alloc (.map #[] 0)).heap.size = w5.heap.size + 1 := by show (w5.heap.push _).size = _; simp
    generalize hbn : w5.heap.size = bn at *
    generalize w5.alloc (.map #[] 0) = w6 at *
    obtain ⟨la, lcap, rfl, hlc⟩ := hL.len
    have hkp5 : Kp w w5 := Kp.trans kr k5
    have m5 := hmr.kp k5
    have h115 := block_below h11 k5
    have hrdL := hL.rd lnC_len
    generalize linesL l W = L at *
    generalize deadL proof = D at *
    have ikey : ∀ x ∈ L, IKey x.2.1 ∧ IKey x.2.2.1 := fun x hx => by
      obtain ⟨⟨x1, x2⟩, x3, x4⟩ := hlo x hx
      have e8 : ((8 ^ W : Nat) : Int) ≤ 4096 := by exact_mod_cast h8
      exact ⟨⟨by omega, by omega⟩, by omega, by omega⟩
    try simp only [r_ln, r_pick, r_pickT, r_pickF, r_condT, r_condF, r_gdTT, r_gdFF, r_gdTF, r_gdFT, r_gqTT, r_gqFF, r_gqTF, r_gqFT, r_not, r_lss, r_leq, r_gtr, r_geq, r_eql, r_neq, r_add, r_sub, r_min2, r_max2, r_min3, r_max3, r_fa, r_iaS, r_iaA, r_ex2a, r_ex2b, r_ex3a, r_ex3b, r_ex3c, r_nc, r_keepE, Nat.zero_add, Nat.add_zero, Nat.mul_one, Int.toNat_natCast, toNat_sub1, toNat_add1, decide_true, decide_false, Bool.not_true, Bool.not_false, if_true, if_false, Bool.false_eq_true, reduceCtorEq]
    refine ⟨fun t95 wq => ∃ q : Nat, q ≤ L.length ∧ t95 = .int .i64 q ∧ (∀ x ∈ L.take q, D x.2.2.1 ≠ 0) ∧ GrpAt w6.heap.size wq bn (grpL (L.take q)) ∧ Kp w5 wq ∧ w6.heap.size ≤ wq.heap.size, fun t95 _ => L.length - (intOf t95).toNat,
      ⟨0, by omega, rfl, by simp, ⟨_, mg, fun c => by simp only [grpL, List.take_zero, List.filter_nil, List.map_nil]; exact RecAt.nil, fun c c' _ k h => by cases h⟩, kg, Nat.le_refl _⟩, ?_⟩
    rintro _ _ wq ⟨q, hq, rfl, hdq, hgq, kq, sq⟩
    have mq := m5.kp kq
    have h11q := block_below h115 kq
    have bm5 := m5.lt
    have b115 := block_lt h115
    have kwq := Kp.trans hkp5 kq
    by_cases hql : q < L.length
    case neg =>
      have hql' : ¬ (q : Int) < (L.length : Int) := by omega
      rw [List.take_of_length_le (by omega)] at hdq hgq
      have c11 : wq.cell? ⟨b11, 0, none⟩ = some (.map (some bm)) := by rw [cell_row h11q]; rfl
      simp (disch := omega) only [r_ln, r_pick, r_pickT, r_pickF, r_condT, r_condF, r_gdTT, r_gdFF, r_gdTF, r_gdFT, r_gqTT, r_gqFF, r_gqTF, r_gqFT, r_not, r_lss, r_leq, r_gtr, r_geq, r_eql, r_neq, r_add, r_sub, r_min2, r_max2, r_min3, r_max3, r_fa, r_iaS, r_iaA, r_ex2a, r_ex2b, r_ex3a, r_ex3b, r_ex3c, r_nc, r_keepE, Nat.zero_add, Nat.add_zero, Nat.mul_one, Int.toNat_natCast, toNat_sub1, toNat_add1, decide_true, decide_false, Bool.not_true, Bool.not_false, if_true, if_false, Bool.false_eq_true, reduceCtorEq, hql', r_ld c11]
      refine r_rgF und68 mq fun z1 left0 hit kz1 => ?_
      obtain ⟨f, hf1, hf2, hf3⟩ := hgq
      have sz1 := kz1.size
      have hwq := kwq.size
      have hbnq := hf1.lt
      refine ⟨fun wz => ∃ (left : Nat) (seen : Int → Prop), IterF wz bm wq.heap.size (iK 0) (fun c => iK (D c)) left seen ∧ (∀ c, seen c → ∀ x ∈ L, x.2.1 = c → D x.2.2.1 < D c) ∧ Chg (fun k => k = wq.heap.size) z1 wz, fun wz => leftW wz bm wq.heap.size, ⟨left0, _, hit, fun c h => h.elim, Chg.refl _ _⟩, ?_⟩
      rintro _ wz ⟨left, seen, hitz, hsz, cz⟩
      have kwz : Kp w wz := Kp.of_chg (Kp.trans kwq kz1) cz fun k e => by omega
      have hlw := hitz.left
      have bmq := mq.lt
      have b11q := block_lt h11q
      refine r_nxF hitz (fun hall => ?_) fun c w' left' hik hcz hll' hit' hch hss hen => ?_
      · rw [r_exQ _ 0 (.bool false) rfl, r_condF]
        exact ⟨kwz, outT ⟨hdq, fun c hc x hx hxc => hsz c (hall c fun e => hc (iK_inj e)) x hx hxc⟩⟩
      have hDc : D c ≠ 0 := fun e => hcz (by rw [e])
      simp only [r_ln, r_pick, r_pickT, r_pickF, r_condT, r_condF, r_gdTT, r_gdFF, r_gdTF, r_gdFT, r_gqTT, r_gqFF, r_gqTF, r_gqFT, r_not, r_lss, r_leq, r_gtr, r_geq, r_eql, r_neq, r_add, r_sub, r_min2, r_max2, r_min3, r_max3, r_fa, r_iaS, r_iaA, r_ex2a, r_ex2b, r_ex3a, r_ex3b, r_ex3c, r_nc, r_keepE, Nat.zero_add, Nat.add_zero, Nat.mul_one, Int.toNat_natCast, toNat_sub1, toNat_add1, decide_true, decide_false, Bool.not_true, Bool.not_false, if_true, if_false, Bool.false_eq_true, reduceCtorEq]
      rw [hen]
      simp only [r_ln, r_pick, r_pickT, r_pickF, r_condT, r_condF, r_gdTT, r_gdFF, r_gdTF, r_gdFT, r_gqTT, r_gqFF, r_gqTF, r_gqFT, r_not, r_lss, r_leq, r_gtr, r_geq, r_eql, r_neq, r_add, r_sub, r_min2, r_max2, r_min3, r_max3, r_fa, r_iaS, r_iaA, r_ex2a, r_ex2b, r_ex3a, r_ex3b, r_ex3c, r_nc, r_keepE, Nat.zero_add, Nat.add_zero, Nat.mul_one, Int.toNat_natCast, toNat_sub1, toNat_add1, decide_true, decide_false, Bool.not_true, Bool.not_false, if_true, if_false, Bool.false_eq_true, reduceCtorEq]
      have cz' : Chg (fun k => k = wq.heap.size) z1 w' := cz.trans hch
      refine r_box fun b20 u1 e20 s20 h20 v1 => ?_
      refine r_stAll (n := 1) (ty := 3) (cs := #[.int .i64 0]) (by kernel_rfl) rfl (by intro u hu; simp [Value.cells] at hu; subst hu; rfl) h20 rfl fun u2 d2 s2' h202 => ?_
      have v2 : Kp w' u2 := Kp.of_chg v1 d2 fun i e => by omega
      have kw' : Kp w w' := Kp.of_chg (Kp.trans kwq kz1) cz' fun k e => by omega
      have hfu : MapF u2 bn nilS f := ((hf1.kp kz1).chg cz' (by omega)).kp v2
      have hiu : IntsAt w6.heap.size u2 (f c) (grpL L c) := (((hf2 c).kp kz1).chg cz' fun k hk e => by have := ((hf2 c).lt hk).2; omega).kp v2
      have hdu : MapF u2 bm (iK 0) (fun c => iK (D c)) := ((mq.kp kz1).chg cz' (by omega)).kp v2
      have h11u : u2.heap[b11]? = some (.cells #[.map (some bm)] 68 (0, 0)) := block_below (cz'.at (block_below h11q kz1) (by omega)) v2
      rw [r_lkF und75 zero30 hfu hik]
      have hgl := grp_len L c
      refine r_use fok54 (containsF_calls (fun s => decide (D c ≤ D s)) u2 ((hiu.rd iC_len).ints (by omega)) fun s hs u3 K v3 hK => ?_) rfl ?_
      · obtain ⟨x, hx, _, rfl⟩ := mem_grp.1 hs
        exact high_call u2 hdu h11u h202 (ikey x hx).2 u3 v3 K hK
      rintro _ u4 ⟨rfl, v4⟩
      refine ⟨_, rfl, ?_⟩
      have v24 := Kp.trans v2 v4
      cases hany : (grpL L c).any fun s => decide (D c ≤ D s) with
      | true =>
        simp only [r_ln, r_pick, r_pickT, r_pickF, r_condT, r_condF, r_gdTT, r_gdFF, r_gdTF, r_gdFT, r_gqTT, r_gqFF, r_gqTF, r_gqFT, r_not, r_lss, r_leq, r_gtr, r_geq, r_eql, r_neq, r_add, r_sub, r_min2, r_max2, r_min3, r_max3, r_fa, r_iaS, r_iaA, r_ex2a, r_ex2b, r_ex3a, r_ex3b, r_ex3c, r_nc, r_keepE, Nat.zero_add, Nat.add_zero, Nat.mul_one, Int.toNat_natCast, toNat_sub1, toNat_add1, decide_true, decide_false, Bool.not_true, Bool.not_false, if_true, if_false, Bool.false_eq_true, reduceCtorEq]
        refine ⟨Kp.trans kw' v24, outF fun h => ?_⟩
        obtain ⟨s, hs, hle⟩ := List.any_eq_true.1 hany
        obtain ⟨x, hx, hxc, rfl⟩ := mem_grp.1 hs
        have := h.2 c hDc x hx hxc
        simp only [decide_eq_true_eq] at hle
        omega
      | false =>
        simp only [r_ln, r_pick, r_pickT, r_pickF, r_condT, r_condF, r_gdTT, r_gdFF, r_gdTF, r_gdFT, r_gqTT, r_gqFF, r_gqTF, r_gqFT, r_not, r_lss, r_leq, r_gtr, r_geq, r_eql, r_neq, r_add, r_sub, r_min2, r_max2, r_min3, r_max3, r_fa, r_iaS, r_iaA, r_ex2a, r_ex2b, r_ex3a, r_ex3b, r_ex3c, r_nc, r_keepE, Nat.zero_add, Nat.add_zero, Nat.mul_one, Int.toNat_natCast, toNat_sub1, toNat_add1, decide_true, decide_false, Bool.not_true, Bool.not_false, if_true, if_false, Bool.false_eq_true, reduceCtorEq]
        have hit2 : IterF u4 bm wq.heap.size (iK 0) (fun c => iK (D c)) left' (fun x => seen x ∨ x = c) := hit'.chg (Chg.of_kp (S := fun _ => False) v24) id id
        refine ⟨⟨left', _, hit2, fun c' hc' x hx hxc => ?_, cz'.trans (Chg.of_kp v24)⟩, by rw [hit2.left, hlw]; exact hll'⟩
        rcases hc' with h | rfl
        · exact hsz c' h x hx hxc
        · refine Int.lt_of_not_ge fun hge => ?_
          have := List.any_eq_false.1 hany _ (mem_grp.2 ⟨x, hx, hxc, rfl⟩)
          simp only [decide_eq_true_eq] at this
          exact this hge
    have hql' : (q : Int) < (L.length : Int) := by omega
    obtain ⟨x, hx⟩ : ∃ x, L[q]? = some x := ⟨_, List.getElem?_eq_getElem hql⟩
    have hxm := List.mem_of_getElem? hx
    obtain ⟨lb, lo, lc, el, _, hld⟩ := RdL.line (hrdL.kp kq) hx
    cases el
    simp (disch := omega) only [r_ln, r_pick, r_pickT, r_pickF, r_condT, r_condF, r_gdTT, r_gdFF, r_gdTF, r_gdFT, r_gqTT, r_gqFF, r_gqTF, r_gqFT, r_not, r_lss, r_leq, r_gtr, r_geq, r_eql, r_neq, r_add, r_sub, r_min2, r_max2, r_min3, r_max3, r_fa, r_iaS, r_iaA, r_ex2a, r_ex2b, r_ex3a, r_ex3b, r_ex3c, r_nc, r_keepE, Nat.zero_add, Nat.add_zero, Nat.mul_one, Int.toNat_natCast, toNat_sub1, toNat_add1, decide_true, decide_false, Bool.not_true, Bool.not_false, if_true, if_false, Bool.false_eq_true, reduceCtorEq, decide_eq_true hql', hld]
    refine r_box fun b18 x2 e18 s18 h18 y2 => ?_
    refine r_stAll (n := 7) (ty := 78) (by kernel_rfl) rfl (by intro u hu; simp [Value.cells] at hu; rcases hu with rfl | rfl | rfl | rfl | rfl | rfl | rfl <;> rfl) h18 rfl fun x3 c18 s18' h183 => ?_
    have y3 : Kp wq x3 := Kp.of_chg y2 c18 fun i e => by omega
    have c11 : x3.cell? ⟨b11, 0, none⟩ = some (.map (some bm)) := by rw [cell_row (block_below h11q y3)]; rfl
    have c5 : x3.cell? ⟨b18, 5, none⟩ = some (.int .i64 x.2.2.1) := by rw [cell_row h183]; rfl
    obtain ⟨ik1, ik2⟩ := ikey x hxm
    rw [r_ld c11]
    simp only [r_ln, r_pick, r_pickT, r_pickF, r_condT, r_condF, r_gdTT, r_gdFF, r_gdTF, r_gdFT, r_gqTT, r_gqFF, r_gqTF, r_gqFT, r_not, r_lss, r_leq, r_gtr, r_geq, r_eql, r_neq, r_add, r_sub, r_min2, r_max2, r_min3, r_max3, r_fa, r_iaS, r_iaA, r_ex2a, r_ex2b, r_ex3a, r_ex3b, r_ex3c, r_nc, r_keepE, Nat.zero_add, Nat.add_zero, Nat.mul_one, Int.toNat_natCast, toNat_sub1, toNat_add1, decide_true, decide_false, Bool.not_true, Bool.not_false, if_true, if_false, Bool.false_eq_true, reduceCtorEq]
    rw [r_ld c5, r_lkF und68 zero3 (mq.kp y3) ik2, r_eql]
    by_cases hd0 : D x.2.2.1 = 0
    · simp (disch := omega) only [r_ln, r_pick, r_pickT, r_pickF, r_condT, r_condF, r_gdTT, r_gdFF, r_gdTF, r_gdFT, r_gqTT, r_gqFF, r_gqTF, r_gqFT, r_not, r_lss, r_leq, r_gtr, r_geq, r_eql, r_neq, r_add, r_sub, r_min2, r_max2, r_min3, r_max3, r_fa, r_iaS, r_iaA, r_ex2a, r_ex2b, r_ex3a, r_ex3b, r_ex3c, r_nc, r_keepE, Nat.zero_add, Nat.add_zero, Nat.mul_one, Int.toNat_natCast, toNat_sub1, toNat_add1, decide_true, decide_false, Bool.not_true, Bool.not_false, if_true, if_false, Bool.false_eq_true, reduceCtorEq, decide_eq_true hd0]
      exact ⟨Kp.trans kwq y3, outF fun h => h.1 x hxm hd0⟩
    simp (disch := omega) only [r_ln, r_pick, r_pickT, r_pickF, r_condT, r_condF, r_gdTT, r_gdFF, r_gdTF, r_gdFT, r_gqTT, r_gqFF, r_gqTF, r_gqFT, r_not, r_lss, r_leq, r_gtr, r_geq, r_eql, r_neq, r_add, r_sub, r_min2, r_max2, r_min3, r_max3, r_fa, r_iaS, r_iaA, r_ex2a, r_ex2b, r_ex3a, r_ex3b, r_ex3c, r_nc, r_keepE, Nat.zero_add, Nat.add_zero, Nat.mul_one, Int.toNat_natCast, toNat_sub1, toNat_add1, decide_true, decide_false, Bool.not_true, Bool.not_false, if_true, if_false, Bool.false_eq_true, reduceCtorEq, hd0]
    refine r_drew fun x4 y4 _ => ?_
    have y04 := Kp.trans y3 y4
    have h184 := block_below h183 y4
    have c4' : x4.cell? ⟨b18, 4, none⟩ = some (.int .i64 x.2.1) := by rw [cell_row h184]; rfl
    have c5' : x4.cell? ⟨b18, 5, none⟩ = some (.int .i64 x.2.2.1) := by rw [cell_row h184]; rfl
    obtain ⟨f, hf1, hf2, hf3⟩ := hgq.kp y04
    have hfc := hf2 x.2.1
    have sy := y04.size
    have sx3 := y3.size
    have fb : ∀ c k, (f c).ownBlock = some k → w6.heap.size ≤ k ∧ k ≠ b18 := fun c k hk => by
      refine ⟨((hf2 c).lt hk).1, fun e => ?_⟩
      obtain ⟨f0, _, g2, _⟩ := hgq
      subst e
      rcases (hf2 c).2 with ⟨h, _⟩ | ⟨g, cap, cur, h, _, hg, _⟩
      · rw [h] at hk; cases hk
      · rw [h] at hk
        cases hk
        rw [h184] at hg
        injection hg with hg
        injection hg with _ h3 _
        exact absurd h3 (by decide)
    have nb18 : ¬ (fun k => (f x.2.1).ownBlock = some k) b18 := fun h => (fb _ _ h).2 rfl
    have nbn : ¬ (fun k => (f x.2.1).ownBlock = some k) bn := fun h => by have := (fb _ _ h).1; omega
    refine ⟨fun k => (f x.2.1).ownBlock = some k, ?_⟩
    simp only [r_ln, r_pick, r_pickT, r_pickF, r_condT, r_condF, r_gdTT, r_gdFF, r_gdTF, r_gdFT, r_gqTT, r_gqFF, r_gqTF, r_gqFT, r_not, r_lss, r_leq, r_gtr, r_geq, r_eql, r_neq, r_add, r_sub, r_min2, r_max2, r_min3, r_max3, r_fa, r_iaS, r_iaA, r_ex2a, r_ex2b, r_ex3a, r_ex3b, r_ex3c, r_nc, r_keepE, Nat.zero_add, Nat.add_zero, Nat.mul_one, Int.toNat_natCast, toNat_sub1, toNat_add1, decide_true, decide_false, Bool.not_true, Bool.not_false, if_true, if_false, Bool.false_eq_true, reduceCtorEq, r_tx, r_txl (X := fun k => (f x.2.1).ownBlock = some k) c4' nb18]
    refine r_txG und75 zero30 hf1 ik1 nbn ?_
    simp only [r_ln, r_pick, r_pickT, r_pickF, r_condT, r_condF, r_gdTT, r_gdFF, r_gdTF, r_gdFT, r_gqTT, r_gqFF, r_gqTF, r_gqFT, r_not, r_lss, r_leq, r_gtr, r_geq, r_eql, r_neq, r_add, r_sub, r_min2, r_max2, r_min3, r_max3, r_fa, r_iaS, r_iaA, r_ex2a, r_ex2b, r_ex3a, r_ex3b, r_ex3c, r_nc, r_keepE, Nat.zero_add, Nat.add_zero, Nat.mul_one, Int.toNat_natCast, toNat_sub1, toNat_add1, decide_true, decide_false, Bool.not_true, Bool.not_false, if_true, if_false, Bool.false_eq_true, reduceCtorEq, r_tx, r_txl (X := fun k => (f x.2.1).ownBlock = some k) c5' nb18]
    rw [bs30]
    refine ⟨BX.of_below (below_alloc _), ?_⟩
    have y5 : Kp x4 (x4.alloc (.cells #[.int .i64 x.2.2.1] 3)) := below_alloc _
    have n5 := heap_alloc_new x4 (.cells #[.int .i64 x.2.2.1] 3)
    generalize x4.alloc (.cells #[.int .i64 x.2.2.1] 3) = x5 at *
    have sx5 := y5.size
    have hglen := grp_len (L.take q) x.2.1
    rw [List.length_take] at hglen
    dsimp only
    refine r_apAt (news := [.int .i64 x.2.2.1]) slt30 (owns_kp hfc y5) rfl (cells_at_row n5) (by intro u hu; simp at hu; subst hu; rfl) (by omega) (by omega) (by omega) fun v' x6 ho6 c6 hv6 => ?_
    refine ⟨BX.of_chg c6, ?_⟩
    have hm6 : MapF x6 bn nilS f := (hf1.kp y5).chg c6 nbn
    have hv6n : v' ≠ nilS := fun e => by
      rcases ho6.2 with ⟨_, h⟩ | ⟨g, cap, cur, h, _⟩
      · omega
      · rw [e] at h; cases h
    refine r_muF und75 zero30 hm6 ik1 hv6n fun x7 hm7 c7 s7 => ?_
    have s6 := c6.size
    have fne : ∀ c k, c ≠ x.2.1 → (f c).ownBlock = some k → (f x.2.1).ownBlock ≠ some k := fun c k hc hk h => hf3 c x.2.1 hc k hk h
    try simp (disch := omega) only [r_ln, r_pick, r_pickT, r_pickF, r_condT, r_condF, r_gdTT, r_gdFF, r_gdTF, r_gdFT, r_gqTT, r_gqFF, r_gqTF, r_gqFT, r_not, r_lss, r_leq, r_gtr, r_geq, r_eql, r_neq, r_add, r_sub, r_min2, r_max2, r_min3, r_max3, r_fa, r_iaS, r_iaA, r_ex2a, r_ex2b, r_ex3a, r_ex3b, r_ex3c, r_nc, r_keepE, Nat.zero_add, Nat.add_zero, Nat.mul_one, Int.toNat_natCast, toNat_sub1, toNat_add1, decide_true, decide_false, Bool.not_true, Bool.not_false, if_true, if_false, Bool.false_eq_true, reduceCtorEq]
    refine ⟨⟨q + 1, by omega, by go_num, fun y hy => ?_, ⟨_, hm7, fun c => ?_, fun c c' hcc k hk hk' => ?_⟩, ?_, ?_⟩, by simp only [intOf]; omega⟩
    · rw [List.take_add_one, hx] at hy
      rcases List.mem_append.1 hy with hy | hy
      · exact hdq y hy
      · simp at hy; rw [hy]; exact hd0
    · rw [grp_take hx]
      by_cases hc : c = x.2.1
      · subst hc
        rw [upd_same, if_pos rfl]
        have : IntsAt w6.heap.size x6 v' (grpL (L.take q) x.2.1 ++ [x.2.2.1]) := by
          unfold IntsAt RecAt
          rw [recCells_append, List.length_append]
          exact ho6
        refine this.chg c7 fun k hk e => ?_
        rcases hv6 k hk with h | h
        · have := (fb _ _ h).1; omega
        · omega
      · rw [upd_ne hc, if_neg (fun e => hc e.symm), List.append_nil]
        refine (((hf2 c).kp y5).chg c6 fun k hk e => fne c k hc hk e).chg c7 fun k hk e => ?_
        have := (fb _ _ hk).1; omega
    · by_cases hc : c = x.2.1
      · subst hc
        have hc' : c' ≠ x.2.1 := fun e => hcc e.symm
        rw [upd_same] at hk
        rw [upd_ne hc'] at hk'
        rcases hv6 k hk with h | h
        · exact fne c' k hc' hk' h
        · have := ((hf2 c').lt hk').2; omega
      · rw [upd_ne hc] at hk
        by_cases hc' : c' = x.2.1
        · subst hc'
          rw [upd_same] at hk'
          rcases hv6 k hk' with h | h
          · exact fne c k hc hk h
          · have := ((hf2 c).lt hk).2; omega
        · rw [upd_ne hc'] at hk'
          exact hf3 c c' hcc k hk hk'
    · have kq5 : Kp w5 x5 := Kp.trans kq (Kp.trans y04 y5)
      refine Kp.of_chg (Kp.of_chg kq5 c6 fun k e => ?_) c7 fun k e => by omega
      have := (fb _ _ e).1; omega
    · omega
  have hlt' : (i : Int) < (proof.length : Int) := by omega
  obtain ⟨pb, po, _, rv, ep, hcell, hrow⟩ := (hp.below kr).row hlt
  cases ep
  obtain ⟨ra, rc, rfl, hrl⟩ := hrow.len
  have out : ¬ (rowB W H (proof.getD i []) = true ∧ upB proof i = true) → RefPost l W H proof (.returned (.tuple #[.bool false, .int .i64 0])) := fun hb => by
    refine .inr (.inr ⟨he, by omega, false, rfl, ?_⟩)
    constructor
    · intro h; cases h
    · intro h; exact absurd (h.1 i hlt) hb
  generalize hpe : proof.getD i [] = p at *
  by_cases hpl2 : (p.length : Int) = (W : Int) + 1
  case neg =>
    simp (disch := omega) only [r_ln, r_pick, r_pickT, r_pickF, r_condT, r_condF, r_gdTT, r_gdFF, r_gdTF, r_gdFT, r_gqTT, r_gqFF, r_gqTF, r_gqFT, r_not, r_lss, r_leq, r_gtr, r_geq, r_eql, r_neq, r_add, r_sub, r_min2, r_max2, r_min3, r_max3, r_fa, r_iaS, r_iaA, r_ex2a, r_ex2b, r_ex3a, r_ex3b, r_ex3c, r_nc, r_keepE, Nat.zero_add, Nat.add_zero, Nat.mul_one, Int.toNat_natCast, toNat_sub1, toNat_add1, decide_true, decide_false, Bool.not_true, Bool.not_false, if_true, if_false, Bool.false_eq_true, reduceCtorEq, decide_eq_true hlt', r_ld hcell, hpl2]
    exact ⟨kr, out fun h => hpl2 (by have := h.1; simp only [rowB, Bool.and_eq_true, decide_eq_true_eq] at this; omega)⟩
  obtain ⟨rb, ro, _, er, hx0⟩ := hrow.at (j := 0) (by omega)
  cases er
  have i0 : (0 : Int).toNat = 0 := rfl
  rw [Nat.add_zero] at hx0
  by_cases hp1 : p.getD 0 0 < 1
  · simp (disch := omega) only [r_ln, r_pick, r_pickT, r_pickF, r_condT, r_condF, r_gdTT, r_gdFF, r_gdTF, r_gdFT, r_gqTT, r_gqFF, r_gqTF, r_gqFT, r_not, r_lss, r_leq, r_gtr, r_geq, r_eql, r_neq, r_add, r_sub, r_min2, r_max2, r_min3, r_max3, r_fa, r_iaS, r_iaA, r_ex2a, r_ex2b, r_ex3a, r_ex3b, r_ex3c, r_nc, r_keepE, Nat.zero_add, Nat.add_zero, Nat.mul_one, Int.toNat_natCast, toNat_sub1, toNat_add1, decide_true, decide_false, Bool.not_true, Bool.not_false, if_true, if_false, Bool.false_eq_true, reduceCtorEq, decide_eq_true hlt', r_ld hcell, decide_eq_true hpl2, i0, Nat.zero_mul, r_ld hx0, decide_eq_true hp1]
    exact ⟨kr, out fun h => by have := h.1; simp only [rowB, Bool.and_eq_true, decide_eq_true_eq] at this; omega⟩
  by_cases hp2 : (H : Int) ≤ p.getD 0 0
  · simp (disch := omega) only [r_ln, r_pick, r_pickT, r_pickF, r_condT, r_condF, r_gdTT, r_gdFF, r_gdTF, r_gdFT, r_gqTT, r_gqFF, r_gqTF, r_gqFT, r_not, r_lss, r_leq, r_gtr, r_geq, r_eql, r_neq, r_add, r_sub, r_min2, r_max2, r_min3, r_max3, r_fa, r_iaS, r_iaA, r_ex2a, r_ex2b, r_ex3a, r_ex3b, r_ex3c, r_nc, r_keepE, Nat.zero_add, Nat.add_zero, Nat.mul_one, Int.toNat_natCast, toNat_sub1, toNat_add1, decide_true, decide_false, Bool.not_true, Bool.not_false, if_true, if_false, Bool.false_eq_true, reduceCtorEq, decide_eq_true hlt', r_ld hcell, decide_eq_true hpl2, i0, Nat.zero_mul, r_ld hx0, hp1, decide_eq_true hp2]
    exact ⟨kr, out fun h => by have := h.1; simp only [rowB, Bool.and_eq_true, decide_eq_true_eq] at this; omega⟩
  have i1 : (1 : Int).toNat = 1 := rfl
  simp (disch := omega) only [r_ln, r_pick, r_pickT, r_pickF, r_condT, r_condF, r_gdTT, r_gdFF, r_gdTF, r_gdFT, r_gqTT, r_gqFF, r_gqTF, r_gqFT, r_not, r_lss, r_leq, r_gtr, r_geq, r_eql, r_neq, r_add, r_sub, r_min2, r_max2, r_min3, r_max3, r_fa, r_iaS, r_iaA, r_ex2a, r_ex2b, r_ex3a, r_ex3b, r_ex3c, r_nc, r_keepE, Nat.zero_add, Nat.add_zero, Nat.mul_one, Int.toNat_natCast, toNat_sub1, toNat_add1, decide_true, decide_false, Bool.not_true, Bool.not_false, if_true, if_false, Bool.false_eq_true, reduceCtorEq, decide_eq_true hlt', r_ld hcell, decide_eq_true hpl2, i0, Nat.zero_mul, r_ld hx0, hp1, hp2, r_slFrom, i1]
  have htail := rd_from (j := 1) hrow (by omega)
  rw [Nat.mul_one] at htail
  refine r_use fok54 (containsF_calls (fun x => !colB x) wr htail fun x _ w' K _ hK => nocol_call x w' K hK) rfl ?_
  rintro _ w5 ⟨rfl, k5⟩
  refine ⟨_, rfl, ?_⟩
  rw [any_not]
  have kr5 := Kp.trans kr k5
  cases hcol : (p.drop 1).all colB with
  | false =>
    simp (disch := omega) only [r_ln, r_pick, r_pickT, r_pickF, r_condT, r_condF, r_gdTT, r_gdFF, r_gdTF, r_gdFT, r_gqTT, r_gqFF, r_gqTF, r_gqFT, r_not, r_lss, r_leq, r_gtr, r_geq, r_eql, r_neq, r_add, r_sub, r_min2, r_max2, r_min3, r_max3, r_fa, r_iaS, r_iaA, r_ex2a, r_ex2b, r_ex3a, r_ex3b, r_ex3c, r_nc, r_keepE, Nat.zero_add, Nat.add_zero, Nat.mul_one, Int.toNat_natCast, toNat_sub1, toNat_add1, decide_true, decide_false, Bool.not_true, Bool.not_false, if_true, if_false, Bool.false_eq_true, reduceCtorEq]
    exact ⟨kr5, out fun h => by
      have := h.1
      simp only [rowB, Bool.and_eq_true, decide_eq_true_eq, hcol] at this
      exact absurd this.2 (by decide)⟩
  | true =>
  have hrowB : rowB W H p = true := by
    simp only [rowB, Bool.and_eq_true, decide_eq_true_eq, hcol]
    exact ⟨⟨⟨by omega, by omega⟩, by omega⟩, trivial⟩
  have hcols := all_cols hcol
  have hdl : (p.drop 1).length = W := by rw [List.length_drop]; omega
  have hrg := code_range hcols (by omega)
  have hkey : IKey (code (p.drop 1)) := ⟨by omega, by omega⟩
  have hdead : deadL (proof.take (i + 1)) = deadF (deadL (proof.take i)) p := by
    rw [take_succ' _ _ hlt, deadL, List.foldl_append, ← getD_lt proof i [] hlt, hpe]
    rfl
  simp (disch := omega) only [r_ln, r_pick, r_pickT, r_pickF, r_condT, r_condF, r_gdTT, r_gdFF, r_gdTF, r_gdFT, r_gqTT, r_gqFF, r_gqTF, r_gqFT, r_not, r_lss, r_leq, r_gtr, r_geq, r_eql, r_neq, r_add, r_sub, r_min2, r_max2, r_min3, r_max3, r_fa, r_iaS, r_iaA, r_ex2a, r_ex2b, r_ex3a, r_ex3b, r_ex3c, r_nc, r_keepE, Nat.zero_add, Nat.add_zero, Nat.mul_one, Int.toNat_natCast, toNat_sub1, toNat_add1, decide_true, decide_false, Bool.not_true, Bool.not_false, if_true, if_false, Bool.false_eq_true, reduceCtorEq]
  by_cases hup : upB proof i = true
  case neg =>
    have hi0 : 0 < i := by
      refine Nat.pos_of_ne_zero fun e => hup ?_
      simp [upB, e]
    have hi0' : (0 : Int) < (i : Int) := by omega
    have hcm : ¬ cmpL (proof.getD (i - 1) []) p < 0 := fun h => hup (by simp only [upB, hpe, Bool.or_eq_true, decide_eq_true_eq]; exact .inr h)
    obtain ⟨qb, qo, _, qv, eq, qcell, qrow⟩ := (hp.below kr5).row (i := i - 1) (by omega)
    cases eq
    simp (disch := omega) only [r_ln, r_pick, r_pickT, r_pickF, r_condT, r_condF, r_gdTT, r_gdFF, r_gdTF, r_gdFT, r_gqTT, r_gqFF, r_gqTF, r_gqFT, r_not, r_lss, r_leq, r_gtr, r_geq, r_eql, r_neq, r_add, r_sub, r_min2, r_max2, r_min3, r_max3, r_fa, r_iaS, r_iaA, r_ex2a, r_ex2b, r_ex3a, r_ex3b, r_ex3c, r_nc, r_keepE, Nat.zero_add, Nat.add_zero, Nat.mul_one, Int.toNat_natCast, toNat_sub1, toNat_add1, decide_true, decide_false, Bool.not_true, Bool.not_false, if_true, if_false, Bool.false_eq_true, reduceCtorEq, decide_eq_true hi0', r_ld qcell]
    refine r_use fok57 (compare_calls w5 qrow (hrow.below k5)) rfl ?_
    rintro _ _ ⟨rfl, rfl⟩
    refine ⟨_, rfl, ?_⟩
    have hcm' : 0 ≤ cmpL (proof.getD (i - 1) []) p := by omega
    simp (disch := omega) only [r_ln, r_pick, r_pickT, r_pickF, r_condT, r_condF, r_gdTT, r_gdFF, r_gdTF, r_gdFT, r_gqTT, r_gqFF, r_gqTF, r_gqFT, r_not, r_lss, r_leq, r_gtr, r_geq, r_eql, r_neq, r_add, r_sub, r_min2, r_max2, r_min3, r_max3, r_fa, r_iaS, r_iaA, r_ex2a, r_ex2b, r_ex3a, r_ex3b, r_ex3c, r_nc, r_keepE, Nat.zero_add, Nat.add_zero, Nat.mul_one, Int.toNat_natCast, toNat_sub1, toNat_add1, decide_true, decide_false, Bool.not_true, Bool.not_false, if_true, if_false, Bool.false_eq_true, reduceCtorEq, decide_eq_true hcm']
    exact ⟨kr5, out fun h => hup h.2⟩
  have nexti : ∀ (x : World) (d' : Int → Int), Kp w x → Kp w1 x → MapF x bm (iK 0) (fun c => iK (d' c)) → d' = deadL (proof.take (i + 1)) → x.heap[b11]? = some (.cells #[.map (some bm)] 68 (0, 0)) →
      ∃ i' : Nat, i' ≤ proof.length ∧ Value.int .i64 ((i : Int) + 1) = .int .i64 i' ∧ (∀ k, k < i' → rowB W H (proof.getD k []) = true ∧ upB proof k = true) ∧ MapF x bm (iK 0) (fun c => iK (deadL (proof.take i') c)) ∧ x.heap[b11]? = some (.cells #[.map (some bm)] 68 (0, 0)) ∧ Kp w x ∧ Kp w1 x := fun x d' q1 q2 q3 q4 q5 => by
    subst q4
    refine ⟨i + 1, by omega, by go_num, fun k hk => ?_, q3, q5, q1, q2⟩
    by_cases hki : k < i
    · exact hok k hki
    · have : k = i := by omega
      subst this
      exact ⟨by rw [hpe]; exact hrowB, hup⟩
  rcases Nat.eq_zero_or_pos i with hi0 | hi0
  have hi0' : ¬ (0 : Int) < (i : Int) := by omega
  simp (disch := omega) only [r_ln, r_pick, r_pickT, r_pickF, r_condT, r_condF, r_gdTT, r_gdFF, r_gdTF, r_gdFT, r_gqTT, r_gqFF, r_gqTF, r_gqFT, r_not, r_lss, r_leq, r_gtr, r_geq, r_eql, r_neq, r_add, r_sub, r_min2, r_max2, r_min3, r_max3, r_fa, r_iaS, r_iaA, r_ex2a, r_ex2b, r_ex3a, r_ex3b, r_ex3c, r_nc, r_keepE, Nat.zero_add, Nat.add_zero, Nat.mul_one, Int.toNat_natCast, toNat_sub1, toNat_add1, decide_true, decide_false, Bool.not_true, Bool.not_false, if_true, if_false, Bool.false_eq_true, reduceCtorEq, hi0', r_slFrom, i1]
  rotate_left
  have hi0' : (0 : Int) < (i : Int) := by omega
  have hcm : cmpL (proof.getD (i - 1) []) p < 0 := by
    simp only [upB, hpe, Bool.or_eq_true, decide_eq_true_eq] at hup
    rcases hup with h | h
    · omega
    · exact h
  obtain ⟨qb, qo, _, qv, eq, qcell, qrow⟩ := (hp.below kr5).row (i := i - 1) (by omega)
  cases eq
  simp (disch := omega) only [r_ln, r_pick, r_pickT, r_pickF, r_condT, r_condF, r_gdTT, r_gdFF, r_gdTF, r_gdFT, r_gqTT, r_gqFF, r_gqTF, r_gqFT, r_not, r_lss, r_leq, r_gtr, r_geq, r_eql, r_neq, r_add, r_sub, r_min2, r_max2, r_min3, r_max3, r_fa, r_iaS, r_iaA, r_ex2a, r_ex2b, r_ex3a, r_ex3b, r_ex3c, r_nc, r_keepE, Nat.zero_add, Nat.add_zero, Nat.mul_one, Int.toNat_natCast, toNat_sub1, toNat_add1, decide_true, decide_false, Bool.not_true, Bool.not_false, if_true, if_false, Bool.false_eq_true, reduceCtorEq, decide_eq_true hi0', r_ld qcell]
  refine r_use fok57 (compare_calls w5 qrow (hrow.below k5)) rfl ?_
  rintro _ _ ⟨rfl, rfl⟩
  refine ⟨_, rfl, ?_⟩
  have hcm' : ¬ 0 ≤ cmpL (proof.getD (i - 1) []) p := by omega
  simp (disch := omega) only [r_ln, r_pick, r_pickT, r_pickF, r_condT, r_condF, r_gdTT, r_gdFF, r_gdTF, r_gdFT, r_gqTT, r_gqFF, r_gqTF, r_gqFT, r_not, r_lss, r_leq, r_gtr, r_geq, r_eql, r_neq, r_add, r_sub, r_min2, r_max2, r_min3, r_max3, r_fa, r_iaS, r_iaA, r_ex2a, r_ex2b, r_ex3a, r_ex3b, r_ex3c, r_nc, r_keepE, Nat.zero_add, Nat.add_zero, Nat.mul_one, Int.toNat_natCast, toNat_sub1, toNat_add1, decide_true, decide_false, Bool.not_true, Bool.not_false, if_true, if_false, Bool.false_eq_true, reduceCtorEq, hcm', r_slFrom, i1]
  rotate_left
  all_goals
    refine r_use fok58 (number_calls w5 (htail.below k5) hcols (by omega)) rfl ?_
    rintro _ _ ⟨rfl, rfl⟩
    refine ⟨_, rfl, ?_⟩
    have m5 := hmr.kp k5
    have h115 := block_below h11 k5
    have kr15 := Kp.trans kr1 k5
    have c11 : w5.cell? ⟨b11, 0, none⟩ = some (.map (some bm)) := by rw [cell_row h115]; rfl
    rw [r_ld c11, r_lkF und68 zero3 m5 hkey, r_eql]
    refine r_join0 (fun x => ∃ d', Kp w x ∧ Kp w1 x ∧ MapF x bm (iK 0) (fun c => iK (d' c)) ∧ d' = deadL (proof.take (i + 1)) ∧ x.heap[b11]? = some (.cells #[.map (some bm)] 68 (0, 0))) ?_ ?_
    · rintro x ⟨d', q1, q2, q3, q4, q5⟩
      try simp (disch := omega) only [r_ln, r_pick, r_pickT, r_pickF, r_condT, r_condF, r_gdTT, r_gdFF, r_gdTF, r_gdFT, r_gqTT, r_gqFF, r_gqTF, r_gqFT, r_not, r_lss, r_leq, r_gtr, r_geq, r_eql, r_neq, r_add, r_sub, r_min2, r_max2, r_min3, r_max3, r_fa, r_iaS, r_iaA, r_ex2a, r_ex2b, r_ex3a, r_ex3b, r_ex3c, r_nc, r_keepE, Nat.zero_add, Nat.add_zero, Nat.mul_one, Int.toNat_natCast, toNat_sub1, toNat_add1, decide_true, decide_false, Bool.not_true, Bool.not_false, if_true, if_false, Bool.false_eq_true, reduceCtorEq]
      exact ⟨nexti x d' q1 q2 q3 q4 q5, by simp only [intOf]; omega⟩
    intro kk hkk
    by_cases hd0 : deadL (proof.take i) (code (p.drop 1)) = 0
    · simp (disch := omega) only [r_ln, r_pick, r_pickT, r_pickF, r_condT, r_condF, r_gdTT, r_gdFF, r_gdTF, r_gdFT, r_gqTT, r_gqFF, r_gqTF, r_gqFT, r_not, r_lss, r_leq, r_gtr, r_geq, r_eql, r_neq, r_add, r_sub, r_min2, r_max2, r_min3, r_max3, r_fa, r_iaS, r_iaA, r_ex2a, r_ex2b, r_ex3a, r_ex3b, r_ex3c, r_nc, r_keepE, Nat.zero_add, Nat.add_zero, Nat.mul_one, Int.toNat_natCast, toNat_sub1, toNat_add1, decide_true, decide_false, Bool.not_true, Bool.not_false, if_true, if_false, Bool.false_eq_true, reduceCtorEq, decide_eq_true hd0]
      refine r_drew fun w7 k7 _ => ?_
      have c117 : w7.cell? ⟨b11, 0, none⟩ = some (.map (some bm)) := cell_later k7 c11
      have hx07 := cell_later (Kp.trans k5 k7) hx0
      simp (disch := omega) only [r_ln, r_pick, r_pickT, r_pickF, r_condT, r_condF, r_gdTT, r_gdFF, r_gdTF, r_gdFT, r_gqTT, r_gqFF, r_gqTF, r_gqFT, r_not, r_lss, r_leq, r_gtr, r_geq, r_eql, r_neq, r_add, r_sub, r_min2, r_max2, r_min3, r_max3, r_fa, r_iaS, r_iaA, r_ex2a, r_ex2b, r_ex3a, r_ex3b, r_ex3c, r_nc, r_keepE, Nat.zero_add, Nat.add_zero, Nat.mul_one, Int.toNat_natCast, toNat_sub1, toNat_add1, decide_true, decide_false, Bool.not_true, Bool.not_false, if_true, if_false, Bool.false_eq_true, reduceCtorEq, r_ld c117, i0, Nat.zero_mul, r_ld hx07]
      refine r_muF und68 zero3 (m5.kp k7) hkey (fun e => by have := iK_inj e; omega) fun w8 m8 c8 s8 => ?_
      have sbm := m5.lt
      refine hkk w8 ⟨upd (deadL (proof.take i)) (code (p.drop 1)) (p.getD 0 0), Kp.of_chg (Kp.trans kr5 k7) c8 fun k e => by omega, Kp.of_chg (Kp.trans kr15 k7) c8 fun k e => by omega, ?_, ?_, c8.at (block_below h115 k7) (by omega)⟩
      · have e : (fun c => iK (upd (deadL (proof.take i)) (code (p.drop 1)) (p.getD 0 0) c)) = upd (fun c => iK (deadL (proof.take i) c)) (code (p.drop 1)) (iK (p.getD 0 0)) := by
          funext c
          simp only [upd]
          split <;> rfl
        rw [e]
        exact m8
      · rw [hdead, deadF, if_pos hd0]
    · simp (disch := omega) only [r_ln, r_pick, r_pickT, r_pickF, r_condT, r_condF, r_gdTT, r_gdFF, r_gdTF, r_gdFT, r_gqTT, r_gqFF, r_gqTF, r_gqFT, r_not, r_lss, r_leq, r_gtr, r_geq, r_eql, r_neq, r_add, r_sub, r_min2, r_max2, r_min3, r_max3, r_fa, r_iaS, r_iaA, r_ex2a, r_ex2b, r_ex3a, r_ex3b, r_ex3c, r_nc, r_keepE, Nat.zero_add, Nat.add_zero, Nat.mul_one, Int.toNat_natCast, toNat_sub1, toNat_add1, decide_true, decide_false, Bool.not_true, Bool.not_false, if_true, if_false, Bool.false_eq_true, reduceCtorEq, hd0]
      exact hkk w5 ⟨deadL (proof.take i), kr5, kr15, m5, by rw [hdead, deadF, if_neg hd0], h115⟩

end Go.Proofs.Ytgalbokmgffhkaa
