/- Texts of my own, merged by program: B7n B8 Sg. -/
import Derived.Test.YtgalbokmgffhkaaM15
import Derived.Shelf.SlSortCmp.NoneTotal
import Derived.Test.YtgalbokmgffhkaaM02
set_option linter.all false
/- The program's sort of lists, where there are none. -/
namespace Go.Proofs.Ytgalbokmgffhkaa
open Go.Lf Go.RowKit Go.Wg Go.Shelf Go.Proofs

theorem sortR0_calls {base : Nat} {v : Value} {w : World} (fv : Value) (h : IRows base w v []) : Calls Try.prog 84 #[v, fv] w fun e w' => e = .returned (.tuple #[]) ∧ w' = w := by
  obtain ⟨vs, h1, h2, _⟩ := h
  obtain ⟨a, cap, e, _⟩ := h1.len
  rw [h2] at e
  subst e
  have hcon := AnyF.slices_SortFunc_none (ρ := sortR_ren) { sortR with } a cap fv w
  change Calls Try.prog 84 _ _ _ at hcon
  exact hcon

/-- Reading stays while other blocks turn (none at all are read where there is nothing). -/
theorem Rd.chg0 {α : Type} {m : Nat} {enc : α → List Value} {S : Nat → Prop} {w w' : World} {v : Value} {l : List α} (h : Rd m enc w v l) (hc : Chg S w w') (hs : 0 < l.length → ∀ b off n cap, v = .slice (some ⟨b, off, none⟩) n cap → ¬ S b) : Rd m enc w' v l := by
  obtain ⟨a, cap, rfl, hl, hh⟩ := h
  refine ⟨a, cap, rfl, hl, fun h0 => ?_⟩
  obtain ⟨b, off, rfl, hcell⟩ := hh h0
  exact ⟨b, off, rfl, fun i x hi j u hu => hc.cell (hcell i x hi j u hu) (hs h0 _ _ _ _ rfl)⟩

end Go.Proofs.Ytgalbokmgffhkaa

/- Contract: Refute of the program. -/
namespace Go.Proofs.Ytgalbokmgffhkaa
open Go.Lf Go.RowKit Go.Wg

/-- The list that Refute returns, where nothing is alive. -/
def RefuteOut (L : List Line) (a h : Nat) (out : List (List Int)) : Prop :=
  ∃ (kO : Nat → Nat) (new : List Nat), (∀ i, i < 8 ^ a → 1 ≤ kO i ∧ kO i ≤ h ∧ (alvL L (8 ^ a) (kO i)).getD i false = false ∧ ∀ j, 1 ≤ j → j < kO i → (alvL L (8 ^ a) j).getD i false = true) ∧
    out.Perm (new.map (rowOf kO a)) ∧ out.Pairwise (fun x y => ¬ cmpL y x < 0) ∧ new.Nodup ∧ (∀ x ∈ L, x.2.2.1.toNat ∈ new) ∧ (∀ i ∈ new, ∀ s ∈ grpL L (i : Nat), s.toNat ∈ new) ∧ ∀ i ∈ new, ∃ x ∈ L, x.2.2.1 = (i : Nat)

def RefutePost (l : List Tile) (a b : Int) (base : Nat) (w' : World) (e : Ending) : Prop :=
  (ordErr l a b ≠ 0 ∧ e = .returned (.tuple #[nilS, .int .i64 2])) ∨ (ordErr l a b = 0 ∧ (alvL (linesL l a.toNat) (8 ^ a.toNat) b.toNat).any id = true ∧ e = .returned (.tuple #[nilS, .int .i64 10])) ∨
    (ordErr l a b = 0 ∧ (alvL (linesL l a.toNat) (8 ^ a.toNat) b.toNat).any id = false ∧ ∃ ov out, e = .returned (.tuple #[ov, .int .i64 0]) ∧ IRows base w' ov out ∧ RefuteOut (linesL l a.toNat) a.toNat b.toNat out)

theorem height_of {L : List Line} {N h i : Nat} (hi : i < N) (hd : (alvL L N h).any id = false) : ∃ k, 1 ≤ k ∧ k ≤ h ∧ (alvL L N k).getD i false = false ∧ ∀ j, 1 ≤ j → j < k → (alvL L N j).getD i false = true := by
  have hh : (alvL L N h).getD i false = false := by
    cases hg : (alvL L N h).getD i false with
    | false => rfl
    | true =>
      have hl := alvL_len L N h
      have : (alvL L N h).any id = true := List.any_eq_true.2 ⟨true, by rw [← hg]; exact getD_mem (by omega), rfl⟩
      rw [this] at hd; cases hd
  have h1 : 1 ≤ h := by
    refine Nat.pos_of_ne_zero fun e => ?_
    subst e
    simp [alvL, List.getD_eq_getElem?_getD, hi] at hh
  -- the least one
  have key : ∀ d, d < h → (∀ j, 1 ≤ j → j < d + 1 → (alvL L N j).getD i false = true) ∨ ∃ k, 1 ≤ k ∧ k ≤ h ∧ (alvL L N k).getD i false = false ∧ ∀ j, 1 ≤ j → j < k → (alvL L N j).getD i false = true := by
    intro d
    induction d with
    | zero => intro _; exact .inl fun j h1 h2 => absurd h1 (by omega)
    | succ d ih =>
      intro hd'
      rcases ih (by omega) with h | h
      · cases hg : (alvL L N (d + 1)).getD i false with
        | true =>
          refine .inl fun j h1 h2 => ?_
          by_cases e : j = d + 1
          · rw [e]; exact hg
          · exact h j h1 (by omega)
        | false => exact .inr ⟨d + 1, by omega, by omega, hg, h⟩
      · exact .inr h
  rcases key (h - 1) (by omega) with hk | hk
  · exact ⟨h, h1, Nat.le_refl _, hh, fun j h1 h2 => hk j h1 (by omega)⟩
  · exact hk

theorem fok84' : fnOk Try.prog 84 = true := by kernel_rfl
theorem IRows.down {base base' : Nat} {w : World} {v : Value} {R : List (List Int)} (h : IRows base w v R) (hb : base' ≤ base) : IRows base' w v R :=
  let ⟨vs, h1, h2, h3⟩ := h; ⟨vs, h1.down hb, h2, fun i u r hu hr => (h3 i u r hu hr).down hb⟩

theorem BRows.chg' {S : Nat → Prop} {base : Nat} {w w' : World} {v : Value} {R : List (List Bool)} (h : BRows base w v R) (hc : Chg S w w') (hs : ∀ k, (∃ e cur, w.heap[k]? = some (.cells cur e (0, 0))) → ¬ S k) : BRows base w' v R :=
  let ⟨vs, h1, h2, h3⟩ := h; ⟨vs, h1.chg hc fun k hk => hs k (let ⟨cur, hcur⟩ := own_type h1 hk; ⟨_, cur, hcur⟩), h2, fun i u r hu hr => (h3 i u r hu hr).chg hc fun k hk => hs k (let ⟨cur, hcur⟩ := own_type (h3 i u r hu hr) hk; ⟨_, cur, hcur⟩)⟩

set_option maxRecDepth 100000 in
set_option maxHeartbeats 1000000 in
theorem refute_calls {v : Value} {l : List Tile} (a b : Int) (w : World) (hr : RdT w v l) : Calls Try.prog 32 #[v, .int .i64 a, .int .i64 b] w fun e w' => Kp w w' ∧ RefutePost l a b w.heap.size w' e := by
  refine lift32 ?_
  unfold S32
  refine r_box fun b4 w1 e4 s4 h4 k1 => ?_
  have c4 : w1.cell? ⟨b4, 0, none⟩ = some (.int .i64 a) := by rw [cell_row h4]; rfl
  rw [r_ld c4]
  refine r_use fok53 (board_calls a b w1 (hr.kp k1)) rfl ?_
  rintro _ w2 ⟨rfl, k2⟩
  refine ⟨_, rfl, ?_⟩
  have k02 := Kp.trans k1 k2
  have h20 : ¬ ((2 : Int) = 0) := by decide
  rcases ordErr_cases l a b with he | he
  rotate_left
  · simp (disch := omega) only [r_ln, r_pick, r_pickT, r_pickF, r_condT, r_condF, r_gdTT, r_gdFF, r_gdTF, r_gdFT, r_gqTT, r_gqFF, r_gqTF, r_gqFT, r_not, r_lss, r_leq, r_gtr, r_geq, r_eql, r_neq, r_add, r_sub, r_min2, r_max2, r_min3, r_max3, r_fa, r_iaS, r_iaA, r_ex2a, r_ex2b, r_ex3a, r_ex3b, r_ex3c, r_nc, r_keepE, Nat.zero_add, Nat.add_zero, Nat.mul_one, Int.toNat_natCast, toNat_sub1, toNat_add1, decide_true, decide_false, Bool.not_true, Bool.not_false, if_true, if_false, Bool.false_eq_true, reduceCtorEq, he, h20]
    exact ⟨k02, .inl ⟨by rw [he]; decide, rfl⟩⟩
  obtain ⟨hs, W, H, rfl, rfl, hW, hH⟩ := ord_ok he
  have h42 := block_below h4 k2
  have c42 := cell_later k2 c4
  simp (disch := omega) only [r_ln, r_pick, r_pickT, r_pickF, r_condT, r_condF, r_gdTT, r_gdFF, r_gdTF, r_gdFT, r_gqTT, r_gqFF, r_gqTF, r_gqFT, r_not, r_lss, r_leq, r_gtr, r_geq, r_eql, r_neq, r_add, r_sub, r_min2, r_max2, r_min3, r_max3, r_fa, r_iaS, r_iaA, r_ex2a, r_ex2b, r_ex3a, r_ex3b, r_ex3c, r_nc, r_keepE, Nat.zero_add, Nat.add_zero, Nat.mul_one, Int.toNat_natCast, toNat_sub1, toNat_add1, decide_true, decide_false, Bool.not_true, Bool.not_false, if_true, if_false, Bool.false_eq_true, reduceCtorEq, he, decide_eq_true (rfl : (0 : Int) = 0), r_ld c42]
  refine r_use fok59 (rows_calls hs hW w2 (hr.kp k02)) rfl ?_
  rintro _ w3 ⟨lv, rfl, k3, hL⟩
  refine ⟨_, rfl, ?_⟩
  change LnAt _ _ _ (linesL l W) at hL
  have hlo := lines_ok hs hW.2
  have hll := lines_len hs hW.2
  have hrdL := hL.rd lnC_len
  have c43 := cell_later k3 c42
  rw [r_ld c43]
  refine r_use fok76 (alive_calls (h := H) w3 hW (by omega) hrdL hlo (by omega)) rfl ?_
  rintro _ w4 ⟨av, rfl, k4, hA⟩
  refine ⟨_, rfl, ?_⟩
  obtain ⟨aa, acap, rfl, hac⟩ := hA.len
  refine r_box fun b10 w5 e10 s10 h10 k5 => ?_
  refine r_stAll (n := 1) (ty := 88) (cs := #[nilS]) (by kernel_rfl) rfl (by intro u hu; simp [Value.cells] at hu; subst hu; rfl) h10 rfl fun w6 c6 s6 h106 => ?_
  have k46 : Kp w4 w6 := Kp.of_chg k5 c6 fun i e => by omega
  have k06 := Kp.trans k02 (Kp.trans k3 (Kp.trans k4 k46))
  have hpl := alvL_len (linesL l W) (8 ^ W) H
  obtain ⟨ob, oo, _, u, eo, ocell, hu⟩ := (hA.kp k46).row (i := H) (r := alvL (linesL l W) (8 ^ W) H) (by rw [List.getElem?_map, List.getElem?_range (by omega)]; rfl)
  cases eo
  have c10 : w6.cell? ⟨b10, 0, none⟩ = some (.slice (some ⟨ob, oo, none⟩) ((List.range (H + 1)).map (alvL (linesL l W) (8 ^ W))).length acap) := by rw [cell_row h106]; rfl
  have hrl : ((List.range (H + 1)).map (alvL (linesL l W) (8 ^ W))).length = H + 1 := by simp
  rw [hrl] at c10
  have h8 := pow8N_le hW.2
  simp (disch := omega) only [r_ln, r_pick, r_pickT, r_pickF, r_condT, r_condF, r_gdTT, r_gdFF, r_gdTF, r_gdFT, r_gqTT, r_gqFF, r_gqTF, r_gqFT, r_not, r_lss, r_leq, r_gtr, r_geq, r_eql, r_neq, r_add, r_sub, r_min2, r_max2, r_min3, r_max3, r_fa, r_iaS, r_iaA, r_ex2a, r_ex2b, r_ex3a, r_ex3b, r_ex3c, r_nc, r_keepE, Nat.zero_add, Nat.add_zero, Nat.mul_one, Int.toNat_natCast, toNat_sub1, toNat_add1, decide_true, decide_false, Bool.not_true, Bool.not_false, if_true, if_false, Bool.false_eq_true, reduceCtorEq, r_ld c10, r_ld ocell]
  refine r_use fok81 (containsB_calls w6 (hu.rd bC_len) (by omega)) rfl ?_
  rintro _ w7 ⟨rfl, k7⟩
  refine ⟨_, rfl, ?_⟩
  have k07 := Kp.trans k06 k7
  cases hany : (alvL (linesL l W) (8 ^ W) H).any id with
  | true =>
    simp (disch := omega) only [r_ln, r_pick, r_pickT, r_pickF, r_condT, r_condF, r_gdTT, r_gdFF, r_gdTF, r_gdFT, r_gqTT, r_gqFF, r_gqTF, r_gqFT, r_not, r_lss, r_leq, r_gtr, r_geq, r_eql, r_neq, r_add, r_sub, r_min2, r_max2, r_min3, r_max3, r_fa, r_iaS, r_iaA, r_ex2a, r_ex2b, r_ex3a, r_ex3b, r_ex3c, r_nc, r_keepE, Nat.zero_add, Nat.add_zero, Nat.mul_one, Int.toNat_natCast, toNat_sub1, toNat_add1, decide_true, decide_false, Bool.not_true, Bool.not_false, if_true, if_false, Bool.false_eq_true, reduceCtorEq]
    exact ⟨k07, .inr (.inl ⟨he, hany, rfl⟩)⟩
  | false =>
  have hkO : ∃ kO : Nat → Nat, ∀ i, i < 8 ^ W → 1 ≤ kO i ∧ kO i ≤ H ∧ (alvL (linesL l W) (8 ^ W) (kO i)).getD i false = false ∧ ∀ j, 1 ≤ j → j < kO i → (alvL (linesL l W) (8 ^ W) j).getD i false = true :=
    ⟨fun i => if hi : i < 8 ^ W then Classical.choose (height_of hi hany) else 0, fun i hi => by
      simp only [hi, dif_pos]
      exact Classical.choose_spec (height_of hi hany)⟩
  obtain ⟨kO, hkO⟩ := hkO
  have outP : ∀ (w' : World) (ov : Value) (out : List (List Int)), IRows w.heap.size w' ov out → RefuteOut (linesL l W) W H out → RefutePost l W H w.heap.size w' (.returned (.tuple #[ov, .int .i64 0])) := fun w' ov out q1 q2 => .inr (.inr ⟨he, hany, ov, out, rfl, q1, q2⟩)
  simp (disch := omega) only [r_ln, r_pick, r_pickT, r_pickF, r_condT, r_condF, r_gdTT, r_gdFF, r_gdTF, r_gdFT, r_gqTT, r_gqFF, r_gqTF, r_gqFT, r_not, r_lss, r_leq, r_gtr, r_geq, r_eql, r_neq, r_add, r_sub, r_min2, r_max2, r_min3, r_max3, r_fa, r_iaS, r_iaA, r_ex2a, r_ex2b, r_ex3a, r_ex3b, r_ex3c, r_nc, r_keepE, Nat.zero_add, Nat.add_zero, Nat.mul_one, Int.toNat_natCast, toNat_sub1, toNat_add1, decide_true, decide_false, Bool.not_true, Bool.not_false, if_true, if_false, Bool.false_eq_true, reduceCtorEq]
  have h107 := block_below h106 k7
  have h47 := block_below h42 (Kp.trans k3 (Kp.trans k4 (Kp.trans k46 k7)))
  have hrd7 := hrdL.kp (Kp.trans k4 (Kp.trans k46 k7))
  have hA7 := hA.kp (Kp.trans k46 k7)
  generalize linesL l W = L at *
  refine r_box fun b11 w8 e11 s11 h11 k8 => ?_
  simp only [mmW]
  have mg := map_new w8 nilS
  have kg : Kp w8 (w8.alloc (.map #[] 0)) := below_alloc _
  have sg : (w8.alloc (.map #[] 0)).heap.size = w8.heap.size + 1 := by show (w8.heap.push _).size = _; simp
  generalize hbm : w8.heap.size = bm at *
  generalize w8.alloc (.map #[] 0) = w9 at *
  refine r_box fun b12 x1 e12 s12 h12 y1 => ?_
  refine r_stAll (n := 1) (ty := 75) (cs := #[.map none]) (by kernel_rfl) rfl (by intro u hu; simp [Value.cells] at hu; subst hu; rfl) h12 rfl fun x2 d2 s2 h122 => ?_
  have y2 : Kp w9 x2 := Kp.of_chg y1 d2 fun i e => by omega
  have k79 : Kp w7 x2 := Kp.trans k8 (Kp.trans kg y2)
  obtain ⟨la, lcap, rfl, hlc⟩ := hrdL.len
  have ikey : ∀ x ∈ L, IKey x.2.1 ∧ IKey x.2.2.1 := fun x hx => by
    obtain ⟨⟨x1, x2⟩, x3, x4⟩ := hlo x hx
    have e8 : ((8 ^ W : Nat) : Int) ≤ 4096 := by exact_mod_cast h8
    exact ⟨⟨by omega, by omega⟩, by omega, by omega⟩
  have sx2 := y2.size
  simp only [r_ln, r_pick, r_pickT, r_pickF, r_condT, r_condF, r_gdTT, r_gdFF, r_gdTF, r_gdFT, r_gqTT, r_gqFF, r_gqTF, r_gqFT, r_not, r_lss, r_leq, r_gtr, r_geq, r_eql, r_neq, r_add, r_sub, r_min2, r_max2, r_min3, r_max3, r_fa, r_iaS, r_iaA, r_ex2a, r_ex2b, r_ex3a, r_ex3b, r_ex3c, r_nc, r_keepE, Nat.zero_add, Nat.add_zero, Nat.mul_one, Int.toNat_natCast, toNat_sub1, toNat_add1, decide_true, decide_false, Bool.not_true, Bool.not_false, if_true, if_false, Bool.false_eq_true, reduceCtorEq]
  refine ⟨fun t41 wq => ∃ q : Nat, q ≤ L.length ∧ t41 = .int .i64 q ∧ GrpAt x2.heap.size wq bm (grpL (L.take q)) ∧ Chg (fun k => k = bm) x2 wq, fun t41 _ => L.length - (intOf t41).toNat,
    ⟨0, by omega, rfl, ⟨_, mg.kp y2, fun c => by simp only [grpL, List.take_zero, List.filter_nil, List.map_nil]; exact RecAt.nil, fun c c' _ k h => by cases h⟩, Chg.refl _ _⟩, ?_⟩
  rintro _ _ wq ⟨q, hq, rfl, hgq, cq⟩
  have sq := cq.size
  have kwq : Kp w wq := Kp.of_chg (Kp.trans k07 k79) cq fun k e => by have := k07.size; have := k8.size; omega
  have h12q : wq.heap[b12]? = some (.cells #[.map (some bm)] 75 (0, 0)) := cq.at h122 (by omega)
  have hrdq : RdL wq (.slice la L.length lcap) L := (hrd7.kp k79).chg0 cq fun hL0 b off n cap e => by
    have := (hrd7.kp (Kp.trans k8 kg)).block (fun x => by rw [lnC_len]; omega) e hL0
    have hb7 := hrd7.block (fun x => by rw [lnC_len]; omega) e hL0
    have := k8.size
    omega
  by_cases hql : q < L.length
  case neg =>
    have hql' : ¬ (q : Int) < (L.length : Int) := by omega
    rw [List.take_of_length_le (by omega)] at hgq
    have h4q : wq.heap[b4]? = some (.cells #[.int .i64 W] 3 (0, 0)) := cq.at (block_below h47 k79) (by have := block_lt h47; have := k8.size; omega)
    have h10q : wq.heap[b10]? = some (.cells #[.slice (some ⟨ob, oo, none⟩) ((List.range (H + 1)).map (alvL L (8 ^ W))).length acap] 88 (0, 0)) := cq.at (block_below h107 k79) (by have := block_lt h107; have := k8.size; omega)
    have h11q : wq.heap[b11]? = some (.cells #[nilS] 23 (0, 0)) := cq.at (block_below h11 (Kp.trans kg y2)) (by omega)
    have c4q : wq.cell? ⟨b4, 0, none⟩ = some (.int .i64 W) := by rw [cell_row h4q]; rfl
    have hAq := BRows.chg' (hA7.kp k79) cq fun k hk e => by
      obtain ⟨e', cur, hcur⟩ := hk
      obtain ⟨_, _, hbk, _⟩ := mg.kp y2
      rw [e, hbk] at hcur
      cases hcur
    have hmq : GrpAt x2.heap.size wq bm (grpL L) := hgq
    simp (disch := omega) only [r_ln, r_pick, r_pickT, r_pickF, r_condT, r_condF, r_gdTT, r_gdFF, r_gdTF, r_gdFT, r_gqTT, r_gqFF, r_gqTF, r_gqFT, r_not, r_lss, r_leq, r_gtr, r_geq, r_eql, r_neq, r_add, r_sub, r_min2, r_max2, r_min3, r_max3, r_fa, r_iaS, r_iaA, r_ex2a, r_ex2b, r_ex3a, r_ex3b, r_ex3c, r_nc, r_keepE, Nat.zero_add, Nat.add_zero, Nat.mul_one, Int.toNat_natCast, toNat_sub1, toNat_add1, decide_true, decide_false, Bool.not_true, Bool.not_false, if_true, if_false, Bool.false_eq_true, reduceCtorEq, hql', r_ld c4q]
    refine r_use fok73 (codes_calls wq hW.2) rfl ?_
    rintro _ _ ⟨rfl, rfl⟩
    refine ⟨_, rfl, ?_⟩
    refine mk91 (by omega) fun nv z1 hnv kz1 hnvb => ?_
    obtain ⟨na, ncap, rfl, _⟩ := hnv.len
    refine r_box fun b15 z2 e15 s15 h15 kz2 => ?_
    refine r_stAll (n := 1) (ty := 91) (cs := #[nilS]) (by kernel_rfl) rfl (by intro u hu; simp [Value.cells] at hu; subst hu; rfl) h15 rfl fun z3 d3 t3 h153 => ?_
    have kz3 : Kp z1 z3 := Kp.of_chg kz2 d3 fun i e => by omega
    refine r_box fun b16 z4 e16 s16 h16 kz4 => ?_
    refine r_stAll (n := 1) (ty := 96) (cs := #[.nilFunc]) (by kernel_rfl) rfl (by intro u hu; simp [Value.cells] at hu; subst hu; rfl) h16 rfl fun z5 d5 t5 h165 => ?_
    have kz5 : Kp z3 z5 := Kp.of_chg kz4 d5 fun i e => by omega
    have kq5 : Kp wq z5 := Kp.trans kz1 (Kp.trans kz3 kz5)
    have sz1 := kz1.size
    have szz3 := kz3.size
    have b11q := block_lt h11q
    have sk8 := k8.size
    have C : NmCtx L W H (8 ^ W) kO wq b15 b10 b11 b4 b12 b16 bm w3.heap.size (.slice na (List.replicate (8 ^ W) false).length ncap) (.slice (some ⟨ob, oo, none⟩) ((List.range (H + 1)).map (alvL L (8 ^ W))).length acap) :=
      ⟨hW, rfl, hlo, hll, by omega, h4q, h10q, hAq, h12q, ⟨_, hmq⟩, by have := block_lt h47; omega, by have := block_lt h107; omega, by omega, by omega, ⟨_, h11q⟩, hkO⟩
    have hrepl : ∀ i, (List.replicate (8 ^ W) false).getD i false = false := fun i => by
      rw [List.getD_eq_getElem?_getD, List.getElem?_replicate]
      split <;> rfl
    have S0 : NmSt L W (8 ^ W) kO wq b15 b10 b11 b4 b12 b16 (.slice na (List.replicate (8 ^ W) false).length ncap) z5 (List.replicate (8 ^ W) false) nilS [] :=
      ⟨Chg.of_kp kq5, d5.at (block_below h153 kz4) (by have := block_lt h153; omega), h165, hnv.kp (Kp.trans kz3 kz5), List.length_replicate, block_below h11q kq5, ⟨[], RecAt.nil, rfl, fun i u r h => by simp at h⟩, by omega, by have := kz3.size; omega⟩
    try simp only [r_ln, r_pick, r_pickT, r_pickF, r_condT, r_condF, r_gdTT, r_gdFF, r_gdTF, r_gdFT, r_gqTT, r_gqFF, r_gqTF, r_gqFT, r_not, r_lss, r_leq, r_gtr, r_geq, r_eql, r_neq, r_add, r_sub, r_min2, r_max2, r_min3, r_max3, r_fa, r_iaS, r_iaA, r_ex2a, r_ex2b, r_ex3a, r_ex3b, r_ex3c, r_nc, r_keepE, Nat.zero_add, Nat.add_zero, Nat.mul_one, Int.toNat_natCast, toNat_sub1, toNat_add1, decide_true, decide_false, Bool.not_true, Bool.not_false, if_true, if_false, Bool.false_eq_true, reduceCtorEq]
    have hnF0 : nF (List.replicate (8 ^ W) false) = 8 ^ W := by
      unfold nF
      rw [List.countP_eq_length.2 (fun b hb => by rw [List.eq_of_mem_replicate hb]; rfl), List.length_replicate]
    refine ⟨fun t63 wr => ∃ (i : Nat) (nm : List Bool) (ov : Value) (new : List Nat), i ≤ L.length ∧ t63 = .int .i64 i ∧ NmSt L W (8 ^ W) kO wq b15 b10 b11 b4 b12 b16 (.slice na (List.replicate (8 ^ W) false).length ncap) wr nm ov (new.map (rowOf kO W)) ∧
        new.Nodup ∧ (∀ j, j ∈ new ↔ nm.getD j false = true) ∧ (∀ j ∈ new, ∃ x ∈ L, x.2.2.1 = (j : Nat)) ∧ (∀ j ∈ new, ∀ s ∈ grpL L (j : Nat), nm.getD s.toNat false = true) ∧ (∀ x ∈ L.take i, nm.getD x.2.2.1.toNat false = true) ∧ new.length + nF nm ≤ 8 ^ W, fun t63 _ => L.length - (intOf t63).toNat,
      ⟨0, _, nilS, [], by omega, rfl, S0, List.nodup_nil, fun j => by rw [hrepl]; simp, by simp, by simp, by simp, by rw [hnF0]; simp⟩, ?_⟩
    rintro _ _ wr ⟨i, nm, ov, new, hi, rfl, S, hnd, hiff, hsrc, hsucc, hfst, hcnt⟩
    have kwr : Kp w wr := Kp.of_chg kwq S.c0 fun k e => by have := k07.size; omega
    by_cases hil : i < L.length
    case neg =>
      have hil' : ¬ (i : Int) < (L.length : Int) := by omega
      rw [List.take_of_length_le (by omega)] at hfst
      have c11 : wr.cell? ⟨b11, 0, none⟩ = some ov := by rw [cell_row S.h11]; rfl
      have hall : ∀ x ∈ L, x.2.2.1.toNat ∈ new := fun x hx => (hiff _).2 (hfst x hx)
      by_cases hL0 : 0 < L.length
      case neg =>
        have hnew : new = [] := by
          cases new with
          | nil => rfl
          | cons j js =>
            obtain ⟨x, hx, _⟩ := hsrc j (by simp)
            exact absurd (List.length_pos_of_mem hx) hL0
        have hout0 : IRows wq.heap.size wr ov [] := by
          have := S.outs
          rw [hnew] at this
          exact this
        simp (disch := omega) only [r_ln, r_pick, r_pickT, r_pickF, r_condT, r_condF, r_gdTT, r_gdFF, r_gdTF, r_gdFT, r_gqTT, r_gqFF, r_gqTF, r_gqFT, r_not, r_lss, r_leq, r_gtr, r_geq, r_eql, r_neq, r_add, r_sub, r_min2, r_max2, r_min3, r_max3, r_fa, r_iaS, r_iaA, r_ex2a, r_ex2b, r_ex3a, r_ex3b, r_ex3c, r_nc, r_keepE, Nat.zero_add, Nat.add_zero, Nat.mul_one, Int.toNat_natCast, toNat_sub1, toNat_add1, decide_true, decide_false, Bool.not_true, Bool.not_false, if_true, if_false, Bool.false_eq_true, reduceCtorEq, hil', r_ld c11]
        refine r_use fok84' (sortR0_calls _ hout0) rfl ?_
        rintro _ w'' ⟨rfl, rfl⟩
        refine ⟨_, rfl, ?_⟩
        rw [r_ld c11]
        have swq := kwq.size
        exact ⟨kwr, outP _ ov [] (hout0.down swq) ⟨kO, [], hkO, List.Perm.refl _, List.Pairwise.nil, List.nodup_nil, fun x hx => absurd (List.length_pos_of_mem hx) hL0, by simp, by simp⟩⟩
      have hpos : 0 < (new.map (rowOf kO W)).length := by
        obtain ⟨x, hx⟩ : ∃ x, x ∈ L := ⟨L[0], List.getElem_mem hL0⟩
        rw [List.length_map]
        exact List.length_pos_of_mem (hall x hx)
      simp (disch := omega) only [r_ln, r_pick, r_pickT, r_pickF, r_condT, r_condF, r_gdTT, r_gdFF, r_gdTF, r_gdFT, r_gqTT, r_gqFF, r_gqTF, r_gqFT, r_not, r_lss, r_leq, r_gtr, r_geq, r_eql, r_neq, r_add, r_sub, r_min2, r_max2, r_min3, r_max3, r_fa, r_iaS, r_iaA, r_ex2a, r_ex2b, r_ex3a, r_ex3b, r_ex3c, r_nc, r_keepE, Nat.zero_add, Nat.add_zero, Nat.mul_one, Int.toNat_natCast, toNat_sub1, toNat_add1, decide_true, decide_false, Bool.not_true, Bool.not_false, if_true, if_false, Bool.false_eq_true, reduceCtorEq, hil', r_ld c11]
      refine r_use fok84' (sortR_calls S.outs hpos (by rw [List.length_map]; omega) fun r hr => by
        obtain ⟨j, _, rfl⟩ := List.mem_map.1 hr
        simp [rowOf, colsL_len]
        omega) rfl ?_
      rintro _ w'' ⟨rfl, out', hI, hperm, hsort, hch⟩
      refine ⟨_, rfl, ?_⟩
      obtain ⟨vs, o1, _, _⟩ := S.outs
      have h11'' : w''.heap[b11]? = some (.cells #[ov] 23 (0, 0)) := hch.at S.h11 fun hk => by
        obtain ⟨cur, hcur⟩ := own_type o1 hk
        rw [S.h11] at hcur
        cases hcur
      have c11'' : w''.cell? ⟨b11, 0, none⟩ = some ov := by rw [cell_row h11'']; rfl
      rw [r_ld c11'']
      have swq := kwq.size
      refine ⟨Kp.of_chg kwr hch fun k e => by have := (o1.lt e).1; omega, outP w'' ov out' (hI.down swq) ⟨kO, new, hkO, hperm, hsort, hnd, hall, fun j hj s hs => (hiff _).2 (hsucc j hj s hs), hsrc⟩⟩
    have hil' : (i : Int) < (L.length : Int) := by omega
    obtain ⟨x, hx⟩ : ∃ x, L[i]? = some x := ⟨_, List.getElem?_eq_getElem hil⟩
    have hxm := List.mem_of_getElem? hx
    have hL0 : 0 < L.length := by omega
    have hrdr : RdL wr (.slice la L.length lcap) L := hrdq.chg S.c0 fun b off n cap e => by
      have hb7 := hrd7.block (fun x => by rw [lnC_len]; omega) e hL0
      omega
    obtain ⟨lb, lo, lc, el, _, hld⟩ := RdL.line hrdr hx
    cases el
    simp (disch := omega) only [r_ln, r_pick, r_pickT, r_pickF, r_condT, r_condF, r_gdTT, r_gdFF, r_gdTF, r_gdFT, r_gqTT, r_gqFF, r_gqTF, r_gqFT, r_not, r_lss, r_leq, r_gtr, r_geq, r_eql, r_neq, r_add, r_sub, r_min2, r_max2, r_min3, r_max3, r_fa, r_iaS, r_iaA, r_ex2a, r_ex2b, r_ex3a, r_ex3b, r_ex3c, r_nc, r_keepE, Nat.zero_add, Nat.add_zero, Nat.mul_one, Int.toNat_natCast, toNat_sub1, toNat_add1, decide_true, decide_false, Bool.not_true, Bool.not_false, if_true, if_false, Bool.false_eq_true, reduceCtorEq, decide_eq_true hil', hld]
    refine r_box fun b18 u2 e18 s18 h18 v2 => ?_
    refine r_stAll (n := 7) (ty := 78) (by kernel_rfl) rfl (by intro u hu; simp [Value.cells] at hu; rcases hu with rfl | rfl | rfl | rfl | rfl | rfl | rfl <;> rfl) h18 rfl fun u3 c18 s18' h183 => ?_
    have v3 : Kp wr u3 := Kp.of_chg v2 c18 fun i e => by omega
    have S3 := S.kp v3
    have c16 : u3.cell? ⟨b16, 0, none⟩ = some (nameF b15 b10 b11 b4 b12 b16) := by rw [cell_row S3.h16]; rfl
    have c5 : u3.cell? ⟨b18, 5, none⟩ = some (.int .i64 x.2.2.1) := by rw [cell_row h183]; rfl
    obtain ⟨_, x3, x4⟩ := hlo x hxm
    have exs : x.2.2.1 = ((x.2.2.1.toNat : Nat) : Int) := by omega
    rw [exs] at c5
    simp only [r_ln, r_pick, r_pickT, r_pickF, r_condT, r_condF, r_gdTT, r_gdFF, r_gdTF, r_gdFT, r_gqTT, r_gqFF, r_gqTF, r_gqFT, r_not, r_lss, r_leq, r_gtr, r_geq, r_eql, r_neq, r_add, r_sub, r_min2, r_max2, r_min3, r_max3, r_fa, r_iaS, r_iaA, r_ex2a, r_ex2b, r_ex3a, r_ex3b, r_ex3c, r_nc, r_keepE, Nat.zero_add, Nat.add_zero, Nat.mul_one, Int.toNat_natCast, toNat_sub1, toNat_add1, decide_true, decide_false, Bool.not_true, Bool.not_false, if_true, if_false, Bool.false_eq_true, reduceCtorEq, r_ld c16, r_ld c5]
    refine r_use fok82 (name_calls C (nF nm) x.2.2.1.toNat u3 nm ov _ (Nat.le_refl _) (by omega) S3 (by rw [List.length_map]; omega)) rfl ?_
    rintro _ u4 ⟨rfl, nm9, ov9, new9, S9, m9, d9, nd9, if9, src9, suc9, cnt9⟩
    refine ⟨_, rfl, ?_⟩
    try simp (disch := omega) only [r_ln, r_pick, r_pickT, r_pickF, r_condT, r_condF, r_gdTT, r_gdFF, r_gdTF, r_gdFT, r_gqTT, r_gqFF, r_gqTF, r_gqFT, r_not, r_lss, r_leq, r_gtr, r_geq, r_eql, r_neq, r_add, r_sub, r_min2, r_max2, r_min3, r_max3, r_fa, r_iaS, r_iaA, r_ex2a, r_ex2b, r_ex3a, r_ex3b, r_ex3c, r_nc, r_keepE, Nat.zero_add, Nat.add_zero, Nat.mul_one, Int.toNat_natCast, toNat_sub1, toNat_add1, decide_true, decide_false, Bool.not_true, Bool.not_false, if_true, if_false, Bool.false_eq_true, reduceCtorEq]
    refine ⟨⟨i + 1, nm9, ov9, new ++ new9, by omega, by go_num, by rw [List.map_append]; exact S9, ?_, fun j => ?_, fun j hj => ?_, fun j hj => ?_, fun y hy => ?_, by simp; omega⟩, by simp only [intOf]; omega⟩
    · rw [List.nodup_append]
      refine ⟨hnd, nd9, fun j hj k hk e => ?_⟩
      subst e
      have h1 := (hiff j).1 hj
      have h2 := ((if9 j).1 hk).2
      rw [h1] at h2; cases h2
    · rw [List.mem_append, hiff j, if9 j]
      constructor
      · rintro (h | h)
        · exact m9 j h
        · exact h.1
      · intro h
        cases hn : nm.getD j false with
        | true => exact .inl rfl
        | false => exact .inr ⟨h, rfl⟩
    · rcases List.mem_append.1 hj with h | h
      · exact hsrc j h
      · rcases src9 j h with h | h
        · exact ⟨x, hxm, by rw [exs, h]⟩
        · exact h
    · rcases List.mem_append.1 hj with h | h
      · exact fun s hs => m9 _ (hsucc j h s hs)
      · exact suc9 j h
    · rw [List.take_add_one, hx] at hy
      rcases List.mem_append.1 hy with h | h
      · exact m9 _ (hfst y h)
      · simp at h
        rw [h]; exact d9
  have hql' : (q : Int) < (L.length : Int) := by omega
  obtain ⟨x, hx⟩ : ∃ x, L[q]? = some x := ⟨_, List.getElem?_eq_getElem hql⟩
  have hxm := List.mem_of_getElem? hx
  obtain ⟨lb, lo, lc, el, _, hld⟩ := RdL.line hrdq hx
  cases el
  simp (disch := omega) only [r_ln, r_pick, r_pickT, r_pickF, r_condT, r_condF, r_gdTT, r_gdFF, r_gdTF, r_gdFT, r_gqTT, r_gqFF, r_gqTF, r_gqFT, r_not, r_lss, r_leq, r_gtr, r_geq, r_eql, r_neq, r_add, r_sub, r_min2, r_max2, r_min3, r_max3, r_fa, r_iaS, r_iaA, r_ex2a, r_ex2b, r_ex3a, r_ex3b, r_ex3c, r_nc, r_keepE, Nat.zero_add, Nat.add_zero, Nat.mul_one, Int.toNat_natCast, toNat_sub1, toNat_add1, decide_true, decide_false, Bool.not_true, Bool.not_false, if_true, if_false, Bool.false_eq_true, reduceCtorEq, decide_eq_true hql', hld]
  refine r_box fun b14 z2 e14 s14 h14 v2 => ?_
  refine r_stAll (n := 7) (ty := 78) (by kernel_rfl) rfl (by intro u hu; simp [Value.cells] at hu; rcases hu with rfl | rfl | rfl | rfl | rfl | rfl | rfl <;> rfl) h14 rfl fun z3 c14 s14' h143 => ?_
  have v3 : Kp wq z3 := Kp.of_chg v2 c14 fun i e => by omega
  obtain ⟨ik1, ik2⟩ := ikey x hxm
  refine r_drew fun z4 v4 _ => ?_
  have v04 := Kp.trans v3 v4
  have h144 := block_below h143 v4
  have c4' : z4.cell? ⟨b14, 4, none⟩ = some (.int .i64 x.2.1) := by rw [cell_row h144]; rfl
  have c5' : z4.cell? ⟨b14, 5, none⟩ = some (.int .i64 x.2.2.1) := by rw [cell_row h144]; rfl
  have c12' : z4.cell? ⟨b12, 0, none⟩ = some (.map (some bm)) := by rw [cell_row (block_below h12q v04)]; rfl
  obtain ⟨f, hf1, hf2, hf3⟩ := hgq.kp v04
  have hfc := hf2 x.2.1
  have sv := v04.size
  have sz3 := v3.size
  have fb : ∀ c k, (f c).ownBlock = some k → x2.heap.size ≤ k ∧ k ≠ b14 := fun c k hk => by
    refine ⟨((hf2 c).lt hk).1, fun e => ?_⟩
    subst e
    obtain ⟨cur, hcur⟩ := own_type (hf2 c) hk
    rw [h144] at hcur
    injection hcur with hcur
    injection hcur with _ h3 _
    exact absurd h3 (by decide)
  have nb14 : ¬ (fun k => (f x.2.1).ownBlock = some k) b14 := fun h => (fb _ _ h).2 rfl
  have nbn : ¬ (fun k => (f x.2.1).ownBlock = some k) bm := fun h => by have := (fb _ _ h).1; omega
  have nb12 : ¬ (fun k => (f x.2.1).ownBlock = some k) b12 := fun h => by have := (fb _ _ h).1; have := block_lt h122; omega
  refine ⟨fun k => (f x.2.1).ownBlock = some k, ?_⟩
  simp only [r_ln, r_pick, r_pickT, r_pickF, r_condT, r_condF, r_gdTT, r_gdFF, r_gdTF, r_gdFT, r_gqTT, r_gqFF, r_gqTF, r_gqFT, r_not, r_lss, r_leq, r_gtr, r_geq, r_eql, r_neq, r_add, r_sub, r_min2, r_max2, r_min3, r_max3, r_fa, r_iaS, r_iaA, r_ex2a, r_ex2b, r_ex3a, r_ex3b, r_ex3c, r_nc, r_keepE, Nat.zero_add, Nat.add_zero, Nat.mul_one, Int.toNat_natCast, toNat_sub1, toNat_add1, decide_true, decide_false, Bool.not_true, Bool.not_false, if_true, if_false, Bool.false_eq_true, reduceCtorEq, r_tx, r_txl (X := fun k => (f x.2.1).ownBlock = some k) c12' nb12, r_txl (X := fun k => (f x.2.1).ownBlock = some k) c4' nb14]
  refine r_txG und75 zero30 hf1 ik1 nbn ?_
  simp only [r_ln, r_pick, r_pickT, r_pickF, r_condT, r_condF, r_gdTT, r_gdFF, r_gdTF, r_gdFT, r_gqTT, r_gqFF, r_gqTF, r_gqFT, r_not, r_lss, r_leq, r_gtr, r_geq, r_eql, r_neq, r_add, r_sub, r_min2, r_max2, r_min3, r_max3, r_fa, r_iaS, r_iaA, r_ex2a, r_ex2b, r_ex3a, r_ex3b, r_ex3c, r_nc, r_keepE, Nat.zero_add, Nat.add_zero, Nat.mul_one, Int.toNat_natCast, toNat_sub1, toNat_add1, decide_true, decide_false, Bool.not_true, Bool.not_false, if_true, if_false, Bool.false_eq_true, reduceCtorEq, r_tx, r_txl (X := fun k => (f x.2.1).ownBlock = some k) c5' nb14]
  rw [bs30]
  refine ⟨BX.of_below (below_alloc _), ?_⟩
  have y5 : Kp z4 (z4.alloc (.cells #[.int .i64 x.2.2.1] 3)) := below_alloc _
  have n5 := heap_alloc_new z4 (.cells #[.int .i64 x.2.2.1] 3)
  generalize z4.alloc (.cells #[.int .i64 x.2.2.1] 3) = z5 at *
  have sz5 := y5.size
  have hglen := grp_len (L.take q) x.2.1
  rw [List.length_take] at hglen
  dsimp only
  refine r_apAt (news := [.int .i64 x.2.2.1]) slt30 (owns_kp hfc y5) rfl (cells_at_row n5) (by intro u hu; simp at hu; subst hu; rfl) (by omega) (by omega) (by omega) fun v' z6 ho6 c6' hv6 => ?_
  refine ⟨BX.of_chg c6', ?_⟩
  have hm6 : MapF z6 bm nilS f := (hf1.kp y5).chg c6' nbn
  have hv6n : v' ≠ nilS := fun e => by
    rcases ho6.2 with ⟨_, h⟩ | ⟨g, cap, cur, h, _⟩
    · omega
    · rw [e] at h; cases h
  refine r_muF und75 zero30 hm6 ik1 hv6n fun z7 hm7 c7 s7 => ?_
  have s6' := c6'.size
  have fne : ∀ c k, c ≠ x.2.1 → (f c).ownBlock = some k → (f x.2.1).ownBlock ≠ some k := fun c k hc hk h => hf3 c x.2.1 hc k hk h
  try simp (disch := omega) only [r_ln, r_pick, r_pickT, r_pickF, r_condT, r_condF, r_gdTT, r_gdFF, r_gdTF, r_gdFT, r_gqTT, r_gqFF, r_gqTF, r_gqFT, r_not, r_lss, r_leq, r_gtr, r_geq, r_eql, r_neq, r_add, r_sub, r_min2, r_max2, r_min3, r_max3, r_fa, r_iaS, r_iaA, r_ex2a, r_ex2b, r_ex3a, r_ex3b, r_ex3c, r_nc, r_keepE, Nat.zero_add, Nat.add_zero, Nat.mul_one, Int.toNat_natCast, toNat_sub1, toNat_add1, decide_true, decide_false, Bool.not_true, Bool.not_false, if_true, if_false, Bool.false_eq_true, reduceCtorEq]
  refine ⟨⟨q + 1, by omega, by go_num, ⟨_, hm7, fun c => ?_, fun c c' hcc k hk hk' => ?_⟩, ?_⟩, by simp only [intOf]; omega⟩
  · rw [grp_take hx]
    by_cases hc : c = x.2.1
    · subst hc
      rw [upd_same, if_pos rfl]
      have : IntsAt x2.heap.size z6 v' (grpL (L.take q) x.2.1 ++ [x.2.2.1]) := by
        unfold IntsAt RecAt
        rw [recCells_append, List.length_append]
        exact ho6
      refine this.chg c7 fun k hk e => ?_
      rcases hv6 k hk with h | h
      · have := (fb _ _ h).1; omega
      · omega
    · rw [upd_ne hc, if_neg (fun e => hc e.symm), List.append_nil]
      refine (((hf2 c).kp y5).chg c6' fun k hk e => fne c k hc hk e).chg c7 fun k hk e => ?_
      have := (fb _ _ hk).1; omega
  · by_cases hc : c = x.2.1
    · subst hc
      have hc' : c' ≠ x.2.1 := fun e => hcc e.symm
      rw [upd_same] at hk
      rw [upd_ne hc'] at hk'
      rcases hv6 k hk with h | h
      · exact fne c' k hc' hk' h
      · have := ((hf2 c').lt hk').2; omega
    · rw [upd_ne hc] at hk
      by_cases hc' : c' = x.2.1
      · subst hc'
        rw [upd_same] at hk'
        rcases hv6 k hk' with h | h
        · exact fne c k hc hk h
        · have := ((hf2 c).lt hk).2; omega
      · rw [upd_ne hc'] at hk'
        exact hf3 c c' hcc k hk hk'
  · have t : Chg (fun k => k = bm ∨ x2.heap.size ≤ k) x2 z7 := (((cq.mono fun k _ e => .inl e).trans (Chg.of_kp (Kp.trans v04 y5))).trans (c6'.mono fun k _ e => .inr (fb _ _ e).1)).trans (c7.mono fun k _ e => .inl e)
    exact t.mono fun k hk e => by
      rcases e with e | e
      · exact e
      · omega

end Go.Proofs.Ytgalbokmgffhkaa

/- Lifted texts, printed by program (gen.py): what each function's code asks. The ties are by the kernel. -/
namespace Go.Proofs.Ytgalbokmgffhkaa
open Go.Lf Go.RowKit

def S20L1 (t1 t3 t11 : Value) (next : Value → World → Prop) (R : Ending → World → Prop) (w : World) : Prop :=
  Loop1 (.int .i64 1) w fun _ t12 w next_2 =>
    binQ Try.prog w .leq 3 false t12 t1 fun t81 =>
    condW t81 (
      iaS 1 t3 t11 fun t86 =>
      ld1 w t86 fun t87 =>
      iaS 1 t87 t12 fun t89 =>
      ld1 w t89 fun t90 =>
      callW Try.prog (.func (.func 62) #[] #[]) [t90] w fun t91 w =>
      unQ .not t91 fun t92 =>
      condW t92 (
        R (.returned (.tuple #[(.bool false), (.int .i64 0)])) w
      ) (
        binQ Try.prog w .add 3 true t12 (.int .i64 1) fun t83 =>
        next_2 t83 w
      )
    ) (
      binQ Try.prog w .add 3 true t11 (.int .i64 1) fun t34 =>
      next t34 w
    )

def S20L3 (t3 t13 t107 : Value) (next_3 : Value → World → Prop) (R : Ending → World → Prop) (w : World) : Prop :=
  Loop1 (.int .i64 0) w fun _ t16 w next_4 =>
    ln1 t107 fun t111 =>
    binQ Try.prog w .lss 3 false t16 t111 fun t112 =>
    condW t112 (
      Drew w fun w =>
      iaS 1 t107 t16 fun t118 =>
      ld1 w t118 fun t119 =>
      iaS 1 t3 t13 fun t122 =>
      ld1 w t122 fun t123 =>
      iaS 1 t123 (.int .i64 0) fun t124 =>
      ld1 w t124 fun t125 =>
      callW Try.prog (.func (.func 63) #[] #[]) [t3, t119, t125] w fun t126 w =>
      unQ .not t126 fun t127 =>
      condW t127 (
        R (.returned (.tuple #[(.bool false), (.int .i64 0)])) w
      ) (
        binQ Try.prog w .add 3 true t16 (.int .i64 1) fun t114 =>
        next_4 t114 w
      )
    ) (
      binQ Try.prog w .add 3 true t13 (.int .i64 1) fun t98 =>
      next_3 t98 w
    )

def S20L4 (t2 t3 t130 : Value) (R : Ending → World → Prop) (w : World) : Prop :=
  Loop1 (.int .i64 0) w fun _ t18 w next_5 =>
    ln1 t130 fun t133 =>
    binQ Try.prog w .lss 3 false t18 t133 fun t134 =>
    condW t134 (
      iaS 1 t130 t18 fun t140 =>
      ld1 w t140 fun t141 =>
      callW Try.prog (.func (.func 63) #[] #[]) [t3, t141, t2] w fun t143 w =>
      unQ .not t143 fun t144 =>
      condW t144 (
        R (.returned (.tuple #[(.bool false), (.int .i64 0)])) w
      ) (
        binQ Try.prog w .add 3 true t18 (.int .i64 1) fun t136 =>
        next_5 t136 w
      )
    ) (
      R (.returned (.tuple #[(.bool true), (.int .i64 0)])) w
    )

def S20L2 (t0 t1 t2 t3 : Value) (R : Ending → World → Prop) (w : World) : Prop :=
  Loop1 (.int .i64 0) w fun _ t13 w next_3 =>
    ln1 t3 fun t95 =>
    binQ Try.prog w .lss 3 false t13 t95 fun t96 =>
    condW t96 (
      iaS 1 t3 t13 fun t103 =>
      ld1 w t103 fun t104 =>
      slS 1 t104 (some (.int .i64 1)) none fun t105 =>
      callW Try.prog (.func (.func 48) #[] #[]) [t0, t105] w fun t106 w =>
      exQ t106 0 fun t107 =>
      exQ t106 1 fun t108 =>
      S20L3 t3 t13 t107 next_3 R w
    ) (
      callW Try.prog (.func (.func 64) #[] #[]) [t0, t1] w fun t130 w =>
      S20L4 t2 t3 t130 R w
    )

def S20L0 (t0 t1 t2 t3 : Value) (R : Ending → World → Prop) (w : World) : Prop :=
  Loop1 (.int .i64 0) w fun _ t11 w next =>
    ln1 t3 fun t31 =>
    binQ Try.prog w .lss 3 false t11 t31 fun t32 =>
    condW t32 (
      Drew w fun w =>
      iaS 1 t3 t11 fun t37 =>
      ld1 w t37 fun t38 =>
      ln1 t38 fun t39 =>
      binQ Try.prog w .add 3 true t1 (.int .i64 1) fun t41 =>
      binQ Try.prog w .neq 3 false t39 t41 fun t42 =>
      gdQ t42 false (fun k => k t3) fun t44 =>
      gdQ t42 false (fun k => k t11) fun t45 =>
      gdQ t42 false (fun k => iaS 1 t44 t45 k) fun t46 =>
      gdQ t42 false (fun k => ld1 w t46 k) fun t47 =>
      gdQ t42 false (fun k => iaS 1 t47 (.int .i64 0) k) fun t48 =>
      gdQ t42 false (fun k => ld1 w t48 k) fun t49 =>
      gdQ t42 false (fun k => binQ Try.prog w .lss 3 true t49 (.int .i64 1) k) fun t50 =>
      pickQ t42 (.bool true) t50 fun t51 =>
      gdQ t51 false (fun k => k t3) fun t53 =>
      gdQ t51 false (fun k => k t11) fun t54 =>
      gdQ t51 false (fun k => iaS 1 t53 t54 k) fun t55 =>
      gdQ t51 false (fun k => ld1 w t55 k) fun t56 =>
      gdQ t51 false (fun k => iaS 1 t56 (.int .i64 0) k) fun t57 =>
      gdQ t51 false (fun k => ld1 w t57 k) fun t58 =>
      gdQ t51 false (fun k => k t2) fun t59 =>
      gdQ t51 false (fun k => binQ Try.prog w .geq 3 false t58 t59 k) fun t60 =>
      pickQ t51 (.bool true) t60 fun t61 =>
      gdQ t61 false (fun k => k t11) fun t63 =>
      gdQ t61 false (fun k => binQ Try.prog w .gtr 3 true t63 (.int .i64 0) k) fun t64 =>
      gdQ t61 false (fun k => k t64) fun t65 =>
      gdQ t65 true (fun k => k t3) fun t66 =>
      gdQ t65 true (fun k => k t11) fun t67 =>
      gdQ t65 true (fun k => binQ Try.prog w .sub 3 true t67 (.int .i64 1) k) fun t68 =>
      gdQ t65 true (fun k => iaS 1 t66 t68 k) fun t69 =>
      gdQ t65 true (fun k => ld1 w t69 k) fun t70 =>
      gdQ t65 true (fun k => k t3) fun t71 =>
      gdQ t65 true (fun k => k t11) fun t72 =>
      gdQ t65 true (fun k => iaS 1 t71 t72 k) fun t73 =>
      gdQ t65 true (fun k => ld1 w t73 k) fun t74 =>
      gd t65 true (fun k => callW Try.prog (.func (.func 61) #[] #[]) [t70, t74] w k) w <| keepB w fun t75 w =>
      gdQ t65 true (fun k => unQ .not t75 k) fun t76 =>
      gdQ t61 false (fun k => pickQ t65 t76 (.bool false) k) fun t77 =>
      pickQ t61 (.bool true) t77 fun t78 =>
      condW t78 (
        R (.returned (.tuple #[(.bool false), (.int .i64 0)])) w
      ) (
        S20L1 t1 t3 t11 next R w
      )
    ) (
      S20L2 t0 t1 t2 t3 R w
    )

def S20 (t0 t1 t2 t3 : Value) (w : World) (R : Ending → World → Prop) : Prop :=
  callW Try.prog (.func (.func 23) #[] #[]) [t0, t1, t2] w fun t22 w =>
  binQ Try.prog w .neq 26 true t22 (.int .i64 0) fun t24 =>
  condW t24 (
    R (.returned (.tuple #[(.bool false), t22])) w
  ) (
    ln1 t3 fun t27 =>
    binQ Try.prog w .gtr 3 true t27 (.int .i64 65535) fun t28 =>
    condW t28 (
      R (.returned (.tuple #[(.bool false), (.int .i64 3)])) w
    ) (
      S20L0 t0 t1 t2 t3 R w
    )
  )

def A20 : Ann where
  live := fun
    | 0 => [11]
    | 2 => [12]
    | 4 => [13]
    | 6 => [16]
    | 8 => [18]
    | _ => []
  wr := fun
    | 0 => fun i => (Nat.ble 8 i && Nat.ble i 9) || (Nat.ble 11 i && Nat.ble i 12) || (Nat.ble 29 i && Nat.ble i 92)
    | 2 => fun i => (Nat.ble 8 i && Nat.ble i 9) || Nat.beq i 12 || (Nat.ble 79 i && Nat.ble i 92)
    | 4 => fun i => (Nat.ble 8 i && Nat.ble i 9) || (Nat.ble 13 i && Nat.ble i 16) || (Nat.ble 93 i && Nat.ble i 127)
    | 6 => fun i => (Nat.ble 8 i && Nat.ble i 9) || Nat.beq i 16 || (Nat.ble 109 i && Nat.ble i 127)
    | 8 => fun i => (Nat.ble 8 i && Nat.ble i 9) || Nat.beq i 18 || (Nat.ble 131 i && Nat.ble i 144)
    | _ => fun _ => false
  sched := fun
    | 9 => (.take 0 (.take 1 (.take 2 (.take 3 (.take 4 (.take 5 (.take 6 (.take 7 (.take 8 (.take 9 (.take 10 (.take 11 (.take 12 (.take 13 (.take 14 (.take 15 (.take 16 (.take 17 (.take 18 (.take 19 (.take 20 (.take 21 (.take 22 (.take 23 (.take 24 (.take 25 (.take 26 (.take 27 (.take 28 (.take 29 (.take 30 (.take 31 (.take 32 (.take 33 (.take 34 (.take 35 (.take 36 (.take 37 (.take 38 (.take 39 (.eff 40 (.take 41 (.take 42 (.take 43 .done))))))))))))))))))))))))))))))))))))))))))))
    | 23 => (.take 0 (.take 1 (.take 2 (.take 3 (.take 4 (.take 5 (.take 6 (.take 7 (.take 8 (.take 9 (.take 10 (.bar 11 (.take 12 .done)))))))))))))
    | _ => .done

set_option maxRecDepth 100000 in
theorem ok20 : (codeOk Try.f20.ntmps A20 (Try.f20.body.getD .skip) 0 && Nat.ble 4 Try.f20.ntmps) = true := by kernel_rfl
set_option maxRecDepth 100000 in
theorem lift20 {t0 t1 t2 t3 : Value} {w : World} {R : Ending → World → Prop} (h : S20 t0 t1 t2 t3 w R) : Calls Try.prog 20 #[t0, t1, t2, t3] w R :=
  calls_of_cw (fn := Try.f20) (c := Try.f20.body.getD .skip) A20 mixes Try.func20 (by kernel_rfl) ok20
    ((by kernel_rfl : (S20 t0 t1 t2 t3 w R) = cw Try.prog A20 (Try.f20.body.getD .skip) 0 (bodyQ Try.prog Try.f20 R) (frOf #[t0, t1, t2, t3]) w).mp h)

def S48L0 (t0 t1 : Value) (R : Ending → World → Prop) (w : World) : Prop :=
  Loop1 (.int .i64 0) w fun _ t6 w next =>
    ln1 t1 fun t18 =>
    binQ Try.prog w .lss 3 false t6 t18 fun t19 =>
    condW t19 (
      iaS 1 t1 t6 fun t24 =>
      ld1 w t24 fun t25 =>
      callW Try.prog (.func (.func 62) #[] #[]) [t25] w fun t26 w =>
      unQ .not t26 fun t27 =>
      condW t27 (
        R (.returned (.tuple #[(.slice none 0 0), (.int .i64 2)])) w
      ) (
        binQ Try.prog w .add 3 true t6 (.int .i64 1) fun t21 =>
        next t21 w
      )
    ) (
      ln1 t1 fun t31 =>
      callW Try.prog (.func (.func 95) #[] #[]) [t0, t1, t31, (.slice none 0 0), (.int .i64 255)] w fun t32 w =>
      R (.returned (.tuple #[t32, (.int .i64 0)])) w
    )

def S48 (t0 t1 : Value) (w : World) (R : Ending → World → Prop) : Prop :=
  callW Try.prog (.func (.func 35) #[] #[]) [t0] w fun t8 w =>
  unQ .not t8 fun t9 =>
  gd t9 false (fun k => k t1 w) w fun t11 w =>
  gd t9 false (fun k => ln1 t11 fun v => k v w) w fun t12 w =>
  gd t9 false (fun k => callW Try.prog (.func (.func 68) #[] #[]) [t12] w k) w fun t13 w =>
  gd t9 false (fun k => unQ .not t13 fun v => k v w) w fun t14 w =>
  pickQ t9 (.bool true) t14 fun t15 =>
  condW t15 (
    R (.returned (.tuple #[(.slice none 0 0), (.int .i64 2)])) w
  ) (
    S48L0 t0 t1 R w
  )

def A48 : Ann where
  live := fun
    | 0 => [6]
    | _ => []
  wr := fun
    | 0 => fun i => (Nat.ble 4 i && Nat.ble i 6) || (Nat.ble 16 i && Nat.ble i 27)
    | _ => fun _ => false
  sched := fun _ => .done

set_option maxRecDepth 100000 in
theorem ok48 : (codeOk Try.f48.ntmps A48 (Try.f48.body.getD .skip) 0 && Nat.ble 2 Try.f48.ntmps) = true := by kernel_rfl
set_option maxRecDepth 100000 in
theorem lift48 {t0 t1 : Value} {w : World} {R : Ending → World → Prop} (h : S48 t0 t1 w R) : Calls Try.prog 48 #[t0, t1] w R :=
  calls_of_cw (fn := Try.f48) (c := Try.f48.body.getD .skip) A48 mixes Try.func48 (by kernel_rfl) ok48
    ((by kernel_rfl : (S48 t0 t1 w R) = cw Try.prog A48 (Try.f48.body.getD .skip) 0 (bodyQ Try.prog Try.f48 R) (frOf #[t0, t1]) w).mp h)

def S61L0 (t0 t1 : Value) (R : Ending → World → Prop) (w : World) : Prop :=
  Loop1 (.int .i64 0) w fun _ t5 w next =>
    ln1 t0 fun t8 =>
    binQ Try.prog w .lss 3 false t5 t8 fun t9 =>
    condW t9 (
      Drew w fun w =>
      iaS 1 t0 t5 fun t14 =>
      ld1 w t14 fun t15 =>
      iaS 1 t1 t5 fun t18 =>
      ld1 w t18 fun t19 =>
      binQ Try.prog w .neq 3 false t15 t19 fun t20 =>
      condW t20 (
        Drew w fun w =>
        iaS 1 t0 t5 fun t23 =>
        ld1 w t23 fun t24 =>
        iaS 1 t1 t5 fun t27 =>
        ld1 w t27 fun t28 =>
        binQ Try.prog w .lss 3 false t24 t28 fun t29 =>
        R (.returned t29) w
      ) (
        binQ Try.prog w .add 3 true t5 (.int .i64 1) fun t11 =>
        next t11 w
      )
    ) (
      R (.returned (.bool false)) w
    )



def S61 (t0 t1 : Value) (w : World) (R : Ending → World → Prop) : Prop :=
  S61L0 t0 t1 R w

def A61 : Ann where
  live := fun
    | 0 => [5]
    | _ => []
  wr := fun
    | 0 => fun i => (Nat.ble 4 i && Nat.ble i 29)
    | _ => fun _ => false
  sched := fun
    | 4 => (.take 0 (.take 1 (.take 2 (.take 3 (.take 4 (.take 5 (.take 6 (.take 7 (.take 8 .done)))))))))
    | 5 => (.take 0 (.take 1 (.take 2 (.take 3 (.take 4 (.take 5 (.take 6 (.take 7 (.take 8 (.take 9 .done))))))))))
    | _ => .done

set_option maxRecDepth 100000 in
theorem ok61 : (codeOk Try.f61.ntmps A61 (Try.f61.body.getD .skip) 0 && Nat.ble 2 Try.f61.ntmps) = true := by kernel_rfl
set_option maxRecDepth 100000 in
theorem lift61 {t0 t1 : Value} {w : World} {R : Ending → World → Prop} (h : S61 t0 t1 w R) : Calls Try.prog 61 #[t0, t1] w R :=
  calls_of_cw (fn := Try.f61) (c := Try.f61.body.getD .skip) A61 mixes Try.func61 (by kernel_rfl) ok61
    ((by kernel_rfl : (S61 t0 t1 w R) = cw Try.prog A61 (Try.f61.body.getD .skip) 0 (bodyQ Try.prog Try.f61 R) (frOf #[t0, t1]) w).mp h)

def S63L1 (t0 t1 t7 t23 : Value) (next : Value → World → Prop) (R : Ending → World → Prop) (w : World) : Prop :=
  Loop2 t23 (.int .i64 0) w fun _ t8 t9 w next_2 =>
    ln1 t1 fun t26 =>
    binQ Try.prog w .lss 3 false t9 t26 fun t27 =>
    gd t27 true (fun k => k t8 w) w fun t29 w =>
    pickQ t27 t29 (.bool false) fun t30 =>
    condW t30 (
      Drew w fun w =>
      iaS 1 t0 t7 fun t35 =>
      ld1 w t35 fun t36 =>
      binQ Try.prog w .add 3 true t9 (.int .i64 1) fun t38 =>
      iaS 1 t36 t38 fun t39 =>
      ld1 w t39 fun t40 =>
      iaS 1 t1 t9 fun t43 =>
      ld1 w t43 fun t44 =>
      binQ Try.prog w .eql 3 false t40 t44 fun t45 =>
      binQ Try.prog w .add 3 true t9 (.int .i64 1) fun t32 =>
      next_2 t45 t32 w
    ) (
      condW t8 (
        R (.returned (.bool true)) w
      ) (
        binQ Try.prog w .add 3 true t7 (.int .i64 1) fun t15 =>
        next t15 w
      )
    )

def S63L0 (t0 t1 t2 : Value) (R : Ending → World → Prop) (w : World) : Prop :=
  Loop1 (.int .i64 0) w fun _ t7 w next =>
    ln1 t0 fun t12 =>
    binQ Try.prog w .lss 3 false t7 t12 fun t13 =>
    condW t13 (
      iaS 1 t0 t7 fun t18 =>
      ld1 w t18 fun t19 =>
      iaS 1 t19 (.int .i64 0) fun t20 =>
      ld1 w t20 fun t21 =>
      binQ Try.prog w .lss 3 false t21 t2 fun t23 =>
      S63L1 t0 t1 t7 t23 next R w
    ) (
      R (.returned (.bool false)) w
    )



def S63 (t0 t1 t2 : Value) (w : World) (R : Ending → World → Prop) : Prop :=
  S63L0 t0 t1 t2 R w

def A63 : Ann where
  live := fun
    | 0 => [7]
    | 2 => [8, 9]
    | _ => []
  wr := fun
    | 0 => fun i => (Nat.ble 6 i && Nat.ble i 46)
    | 2 => fun i => (Nat.ble 8 i && Nat.ble i 9) || (Nat.ble 24 i && Nat.ble i 45)
    | _ => fun _ => false
  sched := fun
    | 8 => (.take 0 (.take 1 (.take 2 (.take 3 (.take 4 (.take 5 (.take 6 (.take 7 (.take 8 (.take 9 (.take 10 (.take 11 (.take 12 (.take 13 .done))))))))))))))
    | _ => .done

set_option maxRecDepth 100000 in
theorem ok63 : (codeOk Try.f63.ntmps A63 (Try.f63.body.getD .skip) 0 && Nat.ble 3 Try.f63.ntmps) = true := by kernel_rfl
set_option maxRecDepth 100000 in
theorem lift63 {t0 t1 t2 : Value} {w : World} {R : Ending → World → Prop} (h : S63 t0 t1 t2 w R) : Calls Try.prog 63 #[t0, t1, t2] w R :=
  calls_of_cw (fn := Try.f63) (c := Try.f63.body.getD .skip) A63 mixes Try.func63 (by kernel_rfl) ok63
    ((by kernel_rfl : (S63 t0 t1 t2 w R) = cw Try.prog A63 (Try.f63.body.getD .skip) 0 (bodyQ Try.prog Try.f63 R) (frOf #[t0, t1, t2]) w).mp h)

def S64 (t0 t1 : Value) (w : World) (R : Ending → World → Prop) : Prop :=
  callW Try.prog (.func (.func 95) #[] #[]) [t0, (.slice none 0 0), t1, (.slice none 0 0), (.int .i64 255)] w fun t7 w =>
  R (.returned t7) w

def A64 : Ann where
  live := fun _ => []
  wr := fun _ _ => false
  sched := fun _ => .done

set_option maxRecDepth 100000 in
theorem ok64 : (codeOk Try.f64.ntmps A64 (Try.f64.body.getD .skip) 0 && Nat.ble 2 Try.f64.ntmps) = true := by kernel_rfl
set_option maxRecDepth 100000 in
theorem lift64 {t0 t1 : Value} {w : World} {R : Ending → World → Prop} (h : S64 t0 t1 w R) : Calls Try.prog 64 #[t0, t1] w R :=
  calls_of_cw (fn := Try.f64) (c := Try.f64.body.getD .skip) A64 mixes Try.func64 (by kernel_rfl) ok64
    ((by kernel_rfl : (S64 t0 t1 w R) = cw Try.prog A64 (Try.f64.body.getD .skip) 0 (bodyQ Try.prog Try.f64 R) (frOf #[t0, t1]) w).mp h)

def S95L1 (t0 t1 t2 t3 t4 t12 t13 t18 : Value) (next : Value → Value → World → Prop) (w : World) : Prop :=
  Loop2 (.int .i64 0) (.int .i64 0) w fun _ t14 t15 w next_2 =>
    ln1 t0 fun t32 =>
    binQ Try.prog w .lss 3 false t15 t32 fun t33 =>
    condW t33 (
      Drew w fun w =>
      iaS 4 t0 t15 fun t38 =>
      fa1 t38 2 fun t39 =>
      ld1 w t39 fun t40 =>
      binQ Try.prog w .eql 3 false t40 t13 fun t42 =>
      gdQ t42 true (fun k => k t4) fun t44 =>
      gdQ t42 true (fun k => k t0) fun t45 =>
      gdQ t42 true (fun k => k t15) fun t46 =>
      gdQ t42 true (fun k => iaS 4 t45 t46 k) fun t47 =>
      gdQ t42 true (fun k => fa1 t47 3 k) fun t48 =>
      gdQ t42 true (fun k => ld1 w t48 k) fun t49 =>
      gdQ t42 true (fun k => binQ Try.prog w .shr 3 false t44 t49 k) fun t50 =>
      gdQ t42 true (fun k => binQ Try.prog w .rem 3 true t50 (.int .i64 2) k) fun t51 =>
      gdQ t42 true (fun k => binQ Try.prog w .eql 3 true t51 (.int .i64 1) k) fun t52 =>
      pickQ t42 t52 (.bool false) fun t53 =>
      gdQ t53 true (fun k => k t1) fun t55 =>
      gdQ t53 true (fun k => binQ Try.prog w .eql 30 true t55 (.slice none 0 0) k) fun t56 =>
      gdQ t53 true (fun k => k t56) fun t57 =>
      gdQ t57 false (fun k => k t0) fun t58 =>
      gdQ t57 false (fun k => k t15) fun t59 =>
      gdQ t57 false (fun k => iaS 4 t58 t59 k) fun t60 =>
      gdQ t57 false (fun k => fa1 t60 0 k) fun t61 =>
      gdQ t57 false (fun k => ld1 w t61 k) fun t62 =>
      gdQ t57 false (fun k => k t1) fun t63 =>
      gdQ t57 false (fun k => k t18) fun t64 =>
      gdQ t57 false (fun k => iaS 1 t63 t64 k) fun t65 =>
      gdQ t57 false (fun k => ld1 w t65 k) fun t66 =>
      gdQ t57 false (fun k => binQ Try.prog w .eql 3 false t62 t66 k) fun t67 =>
      gdQ t53 true (fun k => pickQ t57 (.bool true) t67 k) fun t68 =>
      pickQ t53 t68 (.bool false) fun t69 =>
      Join (fun (k_2 : Value → World → Prop) =>
        condW t69 (
          iaS 4 t0 t15 fun t73 =>
          fa1 t73 1 fun t74 =>
          ld1 w t74 fun t75 =>
          binQ Try.prog w .shl 3 true (.int .i64 1) t75 fun t76 =>
          binQ Try.prog w .or 3 false t14 t76 fun t77 =>
          k_2 t77 w
        ) (
          k_2 t14 w
        )
      ) fun t14_2 w =>
      binQ Try.prog w .add 3 true t15 (.int .i64 1) fun t35_2 =>
      next_2 t14_2 t35_2 w
    ) (
      binQ Try.prog w .neq 3 true t14 (.int .i64 0) fun t79 =>
      Join (fun (k_3 : Value → World → Prop) =>
        condW t79 (
          semW Try.prog (apS [30, 30] 30 [(.slice none 0 0), t3]) w fun t82 w =>
          bsW Try.prog 30 1 [(0, t13)] w fun t89 w =>
          semW Try.prog (apS [30, 30] 30 [t82, t89]) w fun t90 w =>
          callW Try.prog (.func (.func 95) #[] #[]) [t0, t1, t2, t90, t14] w fun t92 w =>
          semW Try.prog (apS [23, 23] 23 [t12, t92]) w fun t93 w =>
          k_3 t93 w
        ) (
          k_3 t12 w
        )
      ) fun t12_2 w =>
      binQ Try.prog w .add 3 true t13 (.int .i64 1) fun t29_2 =>
      next t12_2 t29_2 w
    )

def S95L0 (t0 t1 t2 t3 t4 t18 : Value) (R : Ending → World → Prop) (w : World) : Prop :=
  Loop2 (.slice none 0 0) (.int .i64 0) w fun _ t12 t13 w next =>
    binQ Try.prog w .leq 3 true t13 (.int .i64 7) fun t27 =>
    condW t27 (
      S95L1 t0 t1 t2 t3 t4 t12 t13 t18 next w
    ) (
      R (.returned t12) w
    )

def S95 (t0 t1 t2 t3 t4 : Value) (w : World) (R : Ending → World → Prop) : Prop :=
  ln1 t3 fun t18 =>
  binQ Try.prog w .eql 3 false t18 t2 fun t21 =>
  condW t21 (
    bsW Try.prog 30 0 [] w fun t22 w =>
    semW Try.prog (apS [30, 30] 30 [t22, t3]) w fun t24 w =>
    bsW Try.prog 23 1 [(0, t24)] w fun t25 w =>
    R (.returned t25) w
  ) (
    S95L0 t0 t1 t2 t3 t4 t18 R w
  )

def A95 : Ann where
  live := fun
    | 0 => [12, 13]
    | 2 => [14, 15]
    | _ => []
  wr := fun
    | 0 => fun i => (Nat.ble 12 i && Nat.ble i 16) || (Nat.ble 26 i && Nat.ble i 93)
    | 2 => fun i => (Nat.ble 14 i && Nat.ble i 15) || (Nat.ble 30 i && Nat.ble i 77)
    | _ => fun _ => false
  sched := fun
    | 12 => (.take 0 (.take 1 (.take 2 (.take 3 (.take 4 (.take 5 (.take 6 (.take 7 (.take 8 (.take 9 (.take 10 (.take 11 (.take 12 (.take 13 (.take 14 (.take 15 (.take 16 (.take 17 (.take 18 (.take 19 (.take 20 (.take 21 (.take 22 (.take 23 (.take 24 (.take 25 (.take 26 (.take 27 (.take 28 (.take 29 (.take 30 (.take 31 (.take 32 (.take 33 .done))))))))))))))))))))))))))))))))))
    | _ => .done

set_option maxRecDepth 100000 in
theorem ok95 : (codeOk Try.f95.ntmps A95 (Try.f95.body.getD .skip) 0 && Nat.ble 5 Try.f95.ntmps) = true := by kernel_rfl
set_option maxRecDepth 100000 in
theorem lift95 {t0 t1 t2 t3 t4 : Value} {w : World} {R : Ending → World → Prop} (h : S95 t0 t1 t2 t3 t4 w R) : Calls Try.prog 95 #[t0, t1, t2, t3, t4] w R :=
  calls_of_cw (fn := Try.f95) (c := Try.f95.body.getD .skip) A95 mixes Try.func95 (by kernel_rfl) ok95
    ((by kernel_rfl : (S95 t0 t1 t2 t3 t4 w R) = cw Try.prog A95 (Try.f95.body.getD .skip) 0 (bodyQ Try.prog Try.f95 R) (frOf #[t0, t1, t2, t3, t4]) w).mp h)

theorem fok20 : fnOk Try.prog 20 = true := by kernel_rfl
theorem fok48 : fnOk Try.prog 48 = true := by kernel_rfl
theorem fok61 : fnOk Try.prog 61 = true := by kernel_rfl
theorem fok63 : fnOk Try.prog 63 = true := by kernel_rfl
theorem fok64 : fnOk Try.prog 64 = true := by kernel_rfl
theorem fok95 : fnOk Try.prog 95 = true := by kernel_rfl
end Go.Proofs.Ytgalbokmgffhkaa
