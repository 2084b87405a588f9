/- Texts of my own, merged by program: B7n B8 Sf. -/
import Derived.Test.YtgalbokmgffhkaaN10
import Derived.Shelf.SlSortCmp.NoneTotal
import Derived.Test.YtgalbokmgffhkaaN03
set_option linter.all false
/- The program's sort of lists, where there are none. -/
namespace Go.Proofs.Ytgalbokmgffhkaa
open Go.Lf Go.RowKit Go.Wg Go.Shelf Go.Proofs

theorem sortR0_calls {base : Nat} {v : Value} {w : World} (fv : Value) (h : IRows base w v []) : Calls Try.prog 84 #[v, fv] w fun e w' => e = .returned (.tuple #[]) ∧ w' = w := by
  obtain ⟨vs, h1, h2, _⟩ := h
  obtain ⟨a, cap, e, _⟩ := h1.len
  rw [h2] at e
  subst e
  have hcon := AnyF.slices_SortFunc_none (ρ := sortR_ren) { sortR with } a cap fv w
  change Calls Try.prog 84 _ _ _ at hcon
  exact hcon

/-- Reading stays while other blocks turn (none at all are read where there is nothing). -/
theorem Rd.chg0 {α : Type} {m : Nat} {enc : α → List Value} {S : Nat → Prop} {w w' : World} {v : Value} {l : List α} (h : Rd m enc w v l) (hc : Chg S w w') (hs : 0 < l.length → ∀ b off n cap, v = .slice (some ⟨b, off, none⟩) n cap → ¬ S b) : Rd m enc w' v l := by
  obtain ⟨a, cap, rfl, hl, hh⟩ := h
  refine ⟨a, cap, rfl, hl, fun h0 => ?_⟩
  obtain ⟨b, off, rfl, hcell⟩ := hh h0
  exact ⟨b, off, rfl, fun i x hi j u hu => hc.cell (hcell i x hi j u hu) (hs h0 _ _ _ _ rfl)⟩

end Go.Proofs.Ytgalbokmgffhkaa

/- Contract: Refute of the program. -/
namespace Go.Proofs.Ytgalbokmgffhkaa
open Go.Lf Go.RowKit Go.Wg

/-- The list that Refute returns, where nothing is alive. -/
def RefuteOut (L : List Line) (a h : Nat) (out : List (List Int)) : Prop :=
  ∃ (kO : Nat → Nat) (new : List Nat), (∀ i, i < 8 ^ a → 1 ≤ kO i ∧ kO i ≤ h ∧ (alvL L (8 ^ a) (kO i)).getD i false = false ∧ ∀ j, 1 ≤ j → j < kO i → (alvL L (8 ^ a) j).getD i false = true) ∧
    out.Perm (new.map (rowOf kO a)) ∧ out.Pairwise (fun x y => ¬ cmpL y x < 0) ∧ new.Nodup ∧ (∀ x ∈ L, x.2.2.1.toNat ∈ new) ∧ (∀ i ∈ new, ∀ s ∈ grpL L (i : Nat), s.toNat ∈ new) ∧ ∀ i ∈ new, ∃ x ∈ L, x.2.2.1 = (i : Nat)

def RefutePost (l : List Tile) (a b : Int) (base : Nat) (w' : World) (e : Ending) : Prop :=
  (ordErr l a b ≠ 0 ∧ e = .returned (.tuple #[nilS, .int .i64 2])) ∨ (ordErr l a b = 0 ∧ (alvL (linesL l a.toNat) (8 ^ a.toNat) b.toNat).any id = true ∧ e = .returned (.tuple #[nilS, .int .i64 10])) ∨
    (ordErr l a b = 0 ∧ (alvL (linesL l a.toNat) (8 ^ a.toNat) b.toNat).any id = false ∧ ∃ ov out, e = .returned (.tuple #[ov, .int .i64 0]) ∧ IRows base w' ov out ∧ RefuteOut (linesL l a.toNat) a.toNat b.toNat out)

theorem height_of {L : List Line} {N h i : Nat} (hi : i < N) (hd : (alvL L N h).any id = false) : ∃ k, 1 ≤ k ∧ k ≤ h ∧ (alvL L N k).getD i false = false ∧ ∀ j, 1 ≤ j → j < k → (alvL L N j).getD i false = true := by
  have hh : (alvL L N h).getD i false = false := by
    cases hg : (alvL L N h).getD i false with
    | false => rfl
    | true =>
      have hl := alvL_len L N h
      have : (alvL L N h).any id = true := List.any_eq_true.2 ⟨true, by rw [← hg]; exact getD_mem (by omega), rfl⟩
      rw [this] at hd; cases hd
  have h1 : 1 ≤ h := by
    refine Nat.pos_of_ne_zero fun e => ?_
    subst e
    simp [alvL, List.getD_eq_getElem?_getD, hi] at hh
  -- the least one
  have key : ∀ d, d < h → (∀ j, 1 ≤ j → j < d + 1 → (alvL L N j).getD i false = true) ∨ ∃ k, 1 ≤ k ∧ k ≤ h ∧ (alvL L N k).getD i false = false ∧ ∀ j, 1 ≤ j → j < k → (alvL L N j).getD i false = true := by
    intro d
    induction d with
    | zero => intro _; exact .inl fun j h1 h2 => absurd h1 (by omega)
    | succ d ih =>
      intro hd'
      rcases ih (by omega) with h | h
      · cases hg : (alvL L N (d + 1)).getD i false with
        | true =>
          refine .inl fun j h1 h2 => ?_
          by_cases e : j = d + 1
          · rw [e]; exact hg
          · exact h j h1 (by omega)
        | false => exact .inr ⟨d + 1, by omega, by omega, hg, h⟩
      · exact .inr h
  rcases key (h - 1) (by omega) with hk | hk
  · exact ⟨h, h1, Nat.le_refl _, hh, fun j h1 h2 => hk j h1 (by omega)⟩
  · exact hk

theorem fok84' : fnOk Try.prog 84 = true := by kernel_rfl
theorem IRows.down {base base' : Nat} {w : World} {v : Value} {R : List (List Int)} (h : IRows base w v R) (hb : base' ≤ base) : IRows base' w v R :=
  let ⟨vs, h1, h2, h3⟩ := h; ⟨vs, h1.down hb, h2, fun i u r hu hr => (h3 i u r hu hr).down hb⟩

theorem BRows.chg' {S : Nat → Prop} {base : Nat} {w w' : World} {v : Value} {R : List (List Bool)} (h : BRows base w v R) (hc : Chg S w w') (hs : ∀ k, (∃ e cur, w.heap[k]? = some (.cells cur e (0, 0))) → ¬ S k) : BRows base w' v R :=
  let ⟨vs, h1, h2, h3⟩ := h; ⟨vs, h1.chg hc fun k hk => hs k (let ⟨cur, hcur⟩ := own_type h1 hk; ⟨_, cur, hcur⟩), h2, fun i u r hu hr => (h3 i u r hu hr).chg hc fun k hk => hs k (let ⟨cur, hcur⟩ := own_type (h3 i u r hu hr) hk; ⟨_, cur, hcur⟩)⟩

set_option maxRecDepth 100000 in
set_option maxHeartbeats 1000000 in
theorem refute_calls {v : Value} {l : List Tile} (a b : Int) (w : World) (hr : RdT w v l) : Calls Try.prog 32 #[v, .int .i64 a, .int .i64 b] w fun e w' => Kp w w' ∧ RefutePost l a b w.heap.size w' e := by
  refine lift32 ?_
  unfold S32
  refine r_box fun b4 w1 e4 s4 h4 k1 => ?_
  have c4 : w1.cell? ⟨b4, 0, none⟩ = some (.int .i64 a) := by rw [cell_row h4]; rfl
  rw [r_ld c4]
  refine r_use fok53 (board_calls a b w1 (hr.kp k1)) rfl ?_
  rintro _ w2 ⟨rfl, k2⟩
  refine ⟨_, rfl, ?_⟩
  have k02 := Kp.trans k1 k2
  have h20 : ¬ ((2 : Int) = 0) := by decide
  rcases ordErr_cases l a b with he | he
  rotate_left
  · simp (disch := omega) only [r_ln, r_pick, r_pickT, r_pickF, r_condT, r_condF, r_gdTT, r_gdFF, r_gdTF, r_gdFT, r_gqTT, r_gqFF, r_gqTF, r_gqFT, r_not, r_lss, r_leq, r_gtr, r_geq, r_eql, r_neq, r_add, r_sub, r_min2, r_max2, r_min3, r_max3, r_fa, r_iaS, r_iaA, r_ex2a, r_ex2b, r_ex3a, r_ex3b, r_ex3c, r_nc, r_keepE, Nat.zero_add, Nat.add_zero, Nat.mul_one, Int.toNat_natCast, toNat_sub1, toNat_add1, decide_true, decide_false, Bool.not_true, Bool.not_false, if_true, if_false, Bool.false_eq_true, reduceCtorEq, he, h20]
    exact ⟨k02, .inl ⟨by rw [he]; decide, rfl⟩⟩
  obtain ⟨hs, W, H, rfl, rfl, hW, hH⟩ := ord_ok he
  have h42 := block_below h4 k2
  have c42 := cell_later k2 c4
  simp (disch := omega) only [r_ln, r_pick, r_pickT, r_pickF, r_condT, r_condF, r_gdTT, r_gdFF, r_gdTF, r_gdFT, r_gqTT, r_gqFF, r_gqTF, r_gqFT, r_not, r_lss, r_leq, r_gtr, r_geq, r_eql, r_neq, r_add, r_sub, r_min2, r_max2, r_min3, r_max3, r_fa, r_iaS, r_iaA, r_ex2a, r_ex2b, r_ex3a, r_ex3b, r_ex3c, r_nc, r_keepE, Nat.zero_add, Nat.add_zero, Nat.mul_one, Int.toNat_natCast, toNat_sub1, toNat_add1, decide_true, decide_false, Bool.not_true, Bool.not_false, if_true, if_false, Bool.false_eq_true, reduceCtorEq, he, decide_eq_true (rfl : (0 : Int) = 0), r_ld c42]
  refine r_use fok59 (rows_calls hs hW w2 (hr.kp k02)) rfl ?_
  rintro _ w3 ⟨lv, rfl, k3, hL⟩
  refine ⟨_, rfl, ?_⟩
  change LnAt _ _ _ (linesL l W) at hL
  have hlo := lines_ok hs hW.2
  have hll := lines_len hs hW.2
  have hrdL := hL.rd lnC_len
  have c43 := cell_later k3 c42
  rw [r_ld c43]
  refine r_use fok76 (alive_calls (h := H) w3 hW (by omega) hrdL hlo (by omega)) rfl ?_
  rintro _ w4 ⟨av, rfl, k4, hA⟩
  refine ⟨_, rfl, ?_⟩
  obtain ⟨aa, acap, rfl, hac⟩ := hA.len
  refine r_box fun b10 w5 e10 s10 h10 k5 => ?_
  refine r_stAll (n := 1) (ty := 88) (cs := #[nilS]) (by kernel_rfl) rfl (by intro u hu; simp [Value.cells] at hu; subst hu; rfl) h10 rfl fun w6 c6 s6 h106 => ?_
  have k46 : Kp w4 w6 := Kp.of_chg k5 c6 fun i e => by omega
  have k06 := Kp.trans k02 (Kp.trans k3 (Kp.trans k4 k46))
  have hpl := alvL_len (linesL l W) (8 ^ W) H
  obtain ⟨ob, oo, _, u, eo, ocell, hu⟩ := (hA.kp k46).row (i := H) (r := alvL (linesL l W) (8 ^ W) H) (by rw [List.getElem?_map, List.getElem?_range (by omega)]; rfl)
  cases eo
  have c10 : w6.cell? ⟨b10, 0, none⟩ = some (.slice (some ⟨ob, oo, none⟩) ((List.range (H + 1)).map (alvL (linesL l W) (8 ^ W))).length acap) := by rw [cell_row h106]; rfl
  have hrl : ((List.range (H + 1)).map (alvL (linesL l W) (8 ^ W))).length = H + 1 := by simp
  rw [hrl] at c10
  have h8 := pow8N_le hW.2
  simp (disch := omega) only [r_ln, r_pick, r_pickT, r_pickF, r_condT, r_condF, r_gdTT, r_gdFF, r_gdTF, r_gdFT, r_gqTT, r_gqFF, r_gqTF, r_gqFT, r_not, r_lss, r_leq, r_gtr, r_geq, r_eql, r_neq, r_add, r_sub, r_min2, r_max2, r_min3, r_max3, r_fa, r_iaS, r_iaA, r_ex2a, r_ex2b, r_ex3a, r_ex3b, r_ex3c, r_nc, r_keepE, Nat.zero_add, Nat.add_zero, Nat.mul_one, Int.toNat_natCast, toNat_sub1, toNat_add1, decide_true, decide_false, Bool.not_true, Bool.not_false, if_true, if_false, Bool.false_eq_true, reduceCtorEq, r_ld c10, r_ld ocell]
  refine r_use fok81 (containsB_calls w6 (hu.rd bC_len) (by omega)) rfl ?_
  rintro _ w7 ⟨rfl, k7⟩
  refine ⟨_, rfl, ?_⟩
  have k07 := Kp.trans k06 k7
  cases hany : (alvL (linesL l W) (8 ^ W) H).any id with
  | true =>
    simp (disch := omega) only [r_ln, r_pick, r_pickT, r_pickF, r_condT, r_condF, r_gdTT, r_gdFF, r_gdTF, r_gdFT, r_gqTT, r_gqFF, r_gqTF, r_gqFT, r_not, r_lss, r_leq, r_gtr, r_geq, r_eql, r_neq, r_add, r_sub, r_min2, r_max2, r_min3, r_max3, r_fa, r_iaS, r_iaA, r_ex2a, r_ex2b, r_ex3a, r_ex3b, r_ex3c, r_nc, r_keepE, Nat.zero_add, Nat.add_zero, Nat.mul_one, Int.toNat_natCast, toNat_sub1, toNat_add1, decide_true, decide_false, Bool.not_true, Bool.not_false, if_true, if_false, Bool.false_eq_true, reduceCtorEq]
    exact ⟨k07, .inr (.inl ⟨he, hany, rfl⟩)⟩
  | false =>
  have hkO : ∃ kO : Nat → Nat, ∀ i, i < 8 ^ W → 1 ≤ kO i ∧ kO i ≤ H ∧ (alvL (linesL l W) (8 ^ W) (kO i)).getD i false = false ∧ ∀ j, 1 ≤ j → j < kO i → (alvL (linesL l W) (8 ^ W) j).getD i false = true :=
    ⟨fun i => if hi : i < 8 ^ W then Classical.choose (height_of hi hany) else 0, fun i hi => by
      simp only [hi, dif_pos]
      exact Classical.choose_spec (height_of hi hany)⟩
  obtain ⟨kO, hkO⟩ := hkO
  have outP : ∀ (w' : World) (ov : Value) (out : List (List Int)), IRows w.heap.size w' ov out → RefuteOut (linesL l W) W H out → RefutePost l W H w.heap.size w' (.returned (.tuple #[ov, .int .i64 0])) := fun w' ov out q1 q2 => .inr (.inr ⟨he, hany, ov, out, rfl, q1, q2⟩)
  simp (disch := omega) only [r_ln, r_pick, r_pickT, r_pickF, r_condT, r_condF, r_gdTT, r_gdFF, r_gdTF, r_gdFT, r_gqTT, r_gqFF, r_gqTF, r_gqFT, r_not, r_lss, r_leq, r_gtr, r_geq, r_eql, r_neq, r_add, r_sub, r_min2, r_max2, r_min3, r_max3, r_fa, r_iaS, r_iaA, r_ex2a, r_ex2b, r_ex3a, r_ex3b, r_ex3c, r_nc, r_keepE, Nat.zero_add, Nat.add_zero, Nat.mul_one, Int.toNat_natCast, toNat_sub1, toNat_add1, decide_true, decide_false, Bool.not_true, Bool.not_false, if_true, if_false, Bool.false_eq_true, reduceCtorEq]
  have h107 := block_below h106 k7
  have h47 := block_below h42 (Kp.trans k3 (Kp.trans k4 (Kp.trans k46 k7)))
  have hrd7 := hrdL.kp (Kp.trans k4 (Kp.trans k46 k7))
  have hA7 := hA.kp (Kp.trans k46 k7)
  generalize linesL l W = L at *
  refine r_box fun b11 w8 e11 s11 h11 k8 => ?_
  simp only [mmW]
  have mg := map_new w8 nilS
  have kg : Kp w8 (w8.alloc (.map #[] 0)) := below_alloc _
  have sg : (w8.alloc (.map #[] 0)).heap.size = w8.heap.size + 1 := by show (w8.heap.push _).size = _; simp
  generalize hbm : w8.heap.size = bm at *
  generalize w8.alloc (.map #[] 0) = w9 at *
  refine r_box fun b12 x1 e12 s12 h12 y1 => ?_
  refine r_stAll (n := 1) (ty := 75) (cs := #[.map none]) (by kernel_rfl) rfl (by intro u hu; simp [Value.cells] at hu; subst hu; rfl) h12 rfl fun x2 d2 s2 h122 => ?_
  have y2 : Kp w9 x2 := Kp.of_chg y1 d2 fun i e => by omega
  have k79 : Kp w7 x2 := Kp.trans k8 (Kp.trans kg y2)
  obtain ⟨la, lcap, rfl, hlc⟩ := hrdL.len
  have ikey : ∀ x ∈ L, IKey x.2.1 ∧ IKey x.2.2.1 := fun x hx => by
    obtain ⟨⟨x1, x2⟩, x3, x4⟩ := hlo x hx
    have e8 : ((8 ^ W : Nat) : Int) ≤ 4096 := by exact_mod_cast h8
    exact ⟨⟨by omega, by omega⟩, by omega, by omega⟩
  have sx2 := y2.size
  simp only [r_ln, r_pick, r_pickT, r_pickF, r_condT, r_condF, r_gdTT, r_gdFF, r_gdTF, r_gdFT, r_gqTT, r_gqFF, r_gqTF, r_gqFT, r_not, r_lss, r_leq, r_gtr, r_geq, r_eql, r_neq, r_add, r_sub, r_min2, r_max2, r_min3, r_max3, r_fa, r_iaS, r_iaA, r_ex2a, r_ex2b, r_ex3a, r_ex3b, r_ex3c, r_nc, r_keepE, Nat.zero_add, Nat.add_zero, Nat.mul_one, Int.toNat_natCast, toNat_sub1, toNat_add1, decide_true, decide_false, Bool.not_true, Bool.not_false, if_true, if_false, Bool.false_eq_true, reduceCtorEq]
  refine ⟨fun t41 wq => ∃ q : Nat, q ≤ L.length ∧ t41 = .int .i64 q ∧ GrpAt x2.heap.size wq bm (grpL (L.take q)) ∧ Chg (fun k => k = bm) x2 wq, fun t41 _ => L.length - (intOf t41).toNat,
    ⟨0, by omega, rfl, ⟨_, mg.kp y2, fun c => by simp only [grpL, List.take_zero, List.filter_nil, List.map_nil]; exact RecAt.nil, fun c c' _ k h => by cases h⟩, Chg.refl _ _⟩, ?_⟩
  rintro _ _ wq ⟨q, hq, rfl, hgq, cq⟩
  have sq := cq.size
  have kwq : Kp w wq := Kp.of_chg (Kp.trans k07 k79) cq fun k e => by have := k07.size; have := k8.size; omega
  have h12q : wq.heap[b12]? = some (.cells #[.map (some bm)] 75 (0, 0)) := cq.at h122 (by omega)
  have hrdq : RdL wq (.slice la L.length lcap) L := (hrd7.kp k79).chg0 cq fun hL0 b off n cap e => by
    have := (hrd7.kp (Kp.trans k8 kg)).block (fun x => by rw [lnC_len]; omega) e hL0
    have hb7 := hrd7.block (fun x => by rw [lnC_len]; omega) e hL0
    have := k8.size
    omega
  by_cases hql : q < L.length
  case neg =>
    have hql' : ¬ (q : Int) < (L.length : Int) := by omega
    rw [List.take_of_length_le (by omega)] at hgq
    have h4q : wq.heap[b4]? = some (.cells #[.int .i64 W] 3 (0, 0)) := cq.at (block_below h47 k79) (by have := block_lt h47; have := k8.size; omega)
    have h10q : wq.heap[b10]? = some (.cells #[.slice (some ⟨ob, oo, none⟩) ((List.range (H + 1)).map (alvL L (8 ^ W))).length acap] 88 (0, 0)) := cq.at (block_below h107 k79) (by have := block_lt h107; have := k8.size; omega)
    have h11q : wq.heap[b11]? = some (.cells #[nilS] 23 (0, 0)) := cq.at (block_below h11 (Kp.trans kg y2)) (by omega)
    have c4q : wq.cell? ⟨b4, 0, none⟩ = some (.int .i64 W) := by rw [cell_row h4q]; rfl
    have hAq := BRows.chg' (hA7.kp k79) cq fun k hk e => by
      obtain ⟨e', cur, hcur⟩ := hk
      obtain ⟨_, _, hbk, _⟩ := mg.kp y2
      rw [e, hbk] at hcur
      cases hcur
    have hmq : GrpAt x2.heap.size wq bm (grpL L) := hgq
    simp (disch := omega) only [r_ln, r_pick, r_pickT, r_pickF, r_condT, r_condF, r_gdTT, r_gdFF, r_gdTF, r_gdFT, r_gqTT, r_gqFF, r_gqTF, r_gqFT, r_not, r_lss, r_leq, r_gtr, r_geq, r_eql, r_neq, r_add, r_sub, r_min2, r_max2, r_min3, r_max3, r_fa, r_iaS, r_iaA, r_ex2a, r_ex2b, r_ex3a, r_ex3b, r_ex3c, r_nc, r_keepE, Nat.zero_add, Nat.add_zero, Nat.mul_one, Int.toNat_natCast, toNat_sub1, toNat_add1, decide_true, decide_false, Bool.not_true, Bool.not_false, if_true, if_false, Bool.false_eq_true, reduceCtorEq, hql', r_ld c4q]
    refine r_use fok73 (codes_calls wq hW.2) rfl ?_
    rintro _ _ ⟨rfl, rfl⟩
    refine ⟨_, rfl, ?_⟩
    refine mk91 (by omega) fun nv z1 hnv kz1 hnvb => ?_
    obtain ⟨na, ncap, rfl, _⟩ := hnv.len
    refine r_box fun b15 z2 e15 s15 h15 kz2 => ?_
    refine r_stAll (n := 1) (ty := 91) (cs := #[nilS]) (by kernel_rfl) rfl (by intro u hu; simp [Value.cells] at hu; subst hu; rfl) h15 rfl fun z3 d3 t3 h153 => ?_
    have kz3 : Kp z1 z3 := Kp.of_chg kz2 d3 fun i e => by omega
    refine r_box fun b16 z4 e16 s16 h16 kz4 => ?_
    refine r_stAll (n := 1) (ty := 96) (cs := #[.nilFunc]) (by kernel_rfl) rfl (by intro u hu; simp [Value.cells] at hu; subst hu; rfl) h16 rfl fun z5 d5 t5 h165 => ?_
    have kz5 : Kp z3 z5 := Kp.of_chg kz4 d5 fun i e => by omega
    have kq5 : Kp wq z5 := Kp.trans kz1 (Kp.trans kz3 kz5)
    have sz1 := kz1.size
    have szz3 := kz3.size
    have b11q := block_lt h11q
    have sk8 := k8.size
    have C : NmCtx L W H (8 ^ W) kO wq b15 b10 b11 b4 b12 b16 bm w3.heap.size (.slice na (List.replicate (8 ^ W) false).length ncap) (.slice (some ⟨ob, oo, none⟩) ((List.range (H + 1)).map (alvL L (8 ^ W))).length acap) :=
      ⟨hW, rfl, hlo, hll, by omega, h4q, h10q, hAq, h12q, ⟨_, hmq⟩, by have := block_lt h47; omega, by have := block_lt h107; omega, by omega, by omega, ⟨_, h11q⟩, hkO⟩
    have hrepl : ∀ i, (List.replicate (8 ^ W) false).getD i false = false := fun i => by
      rw [List.getD_eq_getElem?_getD, List.getElem?_replicate]
      split <;> rfl
    have S0 : NmSt L W (8 ^ W) kO wq b15 b10 b11 b4 b12 b16 (.slice na (List.replicate (8 ^ W) false).length ncap) z5 (List.replicate (8 ^ W) false) nilS [] :=
      ⟨Chg.of_kp kq5, d5.at (block_below h153 kz4) (by have := block_lt h153; omega), h165, hnv.kp (Kp.trans kz3 kz5), List.length_replicate, block_below h11q kq5, ⟨[], RecAt.nil, rfl, fun i u r h => by simp at h⟩, by omega, by have := kz3.size; omega⟩
    try simp only [r_ln, r_pick, r_pickT, r_pickF, r_condT, r_condF, r_gdTT, r_gdFF, r_gdTF, r_gdFT, r_gqTT, r_gqFF, r_gqTF, r_gqFT, r_not, r_lss, r_leq, r_gtr, r_geq, r_eql, r_neq, r_add, r_sub, r_min2, r_max2, r_min3, r_max3, r_fa, r_iaS, r_iaA, r_ex2a, r_ex2b, r_ex3a, r_ex3b, r_ex3c, r_nc, r_keepE, Nat.zero_add, Nat.add_zero, Nat.mul_one, Int.toNat_natCast, toNat_sub1, toNat_add1, decide_true, decide_false, Bool.not_true, Bool.not_false, if_true, if_false, Bool.false_eq_true, reduceCtorEq]
    have hnF0 : nF (List.replicate (8 ^ W) false) = 8 ^ W := by
      unfold nF
      rw [List.countP_eq_length.2 (fun b hb => by rw [List.eq_of_mem_replicate hb]; rfl), List.length_replicate]
    refine ⟨fun t63 wr => ∃ (i : Nat) (nm : List Bool) (ov : Value) (new : List Nat), i ≤ L.length ∧ t63 = .int .i64 i ∧ NmSt L W (8 ^ W) kO wq b15 b10 b11 b4 b12 b16 (.slice na (List.replicate (8 ^ W) false).length ncap) wr nm ov (new.map (rowOf kO W)) ∧
        new.Nodup ∧ (∀ j, j ∈ new ↔ nm.getD j false = true) ∧ (∀ j ∈ new, ∃ x ∈ L, x.2.2.1 = (j : Nat)) ∧ (∀ j ∈ new, ∀ s ∈ grpL L (j : Nat), nm.getD s.toNat false = true) ∧ (∀ x ∈ L.take i, nm.getD x.2.2.1.toNat false = true) ∧ new.length + nF nm ≤ 8 ^ W, fun t63 _ => L.length - (intOf t63).toNat,
      ⟨0, _, nilS, [], by omega, rfl, S0, List.nodup_nil, fun j => by rw [hrepl]; simp, by simp, by simp, by simp, by rw [hnF0]; simp⟩, ?_⟩
    rintro _ _ wr ⟨i, nm, ov, new, hi, rfl, S, hnd, hiff, hsrc, hsucc, hfst, hcnt⟩
    have kwr : Kp w wr := Kp.of_chg kwq S.c0 fun k e => by have := k07.size; omega
    by_cases hil : i < L.length
    case neg =>
      have hil' : ¬ (i : Int) < (L.length : Int) := by omega
      rw [List.take_of_length_le (by omega)] at hfst
      have c11 : wr.cell? ⟨b11, 0, none⟩ = some ov := by rw [cell_row S.h11]; rfl
      have hall : ∀ x ∈ L, x.2.2.1.toNat ∈ new := fun x hx => (hiff _).2 (hfst x hx)
      by_cases hL0 : 0 < L.length
      case neg =>
        have hnew : new = [] := by
          cases new with
          | nil => rfl
          | cons j js =>
            obtain ⟨x, hx, _⟩ := hsrc j (by simp)
            exact absurd (List.length_pos_of_mem hx) hL0
        have hout0 : IRows wq.heap.size wr ov [] := by
          have := S.outs
          rw [hnew] at this
          exact this
        simp (disch := omega) only [r_ln, r_pick, r_pickT, r_pickF, r_condT, r_condF, r_gdTT, r_gdFF, r_gdTF, r_gdFT, r_gqTT, r_gqFF, r_gqTF, r_gqFT, r_not, r_lss, r_leq, r_gtr, r_geq, r_eql, r_neq, r_add, r_sub, r_min2, r_max2, r_min3, r_max3, r_fa, r_iaS, r_iaA, r_ex2a, r_ex2b, r_ex3a, r_ex3b, r_ex3c, r_nc, r_keepE, Nat.zero_add, Nat.add_zero, Nat.mul_one, Int.toNat_natCast, toNat_sub1, toNat_add1, decide_true, decide_false, Bool.not_true, Bool.not_false, if_true, if_false, Bool.false_eq_true, reduceCtorEq, hil', r_ld c11]
        refine r_use fok84' (sortR0_calls _ hout0) rfl ?_
        rintro _ w'' ⟨rfl, rfl⟩
        refine ⟨_, rfl, ?_⟩
        rw [r_ld c11]
        have swq := kwq.size
        exact ⟨kwr, outP _ ov [] (hout0.down swq) ⟨kO, [], hkO, List.Perm.refl _, List.Pairwise.nil, List.nodup_nil, fun x hx => absurd (List.length_pos_of_mem hx) hL0, by simp, by simp⟩⟩
      have hpos : 0 < (new.map (rowOf kO W)).length := by
        obtain ⟨x, hx⟩ : ∃ x, x ∈ L := ⟨L[0], List.getElem_mem hL0⟩
        rw [List.length_map]
        exact List.length_pos_of_mem (hall x hx)
      simp (disch := omega) only [r_ln, r_pick, r_pickT, r_pickF, r_condT, r_condF, r_gdTT, r_gdFF, r_gdTF, r_gdFT, r_gqTT, r_gqFF, r_gqTF, r_gqFT, r_not, r_lss, r_leq, r_gtr, r_geq, r_eql, r_neq, r_add, r_sub, r_min2, r_max2, r_min3, r_max3, r_fa, r_iaS, r_iaA, r_ex2a, r_ex2b, r_ex3a, r_ex3b, r_ex3c, r_nc, r_keepE, Nat.zero_add, Nat.add_zero, Nat.mul_one, Int.toNat_natCast, toNat_sub1, toNat_add1, decide_true, decide_false, Bool.not_true, Bool.not_false, if_true, if_false, Bool.false_eq_true, reduceCtorEq, hil', r_ld c11]
      refine r_use fok84' (sortR_calls S.outs hpos (by rw [List.length_map]; omega) fun r hr => by
        obtain ⟨j, _, rfl⟩ := List.mem_map.1 hr
        simp [rowOf, colsL_len]
        omega) rfl ?_
      rintro _ w'' ⟨rfl, out', hI, hperm, hsort, hch⟩
      refine ⟨_, rfl, ?_⟩
      obtain ⟨vs, o1, _, _⟩ := S.outs
      have h11'' : w''.heap[b11]? = some (.cells #[ov] 23 (0, 0)) := hch.at S.h11 fun hk => by
        obtain ⟨cur, hcur⟩ := own_type o1 hk
        rw [S.h11] at hcur
        cases hcur
      have c11'' : w''.cell? ⟨b11, 0, none⟩ = some ov := by rw [cell_row h11'']; rfl
      rw [r_ld c11'']
      have swq := kwq.size
      refine ⟨Kp.of_chg kwr hch fun k e => by have := (o1.lt e).1; omega, outP w'' ov out' (hI.down swq) ⟨kO, new, hkO, hperm, hsort, hnd, hall, fun j hj s hs => (hiff _).2 (hsucc j hj s hs), hsrc⟩⟩
    have hil' : (i : Int) < (L.length : Int) := by omega
    obtain ⟨x, hx⟩ : ∃ x, L[i]? = some x := ⟨_, List.getElem?_eq_getElem hil⟩
    have hxm := List.mem_of_getElem? hx
    have hL0 : 0 < L.length := by omega
    have hrdr : RdL wr (.slice la L.length lcap) L := hrdq.chg S.c0 fun b off n cap e => by
      have hb7 := hrd7.block (fun x => by rw [lnC_len]; omega) e hL0
      omega
    obtain ⟨lb, lo, lc, el, _, hld⟩ := RdL.line hrdr hx
    cases el
    simp (disch := omega) only [r_ln, r_pick, r_pickT, r_pickF, r_condT, r_condF, r_gdTT, r_gdFF, r_gdTF, r_gdFT, r_gqTT, r_gqFF, r_gqTF, r_gqFT, r_not, r_lss, r_leq, r_gtr, r_geq, r_eql, r_neq, r_add, r_sub, r_min2, r_max2, r_min3, r_max3, r_fa, r_iaS, r_iaA, r_ex2a, r_ex2b, r_ex3a, r_ex3b, r_ex3c, r_nc, r_keepE, Nat.zero_add, Nat.add_zero, Nat.mul_one, Int.toNat_natCast, toNat_sub1, toNat_add1, decide_true, decide_false, Bool.not_true, Bool.not_false, if_true, if_false, Bool.false_eq_true, reduceCtorEq, decide_eq_true hil', hld]
    refine r_box fun b18 u2 e18 s18 h18 v2 => ?_
    refine r_stAll (n := 7) (ty := 78) (by kernel_rfl) rfl (by intro u hu; simp [Value.cells] at hu; rcases hu with rfl | rfl | rfl | rfl | rfl | rfl | rfl <;> rfl) h18 rfl fun u3 c18 s18' h183 => ?_
    have v3 : Kp wr u3 := Kp.of_chg v2 c18 fun i e => by omega
    have S3 := S.kp v3
    have c16 : u3.cell? ⟨b16, 0, none⟩ = some (nameF b15 b10 b11 b4 b12 b16) := by rw [cell_row S3.h16]; rfl
    have c5 : u3.cell? ⟨b18, 5, none⟩ = some (.int .i64 x.2.2.1) := by rw [cell_row h183]; rfl
    obtain ⟨_, x3, x4⟩ := hlo x hxm
    have exs : x.2.2.1 = ((x.2.2.1.toNat : Nat) : Int) := by omega
    rw [exs] at c5
    simp only [r_ln, r_pick, r_pickT, r_pickF, r_condT, r_condF, r_gdTT, r_gdFF, r_gdTF, r_gdFT, r_gqTT, r_gqFF, r_gqTF, r_gqFT, r_not, r_lss, r_leq, r_gtr, r_geq, r_eql, r_neq, r_add, r_sub, r_min2, r_max2, r_min3, r_max3, r_fa, r_iaS, r_iaA, r_ex2a, r_ex2b, r_ex3a, r_ex3b, r_ex3c, r_nc, r_keepE, Nat.zero_add, Nat.add_zero, Nat.mul_one, Int.toNat_natCast, toNat_sub1, toNat_add1, decide_true, decide_false, Bool.not_true, Bool.not_false, if_true, if_false, Bool.false_eq_true, reduceCtorEq, r_ld c16, r_ld c5]
    refine r_use fok82 (name_calls C (nF nm) x.2.2.1.toNat u3 nm ov _ (Nat.le_refl _) (by omega) S3 (by rw [List.length_map]; omega)) rfl ?_
    rintro _ u4 ⟨rfl, nm9, ov9, new9, S9, m9, d9, nd9, if9, src9, suc9, cnt9⟩
    refine ⟨_, rfl, ?_⟩
    try simp (disch := omega) only [r_ln, r_pick, r_pickT, r_pickF, r_condT, r_condF, r_gdTT, r_gdFF, r_gdTF, r_gdFT, r_gqTT, r_gqFF, r_gqTF, r_gqFT, r_not, r_lss, r_leq, r_gtr, r_geq, r_eql, r_neq, r_add, r_sub, r_min2, r_max2, r_min3, r_max3, r_fa, r_iaS, r_iaA, r_ex2a, r_ex2b, r_ex3a, r_ex3b, r_ex3c, r_nc, r_keepE, Nat.zero_add, Nat.add_zero, Nat.mul_one, Int.toNat_natCast, toNat_sub1, toNat_add1, decide_true, decide_false, Bool.not_true, Bool.not_false, if_true, if_false, Bool.false_eq_true, reduceCtorEq]
    refine ⟨⟨i + 1, nm9, ov9, new ++ new9, by omega, by go_num, by rw [List.map_append]; exact S9, ?_, fun j => ?_, fun j hj => ?_, fun j hj => ?_, fun y hy => ?_, by simp; omega⟩, by simp only [intOf]; omega⟩
    · rw [List.nodup_append]
      refine ⟨hnd, nd9, fun j hj k hk e => ?_⟩
      subst e
      have h1 := (hiff j).1 hj
      have h2 := ((if9 j).1 hk).2
      rw [h1] at h2; cases h2
    · rw [List.mem_append, hiff j, if9 j]
      constructor
      · rintro (h | h)
        · exact m9 j h
        · exact h.1
      · intro h
        cases hn : nm.getD j false with
        | true => exact .inl rfl
        | false => exact .inr ⟨h, rfl⟩
    · rcases List.mem_append.1 hj with h | h
      · exact hsrc j h
      · rcases src9 j h with h | h
        · exact ⟨x, hxm, by rw [exs, h]⟩
        · exact h
    · rcases List.mem_append.1 hj with h | h
      · exact fun s hs => m9 _ (hsucc j h s hs)
      · exact suc9 j h
    · rw [List.take_add_one, hx] at hy
      rcases List.mem_append.1 hy with h | h
      · exact m9 _ (hfst y h)
      · simp at h
        rw [h]; exact d9
  have hql' : (q : Int) < (L.length : Int) := by omega
  obtain ⟨x, hx⟩ : ∃ x, L[q]? = some x := ⟨_, List.getElem?_eq_getElem hql⟩
  have hxm := List.mem_of_getElem? hx
  obtain ⟨lb, lo, lc, el, _, hld⟩ := RdL.line hrdq hx
  cases el
  simp (disch := omega) only [r_ln, r_pick, r_pickT, r_pickF, r_condT, r_condF, r_gdTT, r_gdFF, r_gdTF, r_gdFT, r_gqTT, r_gqFF, r_gqTF, r_gqFT, r_not, r_lss, r_leq, r_gtr, r_geq, r_eql, r_neq, r_add, r_sub, r_min2, r_max2, r_min3, r_max3, r_fa, r_iaS, r_iaA, r_ex2a, r_ex2b, r_ex3a, r_ex3b, r_ex3c, r_nc, r_keepE, Nat.zero_add, Nat.add_zero, Nat.mul_one, Int.toNat_natCast, toNat_sub1, toNat_add1, decide_true, decide_false, Bool.not_true, Bool.not_false, if_true, if_false, Bool.false_eq_true, reduceCtorEq, decide_eq_true hql', hld]
  refine r_box fun b14 z2 e14 s14 h14 v2 => ?_
  refine r_stAll (n := 7) (ty := 78) (by kernel_rfl) rfl (by intro u hu; simp [Value.cells] at hu; rcases hu with rfl | rfl | rfl | rfl | rfl | rfl | rfl <;> rfl) h14 rfl fun z3 c14 s14' h143 => ?_
  have v3 : Kp wq z3 := Kp.of_chg v2 c14 fun i e => by omega
  obtain ⟨ik1, ik2⟩ := ikey x hxm
  refine r_drew fun z4 v4 _ => ?_
  have v04 := Kp.trans v3 v4
  have h144 := block_below h143 v4
  have c4' : z4.cell? ⟨b14, 4, none⟩ = some (.int .i64 x.2.1) := by rw [cell_row h144]; rfl
  have c5' : z4.cell? ⟨b14, 5, none⟩ = some (.int .i64 x.2.2.1) := by rw [cell_row h144]; rfl
  have c12' : z4.cell? ⟨b12, 0, none⟩ = some (.map (some bm)) := by rw [cell_row (block_below h12q v04)]; rfl
  obtain ⟨f, hf1, hf2, hf3⟩ := hgq.kp v04
  have hfc := hf2 x.2.1
  have sv := v04.size
  have sz3 := v3.size
  have fb : ∀ c k, (f c).ownBlock = some k → x2.heap.size ≤ k ∧ k ≠ b14 := fun c k hk => by
    refine ⟨((hf2 c).lt hk).1, fun e => ?_⟩
    subst e
    obtain ⟨cur, hcur⟩ := own_type (hf2 c) hk
    rw [h144] at hcur
    injection hcur with hcur
    injection hcur with _ h3 _
    exact absurd h3 (by decide)
  have nb14 : ¬ (fun k => (f x.2.1).ownBlock = some k) b14 := fun h => (fb _ _ h).2 rfl
  have nbn : ¬ (fun k => (f x.2.1).ownBlock = some k) bm := fun h => by have := (fb _ _ h).1; omega
  have nb12 : ¬ (fun k => (f x.2.1).ownBlock = some k) b12 := fun h => by have := (fb _ _ h).1; have := block_lt h122; omega
  refine ⟨fun k => (f x.2.1).ownBlock = some k, ?_⟩
  simp only [r_ln, r_pick, r_pickT, r_pickF, r_condT, r_condF, r_gdTT, r_gdFF, r_gdTF, r_gdFT, r_gqTT, r_gqFF, r_gqTF, r_gqFT, r_not, r_lss, r_leq, r_gtr, r_geq, r_eql, r_neq, r_add, r_sub, r_min2, r_max2, r_min3, r_max3, r_fa, r_iaS, r_iaA, r_ex2a, r_ex2b, r_ex3a, r_ex3b, r_ex3c, r_nc, r_keepE, Nat.zero_add, Nat.add_zero, Nat.mul_one, Int.toNat_natCast, toNat_sub1, toNat_add1, decide_true, decide_false, Bool.not_true, Bool.not_false, if_true, if_false, Bool.false_eq_true, reduceCtorEq, r_tx, r_txl (X := fun k => (f x.2.1).ownBlock = some k) c12' nb12, r_txl (X := fun k => (f x.2.1).ownBlock = some k) c4' nb14]
  refine r_txG und75 zero30 hf1 ik1 nbn ?_
  simp only [r_ln, r_pick, r_pickT, r_pickF, r_condT, r_condF, r_gdTT, r_gdFF, r_gdTF, r_gdFT, r_gqTT, r_gqFF, r_gqTF, r_gqFT, r_not, r_lss, r_leq, r_gtr, r_geq, r_eql, r_neq, r_add, r_sub, r_min2, r_max2, r_min3, r_max3, r_fa, r_iaS, r_iaA, r_ex2a, r_ex2b, r_ex3a, r_ex3b, r_ex3c, r_nc, r_keepE, Nat.zero_add, Nat.add_zero, Nat.mul_one, Int.toNat_natCast, toNat_sub1, toNat_add1, decide_true, decide_false, Bool.not_true, Bool.not_false, if_true, if_false, Bool.false_eq_true, reduceCtorEq, r_tx, r_txl (X := fun k => (f x.2.1).ownBlock = some k) c5' nb14]
  rw [bs30]
  refine ⟨BX.of_below (below_alloc _), ?_⟩
  have y5 : Kp z4 (z4.alloc (.cells #[.int .i64 x.2.2.1] 3)) := below_alloc _
  have n5 := heap_alloc_new z4 (.cells #[.int .i64 x.2.2.1] 3)
  generalize z4.alloc (.cells #[.int .i64 x.2.2.1] 3) = z5 at *
  have sz5 := y5.size
  have hglen := grp_len (L.take q) x.2.1
  rw [List.length_take] at hglen
  dsimp only
  refine r_apAt (news := [.int .i64 x.2.2.1]) slt30 (owns_kp hfc y5) rfl (cells_at_row n5) (by intro u hu; simp at hu; subst hu; rfl) (by omega) (by omega) (by omega) fun v' z6 ho6 c6' hv6 => ?_
  refine ⟨BX.of_chg c6', ?_⟩
  have hm6 : MapF z6 bm nilS f := (hf1.kp y5).chg c6' nbn
  have hv6n : v' ≠ nilS := fun e => by
    rcases ho6.2 with ⟨_, h⟩ | ⟨g, cap, cur, h, _⟩
    · omega
    · rw [e] at h; cases h
  refine r_muF und75 zero30 hm6 ik1 hv6n fun z7 hm7 c7 s7 => ?_
  have s6' := c6'.size
  have fne : ∀ c k, c ≠ x.2.1 → (f c).ownBlock = some k → (f x.2.1).ownBlock ≠ some k := fun c k hc hk h => hf3 c x.2.1 hc k hk h
  try simp (disch := omega) only [r_ln, r_pick, r_pickT, r_pickF, r_condT, r_condF, r_gdTT, r_gdFF, r_gdTF, r_gdFT, r_gqTT, r_gqFF, r_gqTF, r_gqFT, r_not, r_lss, r_leq, r_gtr, r_geq, r_eql, r_neq, r_add, r_sub, r_min2, r_max2, r_min3, r_max3, r_fa, r_iaS, r_iaA, r_ex2a, r_ex2b, r_ex3a, r_ex3b, r_ex3c, r_nc, r_keepE, Nat.zero_add, Nat.add_zero, Nat.mul_one, Int.toNat_natCast, toNat_sub1, toNat_add1, decide_true, decide_false, Bool.not_true, Bool.not_false, if_true, if_false, Bool.false_eq_true, reduceCtorEq]
  refine ⟨⟨q + 1, by omega, by go_num, ⟨_, hm7, fun c => ?_, fun c c' hcc k hk hk' => ?_⟩, ?_⟩, by simp only [intOf]; omega⟩
  · rw [grp_take hx]
    by_cases hc : c = x.2.1
    · subst hc
      rw [upd_same, if_pos rfl]
      have : IntsAt x2.heap.size z6 v' (grpL (L.take q) x.2.1 ++ [x.2.2.1]) := by
        unfold IntsAt RecAt
        rw [recCells_append, List.length_append]
        exact ho6
      refine this.chg c7 fun k hk e => ?_
      rcases hv6 k hk with h | h
      · have := (fb _ _ h).1; omega
      · omega
    · rw [upd_ne hc, if_neg (fun e => hc e.symm), List.append_nil]
      refine (((hf2 c).kp y5).chg c6' fun k hk e => fne c k hc hk e).chg c7 fun k hk e => ?_
      have := (fb _ _ hk).1; omega
  · by_cases hc : c = x.2.1
    · subst hc
      have hc' : c' ≠ x.2.1 := fun e => hcc e.symm
      rw [upd_same] at hk
      rw [upd_ne hc'] at hk'
      rcases hv6 k hk with h | h
      · exact fne c' k hc' hk' h
      · have := ((hf2 c').lt hk').2; omega
    · rw [upd_ne hc] at hk
      by_cases hc' : c' = x.2.1
      · subst hc'
        rw [upd_same] at hk'
        rcases hv6 k hk' with h | h
        · exact fne c k hc hk h
        · have := ((hf2 c).lt hk).2; omega
      · rw [upd_ne hc'] at hk'
        exact hf3 c c' hcc k hk hk'
  · have t : Chg (fun k => k = bm ∨ x2.heap.size ≤ k) x2 z7 := (((cq.mono fun k _ e => .inl e).trans (Chg.of_kp (Kp.trans v04 y5))).trans (c6'.mono fun k _ e => .inr (fb _ _ e).1)).trans (c7.mono fun k _ e => .inl e)
    exact t.mono fun k hk e => by
      rcases e with e | e
      · exact e
      · omega

end Go.Proofs.Ytgalbokmgffhkaa

/- Lifted texts, printed by program (gen.py): what each function's code asks. The ties are by the kernel. -/
namespace Go.Proofs.Ytgalbokmgffhkaa
open Go.Lf Go.RowKit

def S10 (t0 t1 t2 : Value) (w : World) (R : Ending → World → Prop) : Prop :=
  boxW 51 t0 w fun t3 w =>
  fa1 t3 1 fun t18 =>
  ld1 w t18 fun t19 =>
  ln1 t19 fun t20 =>
  binQ Try.prog w .gtr 3 true t20 (.int .i64 20) fun t21 =>
  gd t21 false (fun k => k t1 w) w fun t23 w =>
  gd t21 false (fun k => ln1 t23 fun v => k v w) w fun t24 w =>
  gd t21 false (fun k => binQ Try.prog w .gtr 3 true t24 (.int .i64 20) fun v => k v w) w fun t25 w =>
  pickQ t21 (.bool true) t25 fun t26 =>
  condW t26 (
    callW Try.prog (.func (.func 18) #[] #[]) [] w fun t27 w =>
    R (.returned t27) w
  ) (
    bsW Try.prog 30 0 [] w fun t28 w =>
    semW Try.prog (apS [30, 30] 30 [t28, t1]) w fun t30 w =>
    ldN 2 w t3 fun t32 =>
    callW Try.prog (.func (.func 39) #[] #[]) [t32] w fun t33 w =>
    exQ t33 0 fun t34 =>
    exQ t33 1 fun t35 =>
    ldN 2 w t3 fun t37 =>
    callW Try.prog (.func (.func 40) #[] #[]) [t37] w fun t38 w =>
    exQ t38 0 fun t39 =>
    exQ t38 1 fun t40 =>
    binQ Try.prog w .neq 26 false t35 t40 fun t43 =>
    gd t43 false (fun k => k t34 w) w fun t45 w =>
    gd t43 false (fun k => k t39 w) w fun t46 w =>
    gd t43 false (fun k => callW Try.prog (.func (.func 30) #[] #[]) [t45, t46] w k) w fun t47 w =>
    gd t43 false (fun k => unQ .not t47 fun v => k v w) w fun t48 w =>
    pickQ t43 (.bool true) t48 fun t49 =>
    condW t49 (
      R (.returned (.bool false)) w
    ) (
      ldN 2 w t3 fun t51 =>
      callW Try.prog (.func (.func 41) #[] #[]) [t51, t30, t2] w fun t54 w =>
      exQ t54 0 fun t55 =>
      exQ t54 1 fun t56 =>
      exQ t54 2 fun t57 =>
      exQ t54 3 fun t58 =>
      ldN 2 w t3 fun t60 =>
      callW Try.prog (.func (.func 42) #[] #[]) [t60, t1, t2] w fun t63 w =>
      exQ t63 0 fun t64 =>
      exQ t63 1 fun t65 =>
      exQ t63 2 fun t66 =>
      exQ t63 3 fun t67 =>
      binQ Try.prog w .eql 26 false t58 t67 fun t70 =>
      gd t70 true (fun k => k t55 w) w fun t72 w =>
      gd t70 true (fun k => k t64 w) w fun t73 w =>
      gd t70 true (fun k => callW Try.prog (.func (.func 43) #[] #[]) [t72, t73] w k) w fun t74 w =>
      pickQ t70 t74 (.bool false) fun t75 =>
      gd t75 true (fun k => k t56 w) w fun t77 w =>
      gd t75 true (fun k => k t65 w) w fun t78 w =>
      gd t75 true (fun k => binQ Try.prog w .eql 3 false t77 t78 fun v => k v w) w fun t79 w =>
      pickQ t75 t79 (.bool false) fun t80 =>
      gd t80 true (fun k => k t57 w) w fun t82 w =>
      gd t80 true (fun k => k t66 w) w fun t83 w =>
      gd t80 true (fun k => binQ Try.prog w .eql 3 false t82 t83 fun v => k v w) w fun t84 w =>
      pickQ t80 t84 (.bool false) fun t85 =>
      gd t85 true (fun k => k t30 w) w fun t87 w =>
      gd t85 true (fun k => k t1 w) w fun t88 w =>
      gd t85 true (fun k => callW Try.prog (.func (.func 43) #[] #[]) [t87, t88] w k) w fun t89 w =>
      pickQ t85 t89 (.bool false) fun t90 =>
      gd t90 true (fun k => callW Try.prog (.func (.func 18) #[] #[]) [] w k) w fun t92 w =>
      pickQ t90 t92 (.bool false) fun t93 =>
      R (.returned t93) w
    )
  )

def A10 : Ann where
  live := fun _ => []
  wr := fun _ _ => false
  sched := fun _ => .done

set_option maxRecDepth 100000 in
theorem ok10 : (codeOk Try.f10.ntmps A10 (Try.f10.body.getD .skip) 0 && Nat.ble 3 Try.f10.ntmps) = true := by kernel_rfl
set_option maxRecDepth 100000 in
theorem lift10 {t0 t1 t2 : Value} {w : World} {R : Ending → World → Prop} (h : S10 t0 t1 t2 w R) : Calls Try.prog 10 #[t0, t1, t2] w R :=
  calls_of_cw (fn := Try.f10) (c := Try.f10.body.getD .skip) A10 mixes Try.func10 (by kernel_rfl) ok10
    ((by kernel_rfl : (S10 t0 t1 t2 w R) = cw Try.prog A10 (Try.f10.body.getD .skip) 0 (bodyQ Try.prog Try.f10 R) (frOf #[t0, t1, t2]) w).mp h)

def S30 (t0 t1 : Value) (w : World) (R : Ending → World → Prop) : Prop :=
  ln1 t0 fun t7 =>
  ln1 t1 fun t9 =>
  binQ Try.prog w .neq 3 false t7 t9 fun t10 =>
  condW t10 (
    R (.returned (.bool false)) w
  ) (
    Loop1 (.int .i64 0) w fun _ t5 w next =>
      ln1 t0 fun t13 =>
      binQ Try.prog w .lss 3 false t5 t13 fun t14 =>
      condW t14 (
        Drew w fun w =>
        iaS 4 t0 t5 fun t19 =>
        ldN 4 w t19 fun t20 =>
        iaS 4 t1 t5 fun t23 =>
        ldN 4 w t23 fun t24 =>
        binQ Try.prog w .neq 32 false t20 t24 fun t25 =>
        condW t25 (
          R (.returned (.bool false)) w
        ) (
          binQ Try.prog w .add 3 true t5 (.int .i64 1) fun t16 =>
          next t16 w
        )
      ) (
        R (.returned (.bool true)) w
      )
  )

def A30 : Ann where
  live := fun
    | 0 => [5]
    | _ => []
  wr := fun
    | 0 => fun i => (Nat.ble 4 i && Nat.ble i 5) || (Nat.ble 11 i && Nat.ble i 25)
    | _ => fun _ => false
  sched := fun
    | 6 => (.take 0 (.take 1 (.take 2 (.take 3 (.take 4 (.take 5 (.take 6 (.take 7 (.take 8 .done)))))))))
    | _ => .done

set_option maxRecDepth 100000 in
theorem ok30 : (codeOk Try.f30.ntmps A30 (Try.f30.body.getD .skip) 0 && Nat.ble 2 Try.f30.ntmps) = true := by kernel_rfl
set_option maxRecDepth 100000 in
theorem lift30 {t0 t1 : Value} {w : World} {R : Ending → World → Prop} (h : S30 t0 t1 w R) : Calls Try.prog 30 #[t0, t1] w R :=
  calls_of_cw (fn := Try.f30) (c := Try.f30.body.getD .skip) A30 mixes Try.func30 (by kernel_rfl) ok30
    ((by kernel_rfl : (S30 t0 t1 w R) = cw Try.prog A30 (Try.f30.body.getD .skip) 0 (bodyQ Try.prog Try.f30 R) (frOf #[t0, t1]) w).mp h)

def S39L2 (t1 t4_2 t28 t32 : Value) (next_2 : Value → Value → World → Prop) (w : World) : Prop :=
  Loop2 t4_2 (.int .i64 0) w fun _ t4_3 t33 w next_3 =>
    binQ Try.prog w .lss 3 false t33 t32 fun t34 =>
    condW t34 (
      callW Try.prog (.func (.func 90) #[] #[]) [t33, t28] w fun t41 w =>
      callW Try.prog (.func (.func 91) #[] #[]) [t33] w fun t44 w =>
      bdQ Try.prog 32 [(0, t28), (2, t41), (3, t44)] fun t45 =>
      callW Try.prog (.func (.func 92) #[] #[t1]) [t33] w fun t49 w =>
      callW Try.prog (.func (.func 90) #[] #[]) [t33, t28] w fun t53 w =>
      bdQ Try.prog 32 [(0, t28), (1, t49), (2, t53)] fun t54 =>
      bsW Try.prog 22 2 [(0, t45), (1, t54)] w fun t55 w =>
      semW Try.prog (apS [22, 22] 22 [t4_3, t55]) w fun t56 w =>
      binQ Try.prog w .add 3 true t33 (.int .i64 1) fun t57 =>
      next_3 t56 t57 w
    ) (
      binQ Try.prog w .add 3 true t28 (.int .i64 1) fun t58 =>
      next_2 t4_3 t58 w
    )

def S39L4 (t1 t4_4 t61 : Value) (next_4 : Value → Value → World → Prop) (w : World) : Prop :=
  Loop2 t4_4 (.int .i64 0) w fun _ t4_5 t64 w next_5 =>
    binQ Try.prog w .lss 3 true t64 (.int .i64 2) fun t65 =>
    condW t65 (
      fa1 t1 1 fun t67 =>
      ld1 w t67 fun t68 =>
      binQ Try.prog w .mul 3 true (.int .i64 2) t61 fun t70 =>
      binQ Try.prog w .add 3 false t70 t64 fun t72 =>
      iaS 3 t68 t72 fun t73 =>
      ldN 3 w t73 fun t74 =>
      boxW 102 (.agg #[(.int .i64 0), (.bool false), (.int .i64 0)]) w fun t13 w =>
      stW Try.prog 102 t13 t74 w fun w =>
      fa1 t13 2 fun t90 =>
      ld1 w t90 fun t91 =>
      binQ Try.prog w .lss 3 true t91 (.int .i64 0) fun t92 =>
      Join (fun (k_2 : Value → World → Prop) =>
        condW t92 (
          k_2 t4_5 w
        ) (
          fa1 t13 1 fun t94 =>
          ld1 w t94 fun t95 =>
          condW t95 (
            Drew w fun w =>
            fa1 t13 2 fun t102 =>
            ld1 w t102 fun t103 =>
            fa1 t13 0 fun t105 =>
            ld1 w t105 fun t106 =>
            callW Try.prog (.func (.func 90) #[] #[]) [t61, t64] w <| keepB w fun t100 w =>
            callW Try.prog (.func (.func 91) #[] #[]) [t103] w <| keepB w fun t104 w =>
            bdQ Try.prog 32 [(0, t100), (1, t104), (2, t106)] fun t107 =>
            bsW Try.prog 22 1 [(0, t107)] w <| keepB w fun t108 w =>
            semW Try.prog (apS [22, 22] 22 [t4_5, t108]) w fun t109 w =>
            k_2 t109 w
          ) (
            Drew w fun w =>
            fa1 t13 0 fun t80 =>
            ld1 w t80 fun t81 =>
            fa1 t13 2 fun t83 =>
            ld1 w t83 fun t84 =>
            callW Try.prog (.func (.func 90) #[] #[]) [t61, t64] w <| keepB w fun t79 w =>
            callW Try.prog (.func (.func 92) #[] #[t1]) [t84] w <| keepB w fun t85 w =>
            bdQ Try.prog 32 [(0, t79), (2, t81), (3, t85)] fun t86 =>
            bsW Try.prog 22 1 [(0, t86)] w <| keepB w fun t87 w =>
            semW Try.prog (apS [22, 22] 22 [t4_5, t87]) w fun t88 w =>
            k_2 t88 w
          )
        )
      ) fun t4_6 w =>
      binQ Try.prog w .add 3 true t64 (.int .i64 1) fun t110_2 =>
      next_5 t4_6 t110_2 w
    ) (
      binQ Try.prog w .add 3 true t61 (.int .i64 1) fun t111 =>
      next_4 t4_5 t111 w
    )

def S39L3 (t1 t4_2 t60 : Value) (R : Ending → World → Prop) (w : World) : Prop :=
  Loop2 t4_2 (.int .i64 0) w fun _ t4_4 t61 w next_4 =>
    binQ Try.prog w .lss 3 false t61 t60 fun t62 =>
    condW t62 (
      S39L4 t1 t4_4 t61 next_4 w
    ) (
      R (.returned (.tuple #[t4_4, (.int .i64 0)])) w
    )

def S39L1 (t1 t4 : Value) (R : Ending → World → Prop) (w : World) : Prop :=
  Loop2 t4 (.int .i64 0) w fun _ t4_2 t28 w next_2 =>
    binQ Try.prog w .lss 3 true t28 (.int .i64 2) fun t29 =>
    condW t29 (
      fa1 t1 0 fun t31 =>
      ld1 w t31 fun t32 =>
      S39L2 t1 t4_2 t28 t32 next_2 w
    ) (
      fa1 t1 0 fun t59 =>
      ld1 w t59 fun t60 =>
      S39L3 t1 t4_2 t60 R w
    )

def S39L0 (t1 : Value) (R : Ending → World → Prop) (w : World) : Prop :=
  Loop2 (.slice none 0 0) (.int .i64 0) w fun _ t4 t17 w next =>
    binQ Try.prog w .lss 3 true t17 (.int .i64 2) fun t18 =>
    condW t18 (
      bdQ Try.prog 32 [(0, t17), (2, t17)] fun t23 =>
      bsW Try.prog 22 1 [(0, t23)] w fun t24 w =>
      semW Try.prog (apS [22, 22] 22 [t4, t24]) w fun t25 w =>
      binQ Try.prog w .add 3 true t17 (.int .i64 1) fun t26 =>
      next t25 t26 w
    ) (
      S39L1 t1 t4 R w
    )

def S39 (t0 : Value) (w : World) (R : Ending → World → Prop) : Prop :=
  boxW 51 t0 w fun t1 w =>
  ldN 2 w t1 fun t14 =>
  callW Try.prog (.func (.func 89) #[] #[]) [t14] w fun t15 w =>
  unQ .not t15 fun t16 =>
  condW t16 (
    R (.returned (.tuple #[(.slice none 0 0), (.int .i64 2)])) w
  ) (
    S39L0 t1 R w
  )

def A39 : Ann where
  live := fun
    | 0 => [4, 17]
    | 2 => [4, 28]
    | 4 => [4, 33]
    | 6 => [4, 61]
    | 8 => [4, 64]
    | _ => []
  wr := fun
    | 0 => fun i => (Nat.ble 4 i && Nat.ble i 5) || (Nat.ble 17 i && Nat.ble i 26)
    | 2 => fun i => Nat.beq i 4 || (Nat.ble 9 i && Nat.ble i 10) || (Nat.ble 28 i && Nat.ble i 58)
    | 4 => fun i => Nat.beq i 4 || Nat.beq i 10 || (Nat.ble 33 i && Nat.ble i 57)
    | 6 => fun i => Nat.beq i 4 || (Nat.ble 11 i && Nat.ble i 13) || (Nat.ble 61 i && Nat.ble i 111)
    | 8 => fun i => Nat.beq i 4 || (Nat.ble 12 i && Nat.ble i 13) || (Nat.ble 64 i && Nat.ble i 110)
    | _ => fun _ => false
  sched := fun
    | 28 => (.take 0 (.take 1 (.take 2 (.take 3 (.take 5 (.take 6 (.take 7 (.take 8 (.take 9 (.eff 4 (.eff 10 (.take 11 (.eff 12 (.bar 13 (.take 14 .done)))))))))))))))
    | 31 => (.take 0 (.take 1 (.take 2 (.take 3 (.take 5 (.take 6 (.take 7 (.take 9 (.take 10 (.eff 4 (.eff 8 (.take 11 (.eff 12 (.bar 13 (.take 14 .done)))))))))))))))
    | _ => .done

set_option maxRecDepth 100000 in
theorem ok39 : (codeOk Try.f39.ntmps A39 (Try.f39.body.getD .skip) 0 && Nat.ble 1 Try.f39.ntmps) = true := by kernel_rfl
set_option maxRecDepth 100000 in
theorem lift39 {t0 : Value} {w : World} {R : Ending → World → Prop} (h : S39 t0 w R) : Calls Try.prog 39 #[t0] w R :=
  calls_of_cw (fn := Try.f39) (c := Try.f39.body.getD .skip) A39 mixes Try.func39 (by kernel_rfl) ok39
    ((by kernel_rfl : (S39 t0 w R) = cw Try.prog A39 (Try.f39.body.getD .skip) 0 (bodyQ Try.prog Try.f39 R) (frOf #[t0]) w).mp h)

def S40L2 (t1 t4_2 t6 : Value) (next_2 : Value → Value → World → Prop) (w : World) : Prop :=
  Loop2 t4_2 (.int .i64 0) w fun _ t4_3 t7 w next_3 =>
    fa1 t1 0 fun t30 =>
    ld1 w t30 fun t31 =>
    binQ Try.prog w .lss 3 false t7 t31 fun t32 =>
    condW t32 (
      binQ Try.prog w .mul 3 true (.int .i64 2) t7 fun t38 =>
      binQ Try.prog w .add 3 true (.int .i64 2) t38 fun t39 =>
      binQ Try.prog w .add 3 false t39 t6 fun t41 =>
      binQ Try.prog w .add 3 true (.int .i64 1) t7 fun t43 =>
      bdQ Try.prog 32 [(0, t6), (2, t41), (3, t43)] fun t44 =>
      bsW Try.prog 22 1 [(0, t44)] w fun t45 w =>
      semW Try.prog (apS [22, 22] 22 [t4_3, t45]) w fun t46 w =>
      binQ Try.prog w .mul 3 true (.int .i64 2) t7 fun t50 =>
      binQ Try.prog w .add 3 true (.int .i64 2) t50 fun t51 =>
      binQ Try.prog w .add 3 false t51 t6 fun t53 =>
      fa1 t1 0 fun t54 =>
      ld1 w t54 fun t55 =>
      binQ Try.prog w .add 3 true (.int .i64 1) t55 fun t56 =>
      binQ Try.prog w .add 3 false t56 t7 fun t58 =>
      bdQ Try.prog 32 [(0, t6), (2, t53), (1, t58)] fun t59 =>
      bsW Try.prog 22 1 [(0, t59)] w fun t60 w =>
      semW Try.prog (apS [22, 22] 22 [t46, t60]) w fun t61 w =>
      binQ Try.prog w .add 3 true t7 (.int .i64 1) fun t34 =>
      next_3 t61 t34 w
    ) (
      binQ Try.prog w .add 3 true t6 (.int .i64 1) fun t28 =>
      next_2 t4_3 t28 w
    )

def S40L4 (t1 t4_4 t8 : Value) (next_4 : Value → Value → World → Prop) (w : World) : Prop :=
  Loop2 t4_4 (.int .i64 0) w fun _ t4_5 t9 w next_5 =>
    binQ Try.prog w .lss 3 true t9 (.int .i64 2) fun t69 =>
    condW t69 (
      Join (fun (k_2 : Value → World → Prop) =>
        fa1 t1 1 fun t72 =>
        ld1 w t72 fun t73 =>
        binQ Try.prog w .mul 3 true (.int .i64 2) t8 fun t75 =>
        binQ Try.prog w .add 3 false t75 t9 fun t77 =>
        iaS 3 t73 t77 fun t78 =>
        ldN 3 w t78 fun t79 =>
        boxW 102 (.agg #[(.int .i64 0), (.bool false), (.int .i64 0)]) w fun t10 w =>
        stW Try.prog 102 t10 t79 w fun w =>
        binQ Try.prog w .mul 3 true (.int .i64 2) t8 fun t81 =>
        binQ Try.prog w .add 3 true (.int .i64 2) t81 fun t82 =>
        binQ Try.prog w .add 3 false t82 t9 fun t84 =>
        fa1 t10 0 fun t85 =>
        ld1 w t85 fun t86 =>
        bdQ Try.prog 32 [(0, t84), (2, t86)] fun t87 =>
        boxW 32 (.agg #[(.int .i64 0), (.int .i64 0), (.int .i64 0), (.int .i64 0)]) w fun t11 w =>
        stW Try.prog 32 t11 t87 w fun w =>
        fa1 t10 2 fun t88 =>
        ld1 w t88 fun t89 =>
        binQ Try.prog w .lss 3 true t89 (.int .i64 0) fun t90 =>
        condW t90 (
          k_2 t4_5 w
        ) (
          fa1 t10 1 fun t91 =>
          ld1 w t91 fun t92 =>
          Join (fun (k_3 : World → Prop) =>
            condW t92 (
              fa1 t10 2 fun t93 =>
              ld1 w t93 fun t94 =>
              binQ Try.prog w .add 3 true (.int .i64 1) t94 fun t95 =>
              fa1 t11 1 fun t96 =>
              stW Try.prog 3 t96 t95 w fun w =>
              k_3 w
            ) (
              fa1 t1 0 fun t97 =>
              ld1 w t97 fun t98 =>
              binQ Try.prog w .add 3 true (.int .i64 1) t98 fun t99 =>
              fa1 t10 2 fun t100 =>
              ld1 w t100 fun t101 =>
              binQ Try.prog w .add 3 false t99 t101 fun t102 =>
              fa1 t11 3 fun t103 =>
              stW Try.prog 3 t103 t102 w fun w =>
              k_3 w
            )
          ) fun w =>
          ldN 4 w t11 fun t105_2 =>
          bsW Try.prog 22 1 [(0, t105_2)] w fun t106_2 w =>
          semW Try.prog (apS [22, 22] 22 [t4_5, t106_2]) w fun t107_2 w =>
          k_2 t107_2 w
        )
      ) fun t4_6 w =>
      binQ Try.prog w .add 3 true t9 (.int .i64 1) fun t71_2 =>
      next_5 t4_6 t71_2 w
    ) (
      binQ Try.prog w .add 3 true t8 (.int .i64 1) fun t67 =>
      next_4 t4_5 t67 w
    )

def S40L3 (t1 t4_2 : Value) (R : Ending → World → Prop) (w : World) : Prop :=
  Loop2 t4_2 (.int .i64 0) w fun _ t4_4 t8 w next_4 =>
    fa1 t1 0 fun t63 =>
    ld1 w t63 fun t64 =>
    binQ Try.prog w .lss 3 false t8 t64 fun t65 =>
    condW t65 (
      S40L4 t1 t4_4 t8 next_4 w
    ) (
      R (.returned (.tuple #[t4_4, (.int .i64 0)])) w
    )

def S40L1 (t1 t4 : Value) (R : Ending → World → Prop) (w : World) : Prop :=
  Loop2 t4 (.int .i64 0) w fun _ t4_2 t6 w next_2 =>
    binQ Try.prog w .lss 3 true t6 (.int .i64 2) fun t26 =>
    condW t26 (
      S40L2 t1 t4_2 t6 next_2 w
    ) (
      S40L3 t1 t4_2 R w
    )

def S40L0 (t1 : Value) (R : Ending → World → Prop) (w : World) : Prop :=
  Loop2 (.slice none 0 0) (.int .i64 0) w fun _ t4 t5 w next =>
    binQ Try.prog w .lss 3 true t5 (.int .i64 2) fun t16 =>
    condW t16 (
      bdQ Try.prog 32 [(0, t5), (2, t5)] fun t22 =>
      bsW Try.prog 22 1 [(0, t22)] w fun t23 w =>
      semW Try.prog (apS [22, 22] 22 [t4, t23]) w fun t24 w =>
      binQ Try.prog w .add 3 true t5 (.int .i64 1) fun t18 =>
      next t24 t18 w
    ) (
      S40L1 t1 t4 R w
    )

def S40 (t0 : Value) (w : World) (R : Ending → World → Prop) : Prop :=
  boxW 51 t0 w fun t1 w =>
  ldN 2 w t1 fun t12 =>
  callW Try.prog (.func (.func 93) #[] #[]) [t12] w fun t13 w =>
  unQ .not t13 fun t14 =>
  condW t14 (
    R (.returned (.tuple #[(.slice none 0 0), (.int .i64 2)])) w
  ) (
    S40L0 t1 R w
  )

def A40 : Ann where
  live := fun
    | 0 => [4, 5]
    | 2 => [4, 6]
    | 4 => [4, 7]
    | 6 => [4, 8]
    | 8 => [4, 9]
    | _ => []
  wr := fun
    | 0 => fun i => (Nat.ble 4 i && Nat.ble i 5) || (Nat.ble 15 i && Nat.ble i 24)
    | 2 => fun i => Nat.beq i 4 || (Nat.ble 6 i && Nat.ble i 7) || (Nat.ble 25 i && Nat.ble i 61)
    | 4 => fun i => Nat.beq i 4 || Nat.beq i 7 || (Nat.ble 29 i && Nat.ble i 61)
    | 6 => fun i => Nat.beq i 4 || (Nat.ble 8 i && Nat.ble i 11) || (Nat.ble 62 i && Nat.ble i 107)
    | 8 => fun i => Nat.beq i 4 || (Nat.ble 9 i && Nat.ble i 11) || (Nat.ble 68 i && Nat.ble i 107)
    | _ => fun _ => false
  sched := fun _ => .done

set_option maxRecDepth 100000 in
theorem ok40 : (codeOk Try.f40.ntmps A40 (Try.f40.body.getD .skip) 0 && Nat.ble 1 Try.f40.ntmps) = true := by kernel_rfl
set_option maxRecDepth 100000 in
theorem lift40 {t0 : Value} {w : World} {R : Ending → World → Prop} (h : S40 t0 w R) : Calls Try.prog 40 #[t0] w R :=
  calls_of_cw (fn := Try.f40) (c := Try.f40.body.getD .skip) A40 mixes Try.func40 (by kernel_rfl) ok40
    ((by kernel_rfl : (S40 t0 w R) = cw Try.prog A40 (Try.f40.body.getD .skip) 0 (bodyQ Try.prog Try.f40 R) (frOf #[t0]) w).mp h)

def S41L0 (t2 t3 t38 : Value) (R : Ending → World → Prop) (w : World) : Prop :=
  Loop3 (.int .i64 0) (.int .i64 0) (.int .i64 0) w fun _ t12 t13 t40 w next =>
    binQ Try.prog w .lss 3 false t40 t2 fun t41 =>
    condW t41 (
      binQ Try.prog w .lss 3 true t13 (.int .i64 0) fun t43 =>
      gd t43 false (fun k => k t12 w) w fun t45 w =>
      gd t43 false (fun k => binQ Try.prog w .lss 3 true t45 (.int .i64 0) fun v => k v w) w fun t46 w =>
      pickQ t43 (.bool true) t46 fun t47 =>
      gd t47 false (fun k => k t12 w) w fun t49 w =>
      gd t47 false (fun k => k t38 w) w fun t50 w =>
      gd t47 false (fun k => ln1 t50 fun v => k v w) w fun t51 w =>
      gd t47 false (fun k => binQ Try.prog w .geq 3 false t49 t51 fun v => k v w) w fun t52 w =>
      pickQ t47 (.bool true) t52 fun t53 =>
      condW t53 (
        R (.returned (.tuple #[t38, t12, t13, (.int .i64 0)])) w
      ) (
        Drew w fun w =>
        fa1 t3 1 fun t54 =>
        ld1 w t54 fun t55 =>
        binQ Try.prog w .mul 3 true (.int .i64 2) t13 fun t57 =>
        iaS 1 t38 t12 fun t60 =>
        ld1 w t60 fun t61 =>
        binQ Try.prog w .add 3 false t57 t61 fun t62 =>
        iaS 3 t55 t62 fun t63 =>
        ldN 3 w t63 fun t64 =>
        boxW 102 (.agg #[(.int .i64 0), (.bool false), (.int .i64 0)]) w <| keepB w fun t14 w =>
        stW Try.prog 102 t14 t64 w fun w =>
        Drew w fun w =>
        ∃ X : Nat → Prop,
        takeX X w (fun w k => k t38) fun t65 =>
        takeX X w (fun w k => k t12) fun t66 =>
        takeX X w (fun w k => fa1 t14 0 k) fun t67 =>
        takeX X w (fun w k => ld1 w t67 k) fun t68 =>
        takeX X w (fun w k => fa1 t14 2 k) fun t69 =>
        takeX X w (fun w k => ld1 w t69 k) fun t70 =>
        takeX X w (fun w k => iaS 1 t65 t66 k) fun t71 =>
        stW Try.prog 3 t71 t68 w <| keepW X w fun w =>
        takeX X w (fun w k => k t70) fun t13_2 =>
        binQ Try.prog w .lss 3 true t13_2 (.int .i64 0) fun t76 =>
        Join (fun (k_2 : Value → World → Prop) =>
          condW t76 (
            k_2 t12 w
          ) (
            fa1 t14 1 fun t78 =>
            ld1 w t78 fun t79 =>
            condW t79 (
              binQ Try.prog w .add 3 true t12 (.int .i64 1) fun t81 =>
              k_2 t81 w
            ) (
              binQ Try.prog w .sub 3 true t12 (.int .i64 1) fun t73 =>
              k_2 t73 w
            )
          )
        ) fun t12_2 w =>
        binQ Try.prog w .add 3 true t40 (.int .i64 1) fun t82_2 =>
        next t12_2 t13_2 t82_2 w
      )
    ) (
      R (.returned (.tuple #[t38, t12, t13, (.int .i64 0)])) w
    )

def S41 (t0 t1 t2 : Value) (w : World) (R : Ending → World → Prop) : Prop :=
  boxW 51 t0 w fun t3 w =>
  ldN 2 w t3 fun t15 =>
  callW Try.prog (.func (.func 89) #[] #[]) [t15] w fun t16 w =>
  unQ .not t16 fun t17 =>
  gd t17 false (fun k => k t1 w) w fun t19 w =>
  gd t17 false (fun k => ln1 t19 fun v => k v w) w fun t20 w =>
  gd t17 false (fun k => callW Try.prog (.func (.func 66) #[] #[]) [t20] w k) w fun t21 w =>
  gd t17 false (fun k => unQ .not t21 fun v => k v w) w fun t22 w =>
  pickQ t17 (.bool true) t22 fun t23 =>
  gd t23 false (fun k => k t1 w) w fun t25 w =>
  gd t23 false (fun k => k (.func (.func 94) #[] #[]) w) w fun t26 w =>
  gd t23 false (fun k => callW Try.prog (.func (.func 54) #[] #[]) [t25, t26] w k) w fun t27 w =>
  pickQ t23 (.bool true) t27 fun t28 =>
  gd t28 false (fun k => k t2 w) w fun t30 w =>
  gd t28 false (fun k => binQ Try.prog w .lss 3 true t30 (.int .i64 0) fun v => k v w) w fun t31 w =>
  pickQ t28 (.bool true) t31 fun t32 =>
  gd t32 false (fun k => k t2 w) w fun t34 w =>
  gd t32 false (fun k => binQ Try.prog w .gtr 3 true t34 (.int .i64 4) fun v => k v w) w fun t35 w =>
  pickQ t32 (.bool true) t35 fun t36 =>
  condW t36 (
    R (.returned (.tuple #[(.slice none 0 0), (.int .i64 0), (.int .i64 0), (.int .i64 2)])) w
  ) (
    callW Try.prog (.func (.func 79) #[] #[]) [t1] w fun t38 w =>
    S41L0 t2 t3 t38 R w
  )

def A41 : Ann where
  live := fun
    | 0 => [12, 13, 40]
    | _ => []
  wr := fun
    | 0 => fun i => (Nat.ble 12 i && Nat.ble i 14) || (Nat.ble 40 i && Nat.ble i 82)
    | _ => fun _ => false
  sched := fun
    | 9 => (.take 0 (.take 1 (.take 2 (.take 3 (.take 4 (.take 5 (.take 6 (.take 7 (.take 8 (.take 9 (.take 10 (.eff 11 (.bar 12 .done)))))))))))))
    | 10 => (.cls (.take 0 (.take 1 (.take 2 (.take 3 (.take 4 (.take 5 (.take 6 (.eff 7 (.take 8 .done))))))))))
    | _ => .done

set_option maxRecDepth 100000 in
theorem ok41 : (codeOk Try.f41.ntmps A41 (Try.f41.body.getD .skip) 0 && Nat.ble 3 Try.f41.ntmps) = true := by kernel_rfl
set_option maxRecDepth 100000 in
theorem lift41 {t0 t1 t2 : Value} {w : World} {R : Ending → World → Prop} (h : S41 t0 t1 t2 w R) : Calls Try.prog 41 #[t0, t1, t2] w R :=
  calls_of_cw (fn := Try.f41) (c := Try.f41.body.getD .skip) A41 mixes Try.func41 (by kernel_rfl) ok41
    ((by kernel_rfl : (S41 t0 t1 t2 w R) = cw Try.prog A41 (Try.f41.body.getD .skip) 0 (bodyQ Try.prog Try.f41 R) (frOf #[t0, t1, t2]) w).mp h)

def S42L1 (t2 t3 t10 : Value) (R : Ending → World → Prop) (w : World) : Prop :=
  Loop3 (.int .i64 0) (.int .i64 0) (.int .i64 0) w fun _ t12 t13 t14 w next_2 =>
    binQ Try.prog w .lss 3 false t14 t2 fun t60 =>
    gd t60 true (fun k => k t13 w) w fun t62 w =>
    gd t60 true (fun k => binQ Try.prog w .geq 3 true t62 (.int .i64 0) fun v => k v w) w fun t63 w =>
    pickQ t60 t63 (.bool false) fun t64 =>
    gd t64 true (fun k => k t12 w) w fun t66 w =>
    gd t64 true (fun k => binQ Try.prog w .geq 3 true t66 (.int .i64 0) fun v => k v w) w fun t67 w =>
    pickQ t64 t67 (.bool false) fun t68 =>
    gd t68 true (fun k => k t12 w) w fun t70 w =>
    gd t68 true (fun k => k t10 w) w fun t71 w =>
    gd t68 true (fun k => ln1 t71 fun v => k v w) w fun t72 w =>
    gd t68 true (fun k => binQ Try.prog w .lss 3 false t70 t72 fun v => k v w) w fun t73 w =>
    pickQ t68 t73 (.bool false) fun t74 =>
    condW t74 (
      Drew w fun w =>
      fa1 t3 1 fun t77 =>
      ld1 w t77 fun t78 =>
      binQ Try.prog w .mul 3 true (.int .i64 2) t13 fun t80 =>
      iaS 1 t10 t12 fun t83 =>
      ld1 w t83 fun t84 =>
      binQ Try.prog w .add 3 false t80 t84 fun t85 =>
      iaS 3 t78 t85 fun t86 =>
      ldN 3 w t86 fun t87 =>
      boxW 102 (.agg #[(.int .i64 0), (.bool false), (.int .i64 0)]) w <| keepB w fun t15 w =>
      stW Try.prog 102 t15 t87 w fun w =>
      fa1 t15 0 fun t90 =>
      ld1 w t90 fun t91 =>
      iaS 1 t10 t12 fun t92 =>
      stW Try.prog 3 t92 t91 w fun w =>
      fa1 t15 2 fun t93 =>
      ld1 w t93 fun t94 =>
      binQ Try.prog w .geq 3 true t94 (.int .i64 0) fun t96 =>
      gd t96 true (fun k => fa1 t15 1 fun v => k v w) w fun t98 w =>
      gd t96 true (fun k => ld1 w t98 fun v => k v w) w fun t99 w =>
      pickQ t96 t99 (.bool false) fun t100 =>
      Join (fun (k_2 : Value → World → Prop) =>
        condW t100 (
          binQ Try.prog w .add 3 true t12 (.int .i64 1) fun t102 =>
          k_2 t102 w
        ) (
          binQ Try.prog w .geq 3 true t94 (.int .i64 0) fun t104 =>
          condW t104 (
            binQ Try.prog w .sub 3 true t12 (.int .i64 1) fun t106 =>
            k_2 t106 w
          ) (
            k_2 t12 w
          )
        )
      ) fun t12_2 w =>
      binQ Try.prog w .add 3 true t14 (.int .i64 1) fun t76_2 =>
      next_2 t12_2 t94 t76_2 w
    ) (
      R (.returned (.tuple #[t10, t12, t13, (.int .i64 0)])) w
    )

def S42L0 (t1 t2 t3 : Value) (R : Ending → World → Prop) (w : World) : Prop :=
  Loop2 (.slice none 0 0) (.int .i64 0) w fun _ t10 t11 w next =>
    ln1 t1 fun t35 =>
    binQ Try.prog w .lss 3 false t11 t35 fun t36 =>
    condW t36 (
      iaS 1 t1 t11 fun t41 =>
      ld1 w t41 fun t42 =>
      binQ Try.prog w .lss 3 true t42 (.int .i64 0) fun t43 =>
      gd t43 false (fun k => k t1 w) w fun t45 w =>
      gd t43 false (fun k => k t11 w) w fun t46 w =>
      gd t43 false (fun k => iaS 1 t45 t46 fun v => k v w) w fun t47 w =>
      gd t43 false (fun k => ld1 w t47 fun v => k v w) w fun t48 w =>
      gd t43 false (fun k => binQ Try.prog w .gtr 3 true t48 (.int .i64 1) fun v => k v w) w fun t49 w =>
      pickQ t43 (.bool true) t49 fun t50 =>
      condW t50 (
        R (.returned (.tuple #[(.slice none 0 0), (.int .i64 0), (.int .i64 0), (.int .i64 2)])) w
      ) (
        iaS 1 t1 t11 fun t54 =>
        ld1 w t54 fun t55 =>
        bsW Try.prog 30 1 [(0, t55)] w fun t56 w =>
        semW Try.prog (apS [30, 30] 30 [t10, t56]) w fun t57 w =>
        binQ Try.prog w .add 3 true t11 (.int .i64 1) fun t38 =>
        next t57 t38 w
      )
    ) (
      S42L1 t2 t3 t10 R w
    )

def S42 (t0 t1 t2 : Value) (w : World) (R : Ending → World → Prop) : Prop :=
  boxW 51 t0 w fun t3 w =>
  ldN 2 w t3 fun t16 =>
  callW Try.prog (.func (.func 93) #[] #[]) [t16] w fun t17 w =>
  unQ .not t17 fun t18 =>
  gd t18 false (fun k => k t1 w) w fun t20 w =>
  gd t18 false (fun k => ln1 t20 fun v => k v w) w fun t21 w =>
  gd t18 false (fun k => callW Try.prog (.func (.func 68) #[] #[]) [t21] w k) w fun t22 w =>
  gd t18 false (fun k => unQ .not t22 fun v => k v w) w fun t23 w =>
  pickQ t18 (.bool true) t23 fun t24 =>
  gd t24 false (fun k => k t2 w) w fun t26 w =>
  gd t24 false (fun k => binQ Try.prog w .lss 3 true t26 (.int .i64 0) fun v => k v w) w fun t27 w =>
  pickQ t24 (.bool true) t27 fun t28 =>
  gd t28 false (fun k => k t2 w) w fun t30 w =>
  gd t28 false (fun k => binQ Try.prog w .gtr 3 true t30 (.int .i64 4) fun v => k v w) w fun t31 w =>
  pickQ t28 (.bool true) t31 fun t32 =>
  condW t32 (
    R (.returned (.tuple #[(.slice none 0 0), (.int .i64 0), (.int .i64 0), (.int .i64 2)])) w
  ) (
    S42L0 t1 t2 t3 R w
  )

def A42 : Ann where
  live := fun
    | 0 => [10, 11]
    | 2 => [12, 13, 14]
    | _ => []
  wr := fun
    | 0 => fun i => (Nat.ble 6 i && Nat.ble i 11) || (Nat.ble 33 i && Nat.ble i 57)
    | 2 => fun i => (Nat.ble 12 i && Nat.ble i 15) || (Nat.ble 58 i && Nat.ble i 106)
    | _ => fun _ => false
  sched := fun
    | 14 => (.take 0 (.take 1 (.take 2 (.take 3 (.take 4 (.take 5 (.take 6 (.take 7 (.take 8 (.take 9 (.take 10 (.eff 11 (.bar 12 .done)))))))))))))
    | _ => .done

set_option maxRecDepth 100000 in
theorem ok42 : (codeOk Try.f42.ntmps A42 (Try.f42.body.getD .skip) 0 && Nat.ble 3 Try.f42.ntmps) = true := by kernel_rfl
set_option maxRecDepth 100000 in
theorem lift42 {t0 t1 t2 : Value} {w : World} {R : Ending → World → Prop} (h : S42 t0 t1 t2 w R) : Calls Try.prog 42 #[t0, t1, t2] w R :=
  calls_of_cw (fn := Try.f42) (c := Try.f42.body.getD .skip) A42 mixes Try.func42 (by kernel_rfl) ok42
    ((by kernel_rfl : (S42 t0 t1 t2 w R) = cw Try.prog A42 (Try.f42.body.getD .skip) 0 (bodyQ Try.prog Try.f42 R) (frOf #[t0, t1, t2]) w).mp h)

def S43 (t0 t1 : Value) (w : World) (R : Ending → World → Prop) : Prop :=
  ln1 t0 fun t7 =>
  ln1 t1 fun t9 =>
  binQ Try.prog w .neq 3 false t7 t9 fun t10 =>
  condW t10 (
    R (.returned (.bool false)) w
  ) (
    Loop1 (.int .i64 0) w fun _ t5 w next =>
      ln1 t0 fun t13 =>
      binQ Try.prog w .lss 3 false t5 t13 fun t14 =>
      condW t14 (
        Drew w fun w =>
        iaS 1 t0 t5 fun t19 =>
        ld1 w t19 fun t20 =>
        iaS 1 t1 t5 fun t23 =>
        ld1 w t23 fun t24 =>
        binQ Try.prog w .neq 3 false t20 t24 fun t25 =>
        condW t25 (
          R (.returned (.bool false)) w
        ) (
          binQ Try.prog w .add 3 true t5 (.int .i64 1) fun t16 =>
          next t16 w
        )
      ) (
        R (.returned (.bool true)) w
      )
  )

def A43 : Ann where
  live := fun
    | 0 => [5]
    | _ => []
  wr := fun
    | 0 => fun i => (Nat.ble 4 i && Nat.ble i 5) || (Nat.ble 11 i && Nat.ble i 25)
    | _ => fun _ => false
  sched := fun
    | 6 => (.take 0 (.take 1 (.take 2 (.take 3 (.take 4 (.take 5 (.take 6 (.take 7 (.take 8 .done)))))))))
    | _ => .done

set_option maxRecDepth 100000 in
theorem ok43 : (codeOk Try.f43.ntmps A43 (Try.f43.body.getD .skip) 0 && Nat.ble 2 Try.f43.ntmps) = true := by kernel_rfl
set_option maxRecDepth 100000 in
theorem lift43 {t0 t1 : Value} {w : World} {R : Ending → World → Prop} (h : S43 t0 t1 w R) : Calls Try.prog 43 #[t0, t1] w R :=
  calls_of_cw (fn := Try.f43) (c := Try.f43.body.getD .skip) A43 mixes Try.func43 (by kernel_rfl) ok43
    ((by kernel_rfl : (S43 t0 t1 w R) = cw Try.prog A43 (Try.f43.body.getD .skip) 0 (bodyQ Try.prog Try.f43 R) (frOf #[t0, t1]) w).mp h)

def S79 (t0 : Value) (w : World) (R : Ending → World → Prop) : Prop :=
  binQ Try.prog w .eql 30 true t0 (.slice none 0 0) fun t4 =>
  condW t4 (
    R (.returned (.slice none 0 0)) w
  ) (
    bsW Try.prog 30 0 [] w fun t5 w =>
    semW Try.prog (apS [30, 30] 30 [t5, t0]) w fun t7 w =>
    R (.returned t7) w
  )

def A79 : Ann where
  live := fun _ => []
  wr := fun _ _ => false
  sched := fun _ => .done

set_option maxRecDepth 100000 in
theorem ok79 : (codeOk Try.f79.ntmps A79 (Try.f79.body.getD .skip) 0 && Nat.ble 1 Try.f79.ntmps) = true := by kernel_rfl
set_option maxRecDepth 100000 in
theorem lift79 {t0 : Value} {w : World} {R : Ending → World → Prop} (h : S79 t0 w R) : Calls Try.prog 79 #[t0] w R :=
  calls_of_cw (fn := Try.f79) (c := Try.f79.body.getD .skip) A79 mixes Try.func79 (by kernel_rfl) ok79
    ((by kernel_rfl : (S79 t0 w R) = cw Try.prog A79 (Try.f79.body.getD .skip) 0 (bodyQ Try.prog Try.f79 R) (frOf #[t0]) w).mp h)

def S89 (t0 : Value) (w : World) (R : Ending → World → Prop) : Prop :=
  boxW 51 t0 w fun t1 w =>
  fa1 t1 0 fun t3 =>
  ld1 w t3 fun t4 =>
  binQ Try.prog w .geq 3 true t4 (.int .i64 1) fun t5 =>
  gd t5 true (fun k => fa1 t1 0 fun v => k v w) w fun t7 w =>
  gd t5 true (fun k => ld1 w t7 fun v => k v w) w fun t8 w =>
  gd t5 true (fun k => binQ Try.prog w .leq 3 true t8 (.int .i64 2) fun v => k v w) w fun t9 w =>
  pickQ t5 t9 (.bool false) fun t10 =>
  gd t10 true (fun k => fa1 t1 1 fun v => k v w) w fun t12 w =>
  gd t10 true (fun k => ld1 w t12 fun v => k v w) w fun t13 w =>
  gd t10 true (fun k => ln1 t13 fun v => k v w) w fun t14 w =>
  gd t10 true (fun k => fa1 t1 0 fun v => k v w) w fun t15 w =>
  gd t10 true (fun k => ld1 w t15 fun v => k v w) w fun t16 w =>
  gd t10 true (fun k => binQ Try.prog w .mul 3 true (.int .i64 2) t16 fun v => k v w) w fun t17 w =>
  gd t10 true (fun k => binQ Try.prog w .eql 3 false t14 t17 fun v => k v w) w fun t18 w =>
  pickQ t10 t18 (.bool false) fun t19 =>
  gd t19 true (fun k => fa1 t1 1 fun v => k v w) w fun t21 w =>
  gd t19 true (fun k => ld1 w t21 fun v => k v w) w fun t22 w =>
  gd t19 true (fun k => k (.func (.func 115) #[] #[t1]) w) w fun t23 w =>
  gd t19 true (fun k => callW Try.prog (.func (.func 114) #[] #[]) [t22, t23] w k) w fun t24 w =>
  gd t19 true (fun k => unQ .not t24 fun v => k v w) w fun t25 w =>
  pickQ t19 t25 (.bool false) fun t26 =>
  R (.returned t26) w

def A89 : Ann where
  live := fun _ => []
  wr := fun _ _ => false
  sched := fun _ => .done

set_option maxRecDepth 100000 in
theorem ok89 : (codeOk Try.f89.ntmps A89 (Try.f89.body.getD .skip) 0 && Nat.ble 1 Try.f89.ntmps) = true := by kernel_rfl
set_option maxRecDepth 100000 in
theorem lift89 {t0 : Value} {w : World} {R : Ending → World → Prop} (h : S89 t0 w R) : Calls Try.prog 89 #[t0] w R :=
  calls_of_cw (fn := Try.f89) (c := Try.f89.body.getD .skip) A89 mixes Try.func89 (by kernel_rfl) ok89
    ((by kernel_rfl : (S89 t0 w R) = cw Try.prog A89 (Try.f89.body.getD .skip) 0 (bodyQ Try.prog Try.f89 R) (frOf #[t0]) w).mp h)

def S90 (t0 t1 : Value) (w : World) (R : Ending → World → Prop) : Prop :=
  binQ Try.prog w .mul 3 true (.int .i64 2) t0 fun t6 =>
  binQ Try.prog w .add 3 true (.int .i64 2) t6 fun t7 =>
  binQ Try.prog w .add 3 false t7 t1 fun t9 =>
  R (.returned t9) w

def A90 : Ann where
  live := fun _ => []
  wr := fun _ _ => false
  sched := fun _ => .done

set_option maxRecDepth 100000 in
theorem ok90 : (codeOk Try.f90.ntmps A90 (Try.f90.body.getD .skip) 0 && Nat.ble 2 Try.f90.ntmps) = true := by kernel_rfl
set_option maxRecDepth 100000 in
theorem lift90 {t0 t1 : Value} {w : World} {R : Ending → World → Prop} (h : S90 t0 t1 w R) : Calls Try.prog 90 #[t0, t1] w R :=
  calls_of_cw (fn := Try.f90) (c := Try.f90.body.getD .skip) A90 mixes Try.func90 (by kernel_rfl) ok90
    ((by kernel_rfl : (S90 t0 t1 w R) = cw Try.prog A90 (Try.f90.body.getD .skip) 0 (bodyQ Try.prog Try.f90 R) (frOf #[t0, t1]) w).mp h)

def S91 (t0 : Value) (w : World) (R : Ending → World → Prop) : Prop :=
  binQ Try.prog w .add 3 true (.int .i64 1) t0 fun t4 =>
  R (.returned t4) w

def A91 : Ann where
  live := fun _ => []
  wr := fun _ _ => false
  sched := fun _ => .done

set_option maxRecDepth 100000 in
theorem ok91 : (codeOk Try.f91.ntmps A91 (Try.f91.body.getD .skip) 0 && Nat.ble 1 Try.f91.ntmps) = true := by kernel_rfl
set_option maxRecDepth 100000 in
theorem lift91 {t0 : Value} {w : World} {R : Ending → World → Prop} (h : S91 t0 w R) : Calls Try.prog 91 #[t0] w R :=
  calls_of_cw (fn := Try.f91) (c := Try.f91.body.getD .skip) A91 mixes Try.func91 (by kernel_rfl) ok91
    ((by kernel_rfl : (S91 t0 w R) = cw Try.prog A91 (Try.f91.body.getD .skip) 0 (bodyQ Try.prog Try.f91 R) (frOf #[t0]) w).mp h)

def S92 (t0 t1 : Value) (w : World) (R : Ending → World → Prop) : Prop :=
  fa1 t1 0 fun t4 =>
  ld1 w t4 fun t5 =>
  binQ Try.prog w .add 3 true (.int .i64 1) t5 fun t6 =>
  binQ Try.prog w .add 3 false t6 t0 fun t8 =>
  R (.returned t8) w

def A92 : Ann where
  live := fun _ => []
  wr := fun _ _ => false
  sched := fun _ => .done

set_option maxRecDepth 100000 in
theorem ok92 : (codeOk Try.f92.ntmps A92 (Try.f92.body.getD .skip) 0 && Nat.ble 2 Try.f92.ntmps) = true := by kernel_rfl
set_option maxRecDepth 100000 in
theorem lift92 {t0 t1 : Value} {w : World} {R : Ending → World → Prop} (h : S92 t0 t1 w R) : Calls Try.prog 92 #[t0, t1] w R :=
  calls_of_cw (fn := Try.f92) (c := Try.f92.body.getD .skip) A92 mixes Try.func92 (by kernel_rfl) ok92
    ((by kernel_rfl : (S92 t0 t1 w R) = cw Try.prog A92 (Try.f92.body.getD .skip) 0 (bodyQ Try.prog Try.f92 R) (frOf #[t0, t1]) w).mp h)

def S93 (t0 : Value) (w : World) (R : Ending → World → Prop) : Prop :=
  boxW 51 t0 w fun t1 w =>
  fa1 t1 0 fun t5 =>
  ld1 w t5 fun t6 =>
  binQ Try.prog w .lss 3 true t6 (.int .i64 1) fun t7 =>
  gd t7 false (fun k => fa1 t1 0 fun v => k v w) w fun t9 w =>
  gd t7 false (fun k => ld1 w t9 fun v => k v w) w fun t10 w =>
  gd t7 false (fun k => binQ Try.prog w .gtr 3 true t10 (.int .i64 2) fun v => k v w) w fun t11 w =>
  pickQ t7 (.bool true) t11 fun t12 =>
  gd t12 false (fun k => fa1 t1 1 fun v => k v w) w fun t14 w =>
  gd t12 false (fun k => ld1 w t14 fun v => k v w) w fun t15 w =>
  gd t12 false (fun k => ln1 t15 fun v => k v w) w fun t16 w =>
  gd t12 false (fun k => fa1 t1 0 fun v => k v w) w fun t17 w =>
  gd t12 false (fun k => ld1 w t17 fun v => k v w) w fun t18 w =>
  gd t12 false (fun k => binQ Try.prog w .mul 3 true (.int .i64 2) t18 fun v => k v w) w fun t19 w =>
  gd t12 false (fun k => binQ Try.prog w .neq 3 false t16 t19 fun v => k v w) w fun t20 w =>
  pickQ t12 (.bool true) t20 fun t21 =>
  condW t21 (
    R (.returned (.bool false)) w
  ) (
    Loop1 (.int .i64 0) w fun _ t3 w next =>
      fa1 t1 1 fun t23 =>
      ld1 w t23 fun t24 =>
      ln1 t24 fun t25 =>
      binQ Try.prog w .lss 3 false t3 t25 fun t26 =>
      condW t26 (
        fa1 t1 1 fun t29 =>
        ld1 w t29 fun t30 =>
        iaS 3 t30 t3 fun t32 =>
        ldN 3 w t32 fun t33 =>
        boxW 102 (.agg #[(.int .i64 0), (.bool false), (.int .i64 0)]) w fun t4 w =>
        stW Try.prog 102 t4 t33 w fun w =>
        fa1 t4 0 fun t34 =>
        ld1 w t34 fun t35 =>
        binQ Try.prog w .lss 3 true t35 (.int .i64 0) fun t36 =>
        gd t36 false (fun k => fa1 t4 0 fun v => k v w) w fun t38 w =>
        gd t36 false (fun k => ld1 w t38 fun v => k v w) w fun t39 w =>
        gd t36 false (fun k => binQ Try.prog w .gtr 3 true t39 (.int .i64 1) fun v => k v w) w fun t40 w =>
        pickQ t36 (.bool true) t40 fun t41 =>
        gd t41 false (fun k => fa1 t4 2 fun v => k v w) w fun t43 w =>
        gd t41 false (fun k => ld1 w t43 fun v => k v w) w fun t44 w =>
        gd t41 false (fun k => binQ Try.prog w .lss 3 true t44 (.int .i64 (-1)) fun v => k v w) w fun t45 w =>
        pickQ t41 (.bool true) t45 fun t46 =>
        gd t46 false (fun k => fa1 t4 2 fun v => k v w) w fun t48 w =>
        gd t46 false (fun k => ld1 w t48 fun v => k v w) w fun t49 w =>
        gd t46 false (fun k => fa1 t1 0 fun v => k v w) w fun t50 w =>
        gd t46 false (fun k => ld1 w t50 fun v => k v w) w fun t51 w =>
        gd t46 false (fun k => binQ Try.prog w .geq 3 false t49 t51 fun v => k v w) w fun t52 w =>
        pickQ t46 (.bool true) t52 fun t53 =>
        condW t53 (
          R (.returned (.bool false)) w
        ) (
          binQ Try.prog w .add 3 true t3 (.int .i64 1) fun t28 =>
          next t28 w
        )
      ) (
        R (.returned (.bool true)) w
      )
  )

def A93 : Ann where
  live := fun
    | 0 => [3]
    | _ => []
  wr := fun
    | 0 => fun i => (Nat.ble 2 i && Nat.ble i 4) || (Nat.ble 22 i && Nat.ble i 53)
    | _ => fun _ => false
  sched := fun _ => .done

set_option maxRecDepth 100000 in
theorem ok93 : (codeOk Try.f93.ntmps A93 (Try.f93.body.getD .skip) 0 && Nat.ble 1 Try.f93.ntmps) = true := by kernel_rfl
set_option maxRecDepth 100000 in
theorem lift93 {t0 : Value} {w : World} {R : Ending → World → Prop} (h : S93 t0 w R) : Calls Try.prog 93 #[t0] w R :=
  calls_of_cw (fn := Try.f93) (c := Try.f93.body.getD .skip) A93 mixes Try.func93 (by kernel_rfl) ok93
    ((by kernel_rfl : (S93 t0 w R) = cw Try.prog A93 (Try.f93.body.getD .skip) 0 (bodyQ Try.prog Try.f93 R) (frOf #[t0]) w).mp h)

def S94 (t0 : Value) (w : World) (R : Ending → World → Prop) : Prop :=
  binQ Try.prog w .neq 3 true t0 (.int .i64 0) fun t4 =>
  gd t4 true (fun k => k t0 w) w fun t6 w =>
  gd t4 true (fun k => binQ Try.prog w .neq 3 true t6 (.int .i64 1) fun v => k v w) w fun t7 w =>
  pickQ t4 t7 (.bool false) fun t8 =>
  R (.returned t8) w

def A94 : Ann where
  live := fun _ => []
  wr := fun _ _ => false
  sched := fun _ => .done

set_option maxRecDepth 100000 in
theorem ok94 : (codeOk Try.f94.ntmps A94 (Try.f94.body.getD .skip) 0 && Nat.ble 1 Try.f94.ntmps) = true := by kernel_rfl
set_option maxRecDepth 100000 in
theorem lift94 {t0 : Value} {w : World} {R : Ending → World → Prop} (h : S94 t0 w R) : Calls Try.prog 94 #[t0] w R :=
  calls_of_cw (fn := Try.f94) (c := Try.f94.body.getD .skip) A94 mixes Try.func94 (by kernel_rfl) ok94
    ((by kernel_rfl : (S94 t0 w R) = cw Try.prog A94 (Try.f94.body.getD .skip) 0 (bodyQ Try.prog Try.f94 R) (frOf #[t0]) w).mp h)

def S114 (t0 t1 : Value) (w : World) (R : Ending → World → Prop) : Prop :=
  callW Try.prog (.func (.func 131) #[] #[]) [t0, t1] w fun t7 w =>
  binQ Try.prog w .geq 3 true t7 (.int .i64 0) fun t8 =>
  R (.returned t8) w

def A114 : Ann where
  live := fun _ => []
  wr := fun _ _ => false
  sched := fun _ => .done

set_option maxRecDepth 100000 in
theorem ok114 : (codeOk Try.f114.ntmps A114 (Try.f114.body.getD .skip) 0 && Nat.ble 2 Try.f114.ntmps) = true := by kernel_rfl
set_option maxRecDepth 100000 in
theorem lift114 {t0 t1 : Value} {w : World} {R : Ending → World → Prop} (h : S114 t0 t1 w R) : Calls Try.prog 114 #[t0, t1] w R :=
  calls_of_cw (fn := Try.f114) (c := Try.f114.body.getD .skip) A114 mixes Try.func114 (by kernel_rfl) ok114
    ((by kernel_rfl : (S114 t0 t1 w R) = cw Try.prog A114 (Try.f114.body.getD .skip) 0 (bodyQ Try.prog Try.f114 R) (frOf #[t0, t1]) w).mp h)

def S115 (t0 t1 : Value) (w : World) (R : Ending → World → Prop) : Prop :=
  boxW 102 t0 w fun t2 w =>
  fa1 t2 0 fun t4 =>
  ld1 w t4 fun t5 =>
  binQ Try.prog w .lss 3 true t5 (.int .i64 0) fun t6 =>
  gd t6 false (fun k => fa1 t2 0 fun v => k v w) w fun t8 w =>
  gd t6 false (fun k => ld1 w t8 fun v => k v w) w fun t9 w =>
  gd t6 false (fun k => binQ Try.prog w .gtr 3 true t9 (.int .i64 1) fun v => k v w) w fun t10 w =>
  pickQ t6 (.bool true) t10 fun t11 =>
  gd t11 false (fun k => fa1 t2 2 fun v => k v w) w fun t13 w =>
  gd t11 false (fun k => ld1 w t13 fun v => k v w) w fun t14 w =>
  gd t11 false (fun k => binQ Try.prog w .lss 3 true t14 (.int .i64 (-1)) fun v => k v w) w fun t15 w =>
  pickQ t11 (.bool true) t15 fun t16 =>
  gd t16 false (fun k => fa1 t2 2 fun v => k v w) w fun t18 w =>
  gd t16 false (fun k => ld1 w t18 fun v => k v w) w fun t19 w =>
  gd t16 false (fun k => fa1 t1 0 fun v => k v w) w fun t20 w =>
  gd t16 false (fun k => ld1 w t20 fun v => k v w) w fun t21 w =>
  gd t16 false (fun k => binQ Try.prog w .geq 3 false t19 t21 fun v => k v w) w fun t22 w =>
  pickQ t16 (.bool true) t22 fun t23 =>
  R (.returned t23) w

def A115 : Ann where
  live := fun _ => []
  wr := fun _ _ => false
  sched := fun _ => .done

set_option maxRecDepth 100000 in
theorem ok115 : (codeOk Try.f115.ntmps A115 (Try.f115.body.getD .skip) 0 && Nat.ble 2 Try.f115.ntmps) = true := by kernel_rfl
set_option maxRecDepth 100000 in
theorem lift115 {t0 t1 : Value} {w : World} {R : Ending → World → Prop} (h : S115 t0 t1 w R) : Calls Try.prog 115 #[t0, t1] w R :=
  calls_of_cw (fn := Try.f115) (c := Try.f115.body.getD .skip) A115 mixes Try.func115 (by kernel_rfl) ok115
    ((by kernel_rfl : (S115 t0 t1 w R) = cw Try.prog A115 (Try.f115.body.getD .skip) 0 (bodyQ Try.prog Try.f115 R) (frOf #[t0, t1]) w).mp h)

def S131 (t0 t1 : Value) (w : World) (R : Ending → World → Prop) : Prop :=
  ln1 t0 fun t7 =>
  Loop1 (.int .i64 0) w fun _ t8 w next =>
    binQ Try.prog w .lss 3 false t8 t7 fun t9 =>
    condW t9 (
      iaS 3 t0 t8 fun t14 =>
      ldN 3 w t14 fun t15 =>
      callW Try.prog t1 [t15] w fun t16 w =>
      condW t16 (
        R (.returned t8) w
      ) (
        binQ Try.prog w .add 3 true t8 (.int .i64 1) fun t18 =>
        next t18 w
      )
    ) (
      R (.returned (.int .i64 (-1))) w
    )

def A131 : Ann where
  live := fun
    | 0 => [8]
    | _ => []
  wr := fun
    | 0 => fun i => (Nat.ble 4 i && Nat.ble i 5) || (Nat.ble 8 i && Nat.ble i 18)
    | _ => fun _ => false
  sched := fun _ => .done

set_option maxRecDepth 100000 in
theorem ok131 : (codeOk Try.f131.ntmps A131 (Try.f131.body.getD .skip) 0 && Nat.ble 2 Try.f131.ntmps) = true := by kernel_rfl
set_option maxRecDepth 100000 in
theorem lift131 {t0 t1 : Value} {w : World} {R : Ending → World → Prop} (h : S131 t0 t1 w R) : Calls Try.prog 131 #[t0, t1] w R :=
  calls_of_cw (fn := Try.f131) (c := Try.f131.body.getD .skip) A131 mixes Try.func131 (by kernel_rfl) ok131
    ((by kernel_rfl : (S131 t0 t1 w R) = cw Try.prog A131 (Try.f131.body.getD .skip) 0 (bodyQ Try.prog Try.f131 R) (frOf #[t0, t1]) w).mp h)

theorem fok10 : fnOk Try.prog 10 = true := by kernel_rfl
theorem fok30 : fnOk Try.prog 30 = true := by kernel_rfl
theorem fok39 : fnOk Try.prog 39 = true := by kernel_rfl
theorem fok40 : fnOk Try.prog 40 = true := by kernel_rfl
theorem fok41 : fnOk Try.prog 41 = true := by kernel_rfl
theorem fok42 : fnOk Try.prog 42 = true := by kernel_rfl
theorem fok43 : fnOk Try.prog 43 = true := by kernel_rfl
theorem fok79 : fnOk Try.prog 79 = true := by kernel_rfl
theorem fok89 : fnOk Try.prog 89 = true := by kernel_rfl
theorem fok90 : fnOk Try.prog 90 = true := by kernel_rfl
theorem fok91 : fnOk Try.prog 91 = true := by kernel_rfl
theorem fok92 : fnOk Try.prog 92 = true := by kernel_rfl
theorem fok93 : fnOk Try.prog 93 = true := by kernel_rfl
theorem fok94 : fnOk Try.prog 94 = true := by kernel_rfl
theorem fok114 : fnOk Try.prog 114 = true := by kernel_rfl
theorem fok115 : fnOk Try.prog 115 = true := by kernel_rfl
theorem fok131 : fnOk Try.prog 131 = true := by kernel_rfl
end Go.Proofs.Ytgalbokmgffhkaa
