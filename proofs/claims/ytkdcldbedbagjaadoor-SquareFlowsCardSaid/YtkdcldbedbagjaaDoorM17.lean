/- Texts of my own, merged by program: Nd Ne Said. -/
import Derived.Test.YtkdcldbedbagjaaDoorM15
import Derived.Test.YtkdcldbedbagjaaDoorM16
import Derived.Test.YtkdcldbedbagjaaDoorM14
import Derived.Test.YtkdcldbedbagjaaDoorM02
import Derived.Test.YtkdcldbedbagjaaDoorM08
import Derived.ProofKit
import Derived.LaidMore
import Derived.OpenShut
import Derived.Stop.Joined
import Derived.Deep.Strs
set_option linter.all false
/- The network of the greatest squares is a ladder, plainly: its trees and its voltage are width and height in lowest terms. -/
namespace Go.Dt

theorem conn_alone {l : List Wr} {a u : Nat} (hiso : ∀ f ∈ l, f.1 ≠ a ∧ f.2 ≠ a) (c : Conn l u a) : u = a :=
  Classical.byContradiction fun hn => by
    have := c.off (S := one a) (fun e he => ⟨one_not (hiso e he).1, one_not (hiso e he).2⟩) (one_not hn)
    rw [one_self] at this; cases this
/-- A leaf: a wire at a vertex that nothing else touches. -/
theorem RF.leaf {n : Nat} {S : Nat → Bool} {e : Wr} {l : List Wr} (hl : Wf n (e :: l)) (h1 : S e.1 = false) (hiso : ∀ f ∈ l, f.1 ≠ e.1 ∧ f.2 ≠ e.1) : RF n S (e :: l) ↔ RF n (ins S e.1) l := by
  have he := hl e (List.mem_cons_self ..)
  unfold RF
  rw [cnt_ins h1 he.1, List.length_cons]
  constructor
  · rintro ⟨c1, c2⟩
    refine ⟨by omega, ?_⟩
    rcases c2.oneEnd hl with ⟨s, _, s2, s3⟩ | h
    · have := conn_alone hiso s3.symm
      rw [this] at s2; rw [s2] at h1; cases h1
    · exact c2.flip.drop hl.flip h
  · rintro ⟨c1, c2⟩
    have far : ∀ v, v < n → v ≠ e.1 → ∃ s, s < n ∧ S s = true ∧ Conn l v s := fun v hv hne => by
      obtain ⟨r, r1, r2, r3⟩ := c2 v hv
      rcases ins_iff.1 r2 with h | h
      · exact ⟨r, r1, h, r3⟩
      · rw [h] at r3; exact absurd (conn_alone hiso r3) hne
    refine ⟨by omega, fun v hv => ?_⟩
    by_cases hve : v = e.1
    · obtain ⟨s, s1, s2, s3⟩ := far e.2 he.2.1 (Ne.symm he.2.2)
      rw [hve]
      exact ⟨s, s1, s2, (Conn.head e l).trans s3.cons⟩
    · obtain ⟨s, s1, s2, s3⟩ := far v hv hve
      exact ⟨s, s1, s2, s3.cons⟩
theorem RF.alone {n : Nat} {S : Nat → Bool} {a : Nat} {l : List Wr} (ha : a < n) (h1 : S a = false) (hiso : ∀ f ∈ l, f.1 ≠ a ∧ f.2 ≠ a) : ¬ RF n S l := fun h => by
  obtain ⟨s, _, s2, s3⟩ := h.2 a ha
  have := conn_alone hiso s3.symm
  rw [this] at s2; rw [s2] at h1; cases h1
theorem iso_sub {l s : List Wr} {a : Nat} (hiso : ∀ f ∈ l, f.1 ≠ a ∧ f.2 ≠ a) (h : s.Sublist l) : ∀ f ∈ s, f.1 ≠ a ∧ f.2 ≠ a := fun f hf => hiso f (h.subset hf)

end Go.Dt
namespace Go.Proofs.YtkdcldbedbagjaaDoor
open Go.Lf Go.RowKit Go.Dt

def wsOf (L l : List T3) : List Wr := l.map fun s => (tp L s, bt L s)

/-- A level that is not the last one is the top of some square. -/
theorem top_some {W H : Int} {L : List T3} (d : Diss W H L) {v : Nat} (hv : v < (lvsL L).length) (hl : v ≠ (lvsL L).length - 1) : ∃ s ∈ L, tp L s = v := by
  have hi := lv_in d hv
  have hy : (Lv L v).1 ≠ H := fun e => hl ((lv_end d hv).1 e)
  obtain ⟨s, hs, hq⟩ := d.ex (x := (Lv L v).2.1) (y := (Lv L v).1) (by omega) (by omega) (by omega) (by omega)
  have e := lv_down d hv (Int.le_refl _) hi.2.1 hs hq
  unfold inQ at hq
  exact ⟨s, hs, tp_of d hv hs e (Int.le_refl _) (by omega) hq.1 (by omega)⟩

theorem ladder {W H : Int} {L : List T3} (d : Diss W H L) : ∀ (n : Nat) {k a : Nat} {x y w h : Int} {P l : List T3} {D : Nat → Bool}, l.length = n → L = P ++ l → cutF k x y w h = some l → 0 < w → 0 < h → x + w = W → y + h = H →
    a < (lvsL L).length → (Lv L a).1 = y → (Lv L a).2.1 ≤ x → x ≤ (Lv L a).2.2 → (∀ v, D v = true → (Lv L v).1 < y) → (∀ s ∈ P, D (tp L s) = true ∨ tp L s = a) →
    (cnt (RF (lvsL L).length (ins D ((lvsL L).length - 1))) (wsOf L l) : Int) * (Int.gcd w h : Nat) = w ∧ (cnt (RF (lvsL L).length (ins (ins D ((lvsL L).length - 1)) a)) (wsOf L l) : Int) * (Int.gcd w h : Nat) = h := by
  intro n
  induction n with
  | zero =>
    intro k a x y w h P l D hn hL e w0 h0 _ _ _ _ _ _ _ _
    rcases cutF_cases e with ⟨g, _⟩ | ⟨_, k', l', _, rfl, _⟩
    · omega
    · simp at hn
  | succ n ih =>
    intro k a x y w h P l D hn hL e w0 h0 hxw hyh ha ya xa xb hD hP
    have htwo := lv_two d
    have hNt : (lvsL L).length - 1 < (lvsL L).length := by omega
    have hTt := (lv_end d hNt).2 rfl
    generalize htd : (lvsL L).length - 1 = t at *
    have hat : a ≠ t := fun q => by rw [q] at ya; omega
    have hDa : D a = false := by
      cases q : D a with
      | false => rfl
      | true => have := hD a q; omega
    have hSa : ins D t a = false := by simp [ins, hDa, hat]
    rcases cutF_cases e with ⟨g, _⟩ | ⟨_, k', l', rfl, rfl, hc⟩
    · omega
    have hl' : l'.length = n := by simpa using hn
    have hsL : ((x, y, min w h) : T3) ∈ L := by rw [hL]; simp
    have htp : tp L (x, y, min w h) = a := tp_of d ha hsL ya.symm (x := x) xa xb (Int.le_refl _) (by dsimp only; omega)
    have hta := tp_at d.side hsL
    have hbt := bt_at d.side hsL
    have hcons : wsOf L ((x, y, min w h) :: l') = (a, bt L (x, y, min w h)) :: wsOf L l' := by unfold wsOf; rw [List.map_cons, htp]
    have hwf : Wf (lvsL L).length (wsOf L ((x, y, min w h) :: l')) := fun f hf => by
      refine wsL_wf d f ?_
      obtain ⟨s, hs, rfl⟩ := List.mem_map.1 hf
      exact List.mem_map.2 ⟨s, by rw [hL]; exact List.mem_append_right _ hs, rfl⟩
    rw [htp] at hta
    dsimp only at hta hbt
    rw [hcons] at hwf ⊢
    have hL2 : L = (P ++ [(x, y, min w h)]) ++ l' := by rw [hL]; simp
    rcases hc with ⟨c, e1⟩ | ⟨c, e1⟩
    · -- to the right of the square
      have hm : min w h = h := by omega
      have hb : bt L (x, y, min w h) = t := (lv_end d hbt.1).1 (by omega) |>.trans htd
      rw [hb] at hwf ⊢
      have hP2 : ∀ s ∈ P ++ [((x, y, min w h) : T3)], D (tp L s) = true ∨ tp L s = a := fun s hs => by
        rcases List.mem_append.1 hs with q | q
        · exact hP s q
        · rw [List.mem_singleton.1 q]; exact .inr htp
      have := ih (D := D) hl' hL2 e1 (by omega) h0 (by omega) hyh ha ya (by omega) (by omega) hD hP2
      obtain ⟨i1, i2⟩ := this
      have hg : Int.gcd (w - h) h = Int.gcd w h := Int.gcd_sub_right_left_of_dvd w (Int.dvd_refl h)
      rw [hg] at i1 i2
      have g1 : cnt (fun q => RF (lvsL L).length (ins D t) ((a, t) :: q)) (wsOf L l') = cnt (RF (lvsL L).length (ins (ins D t) a)) (wsOf L l') := cnt_iff fun q hq => RF.grow' (hwf.sub (hq.cons_cons _)) (ins_self D t) hSa
      have g2 : cnt (fun q => RF (lvsL L).length (ins (ins D t) a) ((a, t) :: q)) (wsOf L l') = 0 := cnt_false fun q hq => RF.shut (hwf.sub (hq.cons_cons _)) (ins_self _ a) (ins_of (ins_self D t))
      refine ⟨?_, ?_⟩
      · show ((cnt (RF (lvsL L).length (ins D t)) (wsOf L l') + cnt (fun q => RF (lvsL L).length (ins D t) ((a, t) :: q)) (wsOf L l') : Nat) : Int) * _ = _
        rw [g1, Int.natCast_add, Int.add_mul, i1, i2]; omega
      · show ((cnt (RF (lvsL L).length (ins (ins D t) a)) (wsOf L l') + cnt (fun q => RF (lvsL L).length (ins (ins D t) a) ((a, t) :: q)) (wsOf L l') : Nat) : Int) * _ = _
        rw [g2, Nat.add_zero]; exact i2
    · have hm : min w h = w := by omega
      by_cases hq : w = h
      · -- the last square
        subst hq
        rcases cutF_cases e1 with ⟨_, rfl⟩ | ⟨g2, _⟩
        · have hb : bt L (x, y, min w w) = t := (lv_end d hbt.1).1 (by omega) |>.trans htd
          rw [hb] at hwf ⊢
          have all : ∀ v, v < (lvsL L).length → ins (ins D t) a v = true := fun v hv => by
            rw [ins_iff, ins_iff]
            by_cases hvt : v = t
            · exact .inl (.inr hvt)
            · obtain ⟨s, hs, rfl⟩ := top_some d hv (by rw [htd]; exact hvt)
              rw [hL2] at hs
              simp only [List.append_nil] at hs
              rcases List.mem_append.1 hs with q | q
              · rcases hP s q with r | r
                · exact .inl (.inl r)
                · exact .inr r
              · rw [List.mem_singleton.1 q]; exact .inr htp
          have f1 : RF (lvsL L).length (ins (ins D t) a) [] := ⟨by rw [cnt_all all]; rfl, fun v hv => ⟨v, hv, all v hv, .refl _⟩⟩
          have f0 : ¬ RF (lvsL L).length (ins D t) [] := RF.alone ha hSa (by simp)
          have f2 : RF (lvsL L).length (ins D t) [(a, t)] := (RF.grow' hwf (ins_self D t) hSa).2 f1
          have f3 : ¬ RF (lvsL L).length (ins (ins D t) a) [(a, t)] := RF.shut hwf (ins_self _ a) (ins_of (ins_self D t))
          have hgg : ((Int.gcd w w : Nat) : Int) = w := by rw [Int.gcd_self]; omega
          rw [hgg]
          refine ⟨?_, ?_⟩
          · have : cnt (RF (lvsL L).length (ins D t)) ((a, t) :: wsOf L []) = 1 := by
              show cnt (RF (lvsL L).length (ins D t)) [] + cnt (fun q => RF (lvsL L).length (ins D t) ((a, t) :: q)) [] = 1
              unfold cnt; rw [if_neg f0, if_pos f2]
            rw [this]; simp
          · have : cnt (RF (lvsL L).length (ins (ins D t) a)) ((a, t) :: wsOf L []) = 1 := by
              show cnt (RF (lvsL L).length (ins (ins D t) a)) [] + cnt (fun q => RF (lvsL L).length (ins (ins D t) a) ((a, t) :: q)) [] = 1
              unfold cnt; rw [if_pos f1, if_neg f3]
            rw [this]; simp
        · omega
      · -- below the square
        have hin := cut_in _ rfl (by omega) (by omega) e1
        have hb1 : (Lv L (bt L (x, y, min w h))).1 = y + w := by omega
        generalize bt L (x, y, min w h) = b at *
        have hba : b ≠ a := fun q => by rw [q] at hb1; omega
        have hbD : ins D a b = false := by
          cases q : ins D a b with
          | false => rfl
          | true =>
            rcases ins_iff.1 q with q | q
            · have := hD b q; omega
            · exact absurd q hba
        have hD2 : ∀ v, ins D a v = true → (Lv L v).1 < y + w := fun v q => by
          rcases ins_iff.1 q with q | q
          · have := hD v q; omega
          · rw [q]; omega
        have hP2 : ∀ s ∈ P ++ [((x, y, min w h) : T3)], ins D a (tp L s) = true ∨ tp L s = b := fun s hs => by
          rcases List.mem_append.1 hs with q | q
          · rcases hP s q with r | r
            · exact .inl (ins_of r)
            · exact .inl (by rw [r]; exact ins_self D a)
          · rw [List.mem_singleton.1 q, htp]; exact .inl (ins_self D a)
        obtain ⟨i1, i2⟩ := ih (D := ins D a) hl' hL2 e1 w0 (by omega) hxw (by omega) hbt.1 hb1 (by omega) (by omega) hD2 hP2
        have hg : Int.gcd w (h - w) = Int.gcd w h := by rw [Int.gcd_comm w (h - w), Int.gcd_sub_right_left_of_dvd h (Int.dvd_refl w), Int.gcd_comm]
        rw [hg, ins_comm D a t] at i1 i2
        have hiso : ∀ f ∈ wsOf L l', f.1 ≠ a ∧ f.2 ≠ a := fun f hf => by
          obtain ⟨s, hs, rfl⟩ := List.mem_map.1 hf
          have hsL' : s ∈ L := by rw [hL2]; exact List.mem_append_right _ hs
          have h1 := tp_at d.side hsL'
          have h2 := bt_at d.side hsL'
          have h3 := hin s hs
          exact ⟨fun q => by dsimp only at q; rw [q] at h1; omega, fun q => by dsimp only at q; rw [q] at h2; omega⟩
        have hbt2 : b ≠ t := fun q => by rw [q] at hb1; omega
        have hSb : ins (ins D t) a b = false := by rw [ins_comm D t a]; simp [ins, hbt2]; simpa [ins] using hbD
        have g0 : cnt (RF (lvsL L).length (ins D t)) (wsOf L l') = 0 := cnt_false fun q hq => RF.alone ha hSa (iso_sub hiso hq)
        have g1 : cnt (fun q => RF (lvsL L).length (ins D t) ((a, b) :: q)) (wsOf L l') = cnt (RF (lvsL L).length (ins (ins D t) a)) (wsOf L l') := cnt_iff fun q hq => RF.leaf (hwf.sub (hq.cons_cons _)) hSa (iso_sub hiso hq)
        have g2 : cnt (fun q => RF (lvsL L).length (ins (ins D t) a) ((a, b) :: q)) (wsOf L l') = cnt (RF (lvsL L).length (ins (ins (ins D t) a) b)) (wsOf L l') := cnt_iff fun q hq => RF.grow (hwf.sub (hq.cons_cons _)) (ins_self _ a) hSb
        refine ⟨?_, ?_⟩
        · show ((cnt (RF (lvsL L).length (ins D t)) (wsOf L l') + cnt (fun q => RF (lvsL L).length (ins D t) ((a, b) :: q)) (wsOf L l') : Nat) : Int) * _ = _
          rw [g0, g1, Nat.zero_add]; exact i1
        · show ((cnt (RF (lvsL L).length (ins (ins D t) a)) (wsOf L l') + cnt (fun q => RF (lvsL L).length (ins (ins D t) a) ((a, b) :: q)) (wsOf L l') : Nat) : Int) * _ = _
          rw [g2, Int.natCast_add, Int.add_mul, i1, i2]; omega

/-- The trees and the voltage of the network of the greatest squares. -/
theorem ladder_all {W H : Int} {L : List T3} (d : Diss W H L) (e : cutF 16 0 0 W H = some L) :
    (trees (lvsL L).length (wsL L) : Int) * (Int.gcd W H : Nat) = W ∧ (volt (lvsL L).length (wsL L) 0 ((lvsL L).length - 1) : Int) * (Int.gcd W H : Nat) = H := by
  have hw := d.w
  have hh := d.h
  have h2 := lv_two d
  have y0 := (lv_zero d (v := 0) (by omega)).2 rfl
  have i0 := lv_in d (v := 0) (by omega)
  have f0 := lv_first d (v := 0) (by omega) y0
  have := ladder d _ (a := 0) (P := []) (D := fun _ => false) rfl rfl e (by omega) (by omega) (by omega) (by omega) (by omega) y0 (by omega) (by omega) (fun v h => by cases h) (by simp)
  have e1 : ins (fun _ => false) ((lvsL L).length - 1) = Dt.one ((lvsL L).length - 1) := by funext v; simp [ins, Dt.one]
  rw [e1] at this
  rw [← trees_at (t := (lvsL L).length - 1) (by omega)]
  exact this

end Go.Proofs.YtkdcldbedbagjaaDoor

/- SquareLadder. -/
namespace Go.Proofs.YtkdcldbedbagjaaDoor
open Go.Lf Go.RowKit Go.Dt

theorem lowest_terms {T V Wn Hn : Nat} (hW : 0 < Wn) (h1 : T * Nat.gcd Wn Hn = Wn) (h2 : V * Nat.gcd Wn Hn = Hn) : paceOf V T = ((V : Int), (T : Int)) ∧ Wn / Nat.gcd Wn Hn = T ∧ Hn / Nat.gcd Wn Hn = V := by
  have hg : 0 < Nat.gcd Wn Hn := Nat.gcd_pos_of_pos_left _ hW
  generalize hgd : Nat.gcd Wn Hn = g at *
  have e1 : Wn / g = T := by rw [← h1]; exact Nat.mul_div_cancel _ hg
  have e2 : Hn / g = V := by rw [← h2]; exact Nat.mul_div_cancel _ hg
  have e3 : Nat.gcd V T = 1 := by
    have h := Nat.gcd_mul_right V g T
    rw [h1, h2, Nat.gcd_comm Hn Wn, hgd] at h
    exact Nat.eq_of_mul_eq_mul_right hg (by rw [Nat.one_mul]; exact h.symm)
  refine ⟨?_, e1, e2⟩
  unfold paceOf
  rw [e3, Nat.div_one, Nat.div_one]

set_option maxRecDepth 100000 in
set_option maxHeartbeats 2000000 in
theorem r13_0 {W H : Nat} {T V : Nat} {cv : Value} {b9 b11 : Nat} {W0 wm : World} (hw : Wh W0) (km : Kp W0 wm) (hW0 : 0 < W) (hW : W ≤ 1000) (hH : H ≤ 1000) (h1 : T * Nat.gcd W H = W) (h2 : V * Nat.gcd W H = H)
    (h9 : wm.heap[b9]? = some (.cells #[.int .i64 V, .int .i64 T] 58 (0, 0))) (h11 : wm.heap[b11]? = some (.cells #[cv, .int .i64 T, .int .i64 V] 36 (0, 0))) :
    S13L0 (.int .i64 W) (.int .i64 H) (ptrV b9) (ptrV b11) (fun e w' => e = .returned (.bool true) ∧ Kp W0 w') wm := by
  obtain ⟨_, e1, e2⟩ := lowest_terms hW0 h1 h2
  have hgp : 0 < Nat.gcd W H := Nat.gcd_pos_of_pos_left _ hW0
  unfold S13L0
  refine ⟨fun t13 t14 wr => ∃ a b : Nat, t13 = .int .i64 a ∧ t14 = .int .i64 b ∧ Nat.gcd a b = Nat.gcd W H ∧ Kp wm wr, fun _ t14 _ => (intOf t14).toNat, ⟨W, H, rfl, rfl, rfl, Kp.refl _⟩, ?_⟩
  rintro _ _ _ wr ⟨a, b, rfl, rfl, hg, kr⟩
  by_cases hb0 : b = 0
  · have hb0' : (b : Int) = 0 := by omega
    rw [hb0, Nat.gcd_zero_right] at hg
    rw [r_neq, decide_eq_true hb0', Bool.not_true, r_condF]
    refine r_drew fun w3 k3 _ => ?_
    have k03 := Kp.trans kr k3
    have h93 := block_below h9 k03
    have h113 := block_below h11 k03
    have p1 : w3.cell? ⟨b11, 1, none⟩ = some (.int .i64 (T : Nat)) := by rw [cell_row h113]; rfl
    have p2 : w3.cell? ⟨b11, 2, none⟩ = some (.int .i64 (V : Nat)) := by rw [cell_row h113]; rfl
    have q1 : ∀ K : Value → Prop, binQ Tryd.prog w3 .quo 3 false (.int .i64 H) (.int .i64 a) K = K (.int .i64 V) := fun K => by rw [r_quoN _ _ (by omega) (by omega), hg, e2]
    have q2 : ∀ K : Value → Prop, binQ Tryd.prog w3 .quo 3 false (.int .i64 W) (.int .i64 a) K = K (.int .i64 T) := fun K => by rw [r_quoN _ _ (by omega) (by omega), hg, e1]
    have heq : ∀ K : Value → Prop, binQ Tryd.prog w3 .eql 58 false (wV V T) (wV V T) K = K (.bool true) := fun K => (r_eq58 ((V : Int), (T : Int)) ((V : Int), (T : Int)) K).trans (by simp)
    have hself : ∀ q : Int, decide (q = q) = true := fun q => decide_eq_true rfl
    rw [pace_box h93, q1, q2, bd58, heq]
    simp only [r_gqTT, r_fa, Nat.zero_add, r_ld p1, r_ld p2, q1, q2, r_eql, hself, decide_true, r_pickT, r_gdTT]
    refine r_use fok14 (alive_calls w3 (hw.kp (Kp.trans km k03))) rfl ?_
    rintro _ w4 ⟨rfl, k4⟩
    refine ⟨_, rfl, r_keep k4 ?_⟩
    exact ⟨by first | rfl | trivial, Kp.trans km (Kp.trans k03 k4)⟩
  · have hb0' : ¬ (b : Int) = 0 := by omega
    rw [r_neq, decide_eq_false hb0', Bool.not_false, r_condT]
    refine r_drew fun w3 k3 _ => ?_
    rw [r_remN _ _ (by omega)]
    have hlt := Nat.mod_lt a (show 0 < b by omega)
    exact ⟨⟨b, a % b, rfl, rfl, by rw [Nat.gcd_comm, ← hg, Nat.gcd_comm a b, Nat.gcd_rec b a], Kp.trans kr k3⟩, by simp only [intOf]; omega⟩

set_option maxRecDepth 100000 in
set_option maxHeartbeats 2000000 in
theorem law_ladder (W H : Int) (W0 : World) (hw : Wh W0) : Calls Tryd.prog 13 #[.int .i64 W, .int .i64 H] W0 fun e w' => e = .returned (.bool true) ∧ Kp W0 w' := by
  have fin : ∀ w' : World, Kp W0 w' → callW Tryd.prog (.func (.func 14) #[] #[]) [] w' fun t w1 => Ending.returned t = .returned (.bool true) ∧ Kp W0 w1 := fun w' k => by
    refine r_use fok14 (alive_calls w' (hw.kp k)) rfl ?_
    rintro _ w4 ⟨rfl, k4⟩
    exact ⟨_, rfl, rfl, Kp.trans k k4⟩
  refine lift13 ?_
  unfold S13
  refine r_use fok34 (Cut_calls W H W0) rfl ?_
  rintro _ w1 ⟨k1, v, rfl, o1⟩
  refine ⟨_, rfl, ?_⟩
  rw [r_ex2a, r_ex2b]
  obtain ⟨va, vc, ev, _⟩ := o1.len
  have lnv : ∀ K : Value → Prop, ln1 v K = K (.int .i64 (cutS W H).length) := fun K => by rw [ev]; rfl
  have n00 : decide ((0 : Int) = 0) = true := rfl
  have hself : ∀ q : Int, decide (q = q) = true := fun q => decide_eq_true rfl
  by_cases hB : (rectB W && rectB H) = true ∧ (cutF 16 0 0 W H).isSome
  case neg =>
    have hE : cutE W H ≠ 0 := by
      unfold cutE
      by_cases a : (rectB W && rectB H) = true
      · rw [if_pos a, if_neg fun b => hB ⟨a, b⟩]; decide
      · rw [if_neg a]; decide
    have hS : cutS W H = [] := by
      unfold cutS
      by_cases a : (rectB W && rectB H) = true
      · rw [if_pos a]
        cases c : cutF 16 0 0 W H with
        | none => rfl
        | some l => exact absurd ⟨a, by rw [c]; rfl⟩ hB
      · rw [if_neg a]
    have lnv' : ∀ K : Value → Prop, ln1 v K = K (.int .i64 0) := fun K => by rw [lnv, hS]; rfl
    simp only [r_ln, r_pick, r_pickT, r_pickF, r_condT, r_condF, r_gdTT, r_gdFF, r_gdTF, r_gdFT, r_gqTT, r_gqFF, r_gqTF, r_gqFT, r_not, r_lss, r_leq, r_gtr, r_geq, r_eql, r_neq, r_add, r_sub, r_min2, r_max2, r_min3, r_max3, r_fa, r_iaS, r_iaA, r_ex2a, r_ex2b, r_ex3a, r_ex3b, r_ex3c, r_nc, r_keepE, Nat.zero_add, Nat.add_zero, Nat.mul_one, Int.toNat_natCast, toNat_sub1, toNat_add1, decide_true, decide_false, Bool.not_true, Bool.not_false, if_true, if_false, Bool.false_eq_true, reduceCtorEq, r_gdU, lnv', decide_eq_false hE, n00]
    refine r_use fok14 (alive_calls w1 (hw.kp k1)) rfl ?_
    rintro _ w4 ⟨rfl, k4⟩
    exact ⟨_, rfl, rfl, Kp.trans k1 k4⟩
  obtain ⟨hB, hso⟩ := hB
  obtain ⟨l, hF⟩ := Option.isSome_iff_exists.1 hso
  have hE : cutE W H = 0 := by unfold cutE; rw [if_pos hB, if_pos hso]
  have hS : cutS W H = l := by unfold cutS; rw [if_pos hB, hF]; rfl
  have hl := cutS_len W H
  rw [Bool.and_eq_true] at hB
  have bW := of_decide_eq_true hB.1
  have bH := of_decide_eq_true hB.2
  rw [hS] at lnv hl o1
  have hbb := cut_is (by omega) (by omega) hF
  have d := diss_of hB.1 hB.2 hbb
  rw [hE]
  simp only [r_ln, r_pick, r_pickT, r_pickF, r_condT, r_condF, r_gdTT, r_gdFF, r_gdTF, r_gdFT, r_gqTT, r_gqFF, r_gqTF, r_gqFT, r_not, r_lss, r_leq, r_gtr, r_geq, r_eql, r_neq, r_add, r_sub, r_min2, r_max2, r_min3, r_max3, r_fa, r_iaS, r_iaA, r_ex2a, r_ex2b, r_ex3a, r_ex3b, r_ex3c, r_nc, r_keepE, Nat.zero_add, Nat.add_zero, Nat.mul_one, Int.toNat_natCast, toNat_sub1, toNat_add1, decide_true, decide_false, Bool.not_true, Bool.not_false, if_true, if_false, Bool.false_eq_true, reduceCtorEq, r_gdU, n00]
  refine r_use fok17 (Network_calls (W := W) (H := H) w1 (o1.rd t3C_len)) rfl ?_
  rintro _ w2 ⟨k2, nv, rfl, hN⟩
  refine ⟨_, rfl, ?_⟩
  have k02 := Kp.trans k1 k2
  by_cases h8 : (lvsL l).length ≤ 8
  case neg =>
    have hE : nwE W H l = 8 := by
      have := (Is_true hB.1 hB.2 hl hbb).2
      unfold nwE
      rw [if_pos this, if_pos hbb, if_pos (by omega)]
    have n80 : decide ((8 : Int) = 0) = false := rfl
    rw [hE]
    simp only [r_ln, r_pick, r_pickT, r_pickF, r_condT, r_condF, r_gdTT, r_gdFF, r_gdTF, r_gdFT, r_gqTT, r_gqFF, r_gqTF, r_gqFT, r_not, r_lss, r_leq, r_gtr, r_geq, r_eql, r_neq, r_add, r_sub, r_min2, r_max2, r_min3, r_max3, r_fa, r_iaS, r_iaA, r_ex2a, r_ex2b, r_ex3a, r_ex3b, r_ex3c, r_nc, r_keepE, Nat.zero_add, Nat.add_zero, Nat.mul_one, Int.toNat_natCast, toNat_sub1, toNat_add1, decide_true, decide_false, Bool.not_true, Bool.not_false, if_true, if_false, Bool.false_eq_true, reduceCtorEq, r_gdU, n80, hself]
    refine r_use fok14 (alive_calls w2 (hw.kp k02)) rfl ?_
    rintro _ w4 ⟨rfl, k4⟩
    exact ⟨_, rfl, rfl, Kp.trans k02 k4⟩
  have hE : nwE W H l = 0 := by
    have := (Is_true hB.1 hB.2 hl hbb).2
    unfold nwE
    rw [if_pos this, if_pos hbb, if_neg (by omega)]
  obtain ⟨_, hW, hH, _, _, z1, z2⟩ := nw_ok hE
  rw [z2] at hN
  rw [hE, z1]
  have h2 := lv_two d
  simp (disch := omega) only [r_ln, r_pick, r_pickT, r_pickF, r_condT, r_condF, r_gdTT, r_gdFF, r_gdTF, r_gdFT, r_gqTT, r_gqFF, r_gqTF, r_gqFT, r_not, r_lss, r_leq, r_gtr, r_geq, r_eql, r_neq, r_add, r_sub, r_min2, r_max2, r_min3, r_max3, r_fa, r_iaS, r_iaA, r_ex2a, r_ex2b, r_ex3a, r_ex3b, r_ex3c, r_nc, r_keepE, Nat.zero_add, Nat.add_zero, Nat.mul_one, Int.toNat_natCast, toNat_sub1, toNat_add1, decide_true, decide_false, Bool.not_true, Bool.not_false, if_true, if_false, Bool.false_eq_true, reduceCtorEq, n00]
  have hrw : RdW w2 nv (wiresL l) := hN.rd wC_len
  refine r_use fok36 (Resist_calls (n := (lvsL l).length) (s := 0) (t := ((lvsL l).length : Int) - 1) w2 (hw.kp k02) hrw) rfl ?_
  rintro _ w3 ⟨k3, rfl⟩
  refine ⟨_, rfl, ?_⟩
  have k03 := Kp.trans k02 k3
  obtain ⟨tE, tT, tV, tC⟩ := nw_through d h8 hl
  rw [tE, r_ex2a, r_ex2b]
  refine r_box fun b9 w4 e9 s9 h9 k4 => ?_
  have h9' : w4.heap[b9]? = some (.cells #[.int .i64 0, .int .i64 0] 58 (0, 0)) := h9
  have sz3 := k03.size
  refine st58 h9' fun w5 c5 s5 h95 => ?_
  have k35 : Kp w3 w5 := Kp.of_chg k4 c5 fun q e => by omega
  have k05 := Kp.trans k03 k35
  refine r_use fok22 (Through_calls (n := (lvsL l).length) (s := 0) (t := ((lvsL l).length : Int) - 1) w5 (hw.kp k05) (hrw.kp (Kp.trans k3 k35))) rfl ?_
  rintro _ w6 ⟨k6, cv, rfl, hC⟩
  refine ⟨_, rfl, ?_⟩
  have k06 := Kp.trans k05 k6
  rw [tE, tT, tV, r_ex2a, r_ex2b]
  obtain ⟨ca, cc, ecv, _⟩ := RecAt.len hC
  refine r_box fun b11 w7 e11 s11 h11 k7 => ?_
  have h11' : w7.heap[b11]? = some (.cells #[.slice none 0 0, .int .i64 0, .int .i64 0] 36 (0, 0)) := h11
  have sz6 := k06.size
  have sz5 := k6.size
  rw [ecv]
  refine st36 h11' fun w8 c8 s8 h118 => ?_
  rw [← ecv] at h118
  have k68 : Kp w6 w8 := Kp.of_chg k7 c8 fun q e => by omega
  have k08 := Kp.trans k06 k68
  have h98 := block_below h95 (Kp.trans k6 k68)
  simp only [r_neq, n00, Bool.not_true, r_gdFF, r_pickF, r_condF]
  -- the numbers
  obtain ⟨m1, m2⟩ := ladder_all d hF
  obtain ⟨Wn, rfl⟩ : ∃ Wn : Nat, W = Wn := ⟨W.toNat, by omega⟩
  obtain ⟨Hn, rfl⟩ : ∃ Hn : Nat, H = Hn := ⟨H.toNat, by omega⟩
  have hgg : Int.gcd (Wn : Int) (Hn : Int) = Nat.gcd Wn Hn := rfl
  rw [hgg] at m1 m2
  have m1' : trees (lvsL l).length (wsL l) * Nat.gcd Wn Hn = Wn := by
    have : ((trees (lvsL l).length (wsL l) * Nat.gcd Wn Hn : Nat) : Int) = (Wn : Int) := by rw [Int.natCast_mul]; exact m1
    omega
  have m2' : volt (lvsL l).length (wsL l) 0 ((lvsL l).length - 1) * Nat.gcd Wn Hn = Hn := by
    have : ((volt (lvsL l).length (wsL l) 0 ((lvsL l).length - 1) * Nat.gcd Wn Hn : Nat) : Int) = (Hn : Int) := by rw [Int.natCast_mul]; exact m2
    omega
  obtain ⟨lp, _, _⟩ := lowest_terms (by omega) m1' m2'
  have ht := wsL_trees d
  have hP : rsP (lvsL l).length (wiresL l) 0 (((lvsL l).length : Int) - 1) = ((volt (lvsL l).length (wsL l) 0 ((lvsL l).length - 1) : Int), (trees (lvsL l).length (wsL l) : Int)) := by
    have e : (((lvsL l).length : Int) - 1).toNat = (lvsL l).length - 1 := by omega
    unfold rsP shP
    rw [if_pos (nw_net d h8 hl), wsL_nat, Int.toNat_natCast, if_neg (by omega), e]
    exact lp
  rw [hP] at h98
  exact r13_0 hw k08 (by omega) (by omega) (by omega) m1' m2' h98 h118

end Go.Proofs.YtkdcldbedbagjaaDoor

/- From a contract that a law returns true to the given statement. -/
namespace Go.Proofs.YtkdcldbedbagjaaDoor
open Go.ChangeShapes Go.WideShapes Go.ChangeAt Go.RowKit Go.Lf

theorem own : ownKnob Tryd.prog.godebug = none := by kernel_rfl
theorem laid : laidOutB Tryd.prog = true := by kernel_rfl
theorem und4 : Tryd.prog.underlying 4 = some .bool := by kernel_rfl
/-- What the rows list: the package's variable. -/
def laid1 : List (String × DataW Unit) := [("encaustic/square.whole", Rows.laid_encaustic_square_whole)]
theorem gWhole : Tryd.prog.globalNamed "encaustic/square.whole" = some 0 := by kernel_rfl
theorem tWhole : (Tryd.prog.globals[0]?).map (·.type) = some 100 := by kernel_rfl
theorem cells74 : Tryd.prog.cellsOf 74 = 1 := by kernel_rfl
theorem cells100 : Tryd.prog.cellsOf 100 = 3 := by kernel_rfl

theorem door_met (os : Os) (args : Array Value) : laidMetH Tryd.prog laid1 ((World.doorLaid Tryd.prog 14 os).forCall (fun _ _ => 0) ⟨#[], args, []⟩).memory :=
  laidMetH_of_parts3 (fuel := 8) (laidMet_of_run' 8 (by kernel_rfl) (by kernel_rfl)) (by kernel_rfl) (by kernel_rfl)

def tok (k : UInt8) : List UInt8 := [101, 110, 99, 97, 117, 115, 116, 105, 99, 47, 115, 113, 117, 97, 114, 101, 46, 119, 104, 111, 108, 101, 36, k]

set_option maxRecDepth 100000 in
theorem wh_of_laid {W : World} (h : laidMetH Tryd.prog laid1 W) : Wh W := by
  obtain ⟨g, t, cs, fuel, p, hg, ht, hv, hd⟩ := h.funcs (List.mem_singleton.2 rfl)
  obtain rfl := Option.some.inj (gWhole.symm.trans hg)
  obtain rfl := Option.some.inj (tWhole.symm.trans ht)
  have hd' : DataW.trod (funcToken Tryd.prog) Tryd.prog W 0 (fun _ => true) true fuel 100 cs.toList = some (.agg [.held (tok 49), .held (tok 50), .held (tok 51)], p) := hd
  obtain ⟨y0, y1, y2, n, hx, hl, t0, t1, t2⟩ := Deep.trod_struct3 Tryd.underlying100 hd'
  rw [cells100] at hl
  simp only [Prod.mk.injEq, DataW.agg.injEq, List.cons.injEq] at hx
  obtain ⟨⟨e0, e1, e2, _⟩, _⟩ := hx
  obtain ⟨x0, q0⟩ := y0
  obtain ⟨x1, q1⟩ := y1
  obtain ⟨x2, q2⟩ := y2
  simp only at e0 e1 e2
  subst e0; subst e1; subst e2
  have hcs : ∃ a b c, cs.toList = [a, b, c] := by
    match cs.toList, hl with
    | [a, b, c], _ => exact ⟨a, b, c, rfl⟩
  obtain ⟨a, b, c, hcs⟩ := hcs
  rw [hcs] at t0 t1 t2
  simp only [cells74, List.drop_zero, List.take_succ_cons, List.take_zero, List.drop_succ_cons] at t0 t1 t2
  obtain rfl := func_of_trod (f0 := 122) Tryd.underlying74 (by kernel_rfl) t0
  obtain rfl := func_of_trod (f0 := 123) Tryd.underlying74 (by kernel_rfl) t1
  obtain rfl := func_of_trod (f0 := 124) Tryd.underlying74 (by kernel_rfl) t2
  have hcs' : cs = #[fnV 122, fnV 123, fnV 124] := Array.ext' (by rw [hcs])
  intro j u hu
  have := World.var?_cell hg hv j
  rw [hcs'] at this
  rw [Nat.zero_add, this]
  match j, hu with
  | 0, hu => exact hu
  | 1, hu => exact hu
  | 2, hu => exact hu

section
variable {H : Type} {enc : TypeId × Value → H}

theorem below_trodAll {P : Program} (hl : laidOutB P = true) {W W' : World} (hb : Below W.heap.size W W') (ts : List TypeId) : ∀ {vs : List Value} {ds : List (DataW H)} {p : List MemPlace},
    (ts.all fun t => P.readableRec t && Nat.blt t P.types.size) = true → DataW.TrodAll enc P W 0 (fun _ => true) true ts vs ds p → (∀ x ∈ p, x.block < W.heap.size) →
      DataW.TrodAll enc P W' 0 (fun b => decide (b < W.heap.size)) true ts vs ds p := by
  induction ts with
  | nil =>
    intro vs ds p _ h _
    obtain ⟨rfl, rfl, rfl⟩ := trodAll_nil h
    exact trodAll_mk0
  | cons t ts ih =>
    intro vs ds p hr h hlt
    obtain ⟨v, vs', d, ds', p0, q0, rfl, rfl, rfl, h0, r0⟩ := trodAll_cons h
    simp only [List.all_cons, Bool.and_eq_true, Nat.blt_eq] at hr
    exact trodAll_cons_mk (Below.trod hl hr.1.1 hr.1.2 h0 hb fun x hx => hlt x (by simp [hx])) (ih (by simpa using hr.2) r0 fun x hx => hlt x (by simp [hx]))

theorem trodAll_length {P : Program} {W : World} {base : Nat} {sp : Nat → Bool} {hd : Bool} (ts : List TypeId) : ∀ {vs : List Value} {ds : List (DataW H)} {p : List MemPlace}, DataW.TrodAll enc P W base sp hd ts vs ds p → vs.length = ts.length ∧ ds.length = ts.length := by
  induction ts with
  | nil =>
    intro vs ds p h
    obtain ⟨rfl, rfl, rfl⟩ := trodAll_nil h
    exact ⟨rfl, rfl⟩
  | cons t ts ih =>
    intro vs ds p h
    obtain ⟨v, vs', d, ds', p0, q0, rfl, rfl, rfl, h0, r0⟩ := trodAll_cons h
    have := ih r0
    simp only [List.length_cons]
    omega

set_option maxRecDepth 100000 in
theorem law_lifted {s : ChangeSpec} {conds : List PathCond} {f : FuncId} {fn : Func} {os : Os} (started : os.Started) (hvars : s.vars = []) (noInit : Tryd.prog.inits.idxOf? f = none) (hfn : Tryd.prog.funcs[f]? = some fn)
    (hres : fn.resultTypes = #[4]) (hread : (fn.params.toList.all fun t => Tryd.prog.readableRec t && Nat.blt t Tryd.prog.types.size) = true)
    (hspec : ∀ ds : List (DataW H), ds.length = fn.params.toList.length → (s.fn H ds).results = [.lit (.bool true)] ∧ (s.fn H ds).args = ds ∧ (s.fn H ds).vars = [])
    (wit : ∃ (w : World) (tape : Tape) (i : Input), w.os = os ∧ (w.forCall tape i).Shaped Tryd.prog ∧ i.vars = [] ∧ Input.okWide Tryd.prog (w.forCall tape i) .any w.heap.size f i ∧
      ((s.pre enc Tryd.prog fn conds false (w.forCall tape i).memory i.args ∧ laidMetH Tryd.prog laid1 (w.forCall tape i).memory) ∧ sizedMet enc Tryd.prog fn (OpenSpec.ofChange s) false (w.forCall tape i).memory i.args) ∧ ({} : Assume).holds Tryd.prog (lone (Frame.enter Tryd.prog f i.args .normal) [] (w.forCall tape i)))
    (walk : ∀ (W : World) (base : Nat) (args : Array Value) (ds : List (DataW H)) (p : List MemPlace), Wh W → (∀ (j : Nat) t v, fn.params[j]? = some t → args[j]? = some v → Value.okWide Tryd.prog W .any base t v) →
      DataW.TrodAll enc Tryd.prog W 0 (fun _ => true) true fn.params.toList args.toList ds p → Calls Tryd.prog f args W fun e W' => e = .returned (.bool true) ∧ Kp W W') :
    ReturnsInHanded {} Tryd.checked os f .any (fun w args => (s.pre enc Tryd.prog fn conds false w args ∧ laidMetH Tryd.prog laid1 w) ∧ sizedMet enc Tryd.prog fn (OpenSpec.ofChange s) false w args) (s.post enc Tryd.prog fn false true false false) := by
  refine returnsInHanded_of_change_and (C := Tryd.checked) (X := fun w _ => laidMetH Tryd.prog laid1 w) (fun _ _ _ hh h => h.of_heap hh) own started noInit hfn wit ?_
  intro W base args ds gs before hval hW hcnd _ hL _
  have hW' := hW
  obtain ⟨p, q, hA, hV, rfl, _, _⟩ := hW
  rw [hvars] at hV
  obtain ⟨rfl, rfl⟩ := trodVars_none hV
  have hlt : ∀ x ∈ p, x.block < W.heap.size := fun x hx => hW'.lt x (by simp [hx])
  have hlen := (trodAll_length _ hA).2
  obtain ⟨g1, g2, g3⟩ := hspec ds hlen
  refine (walk W base args ds p (wh_of_laid hL) hval hA).mono fun e W' ⟨he, hk⟩ => ?_
  subst he
  refine ⟨_, rfl, ds, [], p ++ [], [], p, [], hW', ?_, ?_, ?_, hk.frame _, fun h => by cases h⟩
  · rw [List.append_nil, g1, hres]
    exact trodAll_mk1 (shut_bool und4 _)
  · rw [List.append_nil, g2]
    exact below_trodAll laid hk _ hread hA hlt
  · rw [List.append_nil, g3, hvars]
    rfl

end

theorem wf_u8 {n : Int} (h : (Lit.int .u8 n).wf = true) : ∃ k : Nat, n = k ∧ k ≤ 255 := by
  have e1 : IntKind.u8.min = 0 := by decide
  have e2 : IntKind.u8.max = 255 := by decide
  simp [Lit.wf, e1, e2] at h
  exact ⟨n.toNat, by omega, by omega⟩
theorem wf_u32 {n : Int} (h : (Lit.int .u32 n).wf = true) : ∃ k : Nat, n = k ∧ k ≤ 4294967295 := by
  have e1 : IntKind.u32.min = 0 := by decide
  have e2 : IntKind.u32.max = 4294967295 := by decide
  simp [Lit.wf, e1, e2] at h
  exact ⟨n.toNat, by omega, by omega⟩
theorem wf_i64 {n : Int} (h : (Lit.int .i64 n).wf = true) : -9223372036854775808 ≤ n ∧ n ≤ 9223372036854775807 := by
  have e1 : IntKind.i64.min = -9223372036854775808 := by decide
  have e2 : IntKind.i64.max = 9223372036854775807 := by decide
  simpa [Lit.wf, e1, e2] using h

theorem und3 : Tryd.prog.underlying 3 = some (.int .i64) := by kernel_rfl

end Go.Proofs.YtkdcldbedbagjaaDoor
