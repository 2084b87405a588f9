/- Texts of my own, merged by program: Nh Ni. -/
import Derived.Test.YtbekeccfjmoonaaDoorM28
set_option linter.all false
/- Contract: reached. -/
namespace Go.Proofs.YtbekeccfjmoonaaDoor
open Go.Lf Go.RowKit Go.Ht Go.MapKept Go.ChangeMaps

def kingsL : List C2 := [(-1, -1), (0, -1), (1, -1), (-1, 0), (0, 0), (1, 0), (-1, 1), (0, 1), (1, 1)]
def BQ (l : List ByteArray) (c : C2) : Prop := -1 ≤ c.1 ∧ -1 ≤ c.2 ∧ c.1 ≤ widI l ∧ c.2 ≤ lenI l
theorem wiB_BQ {l : List ByteArray} {c : C2} (h : wiB l c = true) : BQ l c := by
  unfold wiB at h
  simp only [Bool.and_eq_true, decide_eq_true_eq] at h
  exact ⟨h.1.1.1.1, h.1.1.1.2, h.1.1.2, h.1.2⟩
theorem q_head {w : World} {v : Value} {c : C2} {P : List C2} (h : RdC w v (c :: P)) : (∀ K : Value → Prop, (iaS 2 v (.int .i64 0) fun p => fa1 p 0 fun q => ld1 w q K) = K (.int .i64 c.1)) ∧ (∀ K : Value → Prop, (iaS 2 v (.int .i64 0) fun p => fa1 p 1 fun q => ld1 w q K) = K (.int .i64 c.2)) := by
  obtain ⟨b, off, cap, e, hl, hc⟩ := h.at (i := 0) (x := c) rfl
  have h0 := hc 0 _ rfl
  have h1 := hc 1 _ rfl
  simp only [Nat.zero_mul, Nat.add_zero] at h0 h1
  have hz : (0 : Int).toNat = 0 := rfl
  refine ⟨fun K => ?_, fun K => ?_⟩
  · rw [e, r_iaS _ _ _ _ _ _ _ (by omega) (by omega), hz, Nat.zero_mul, Nat.add_zero, r_fa, Nat.add_zero, r_ld h0]
  · rw [e, r_iaS _ _ _ _ _ _ _ (by omega) (by omega), hz, Nat.zero_mul, Nat.add_zero, r_fa, r_ld h1]

structure RInv (l : List ByteArray) (Q : C2 → Prop) (B mb : Nat) (w : World) (v : Value) (P : List C2) (f : C2 → Option Value) : Prop where
  qu : QuAt B w v P
  qs : ∀ c ∈ P, Q c ∧ BQ l c
  mp : MapO cV okC w mb f
  ms : ∀ k u, f k = some u → u = .bool true ∧ Q k

set_option maxRecDepth 100000 in
set_option maxHeartbeats 2000000 in
theorem r31_1 {v kv t8 : Value} {l : List ByteArray} {b4 mb B : Nat} {c0 : C2} {P : List C2} {f : C2 → Option Value} {w0 w1 : World} {Q : C2 → Prop} {next : Value → World → Prop}
    (h4 : w0.heap[b4]? = some (.cells #[.int .i64 (l.getD 0 dB).size, .int .i64 l.length, v] 63 (0, 0))) (hr : RdB w0 v l) (hR : RegOk l 8) (hk : RdC w0 kv kingsL)
    (hcl : ∀ c s, Q c → s ∈ kingsL → wiB l (stepC c s) = true → Q (stepC c s)) (hB : B = w0.heap.size) (hmb : B ≤ mb) (k01 : Kp w0 w1)
    (hI : RInv l Q B mb w1 t8 (c0 :: P) f) (hPl : 2 * missing l w1 mb + P.length ≤ 1000)
    (hnext : ∀ v' w' P' f', RInv l Q B mb w' v' P' f' → Kp w0 w' → 2 * missing l w' mb + P'.length ≤ 2 * missing l w1 mb + P.length → next v' w') :
    S31L1 (.func (.func 29) #[] #[ptrV b4]) kv t8 (.map (some mb)) (.int .i64 9) next w1 := by
  have hlen := hR.len
  have hwid := hR.wid
  subst hB
  unfold S31L1
  refine ⟨fun t8 t24 wr => ∃ (j : Nat) (P' : List C2) (f' : C2 → Option Value), j ≤ 9 ∧ t24 = .int .i64 j ∧ RInv l Q w0.heap.size mb wr t8 (c0 :: P') f' ∧ Kp w0 wr ∧ 2 * missing l wr mb + P'.length ≤ 2 * missing l w1 mb + P.length, fun _ t24 _ => 9 - (intOf t24).toNat,
    ⟨0, P, f, by omega, rfl, hI, k01, Nat.le_refl _⟩, ?_⟩
  rintro _ t8 _ wr ⟨j, P', f', hj, rfl, hI, kr, hle⟩
  have szr := kr.size
  by_cases hlt : j < 9
  case neg =>
    have hlt' : ¬ (j : Int) < 9 := by omega
    rw [r_lss, decide_eq_false hlt', r_condF]
    obtain ⟨v', hsl, hq⟩ := hI.qu.tail
    rw [hsl]
    exact hnext v' wr P' f' ⟨hq, fun c hc => hI.qs c (List.mem_cons_of_mem _ hc), hI.mp, hI.ms⟩ kr hle
  have hlt' : (j : Int) < 9 := by omega
  have hsl : j < kingsL.length := hlt
  rw [r_lss, decide_eq_true hlt', r_condT, cell_at (hk.kp kr) hsl]
  have hsm : kingsL.getD j (0, 0) ∈ kingsL := getD_mem hsl
  have hsb : ∀ s ∈ kingsL, -1 ≤ s.1 ∧ s.1 ≤ 1 ∧ -1 ≤ s.2 ∧ s.2 ≤ 1 := by decide
  have hs := hsb _ hsm
  generalize kingsL.getD j (0, 0) = s at *
  refine r_box fun b10 w2 e10 s10 h10 k2 => ?_
  have h10' : w2.heap[b10]? = some (.cells #[.int .i64 0, .int .i64 0] 43 (0, 0)) := h10
  refine st43 h10' fun w3 c3 s3 h103 => ?_
  have kr3 : Kp wr w3 := Kp.of_chg k2 c3 fun q e => by omega
  refine r_drew fun w4 k4 _ => ?_
  have kr4 := Kp.trans kr3 k4
  obtain ⟨p0, p1⟩ := c_cells (p := s) (block_below h103 k4)
  obtain ⟨q0, q1⟩ := q_head (hI.qu.kp kr4).rd
  obtain ⟨hQ0, hb0⟩ := hI.qs c0 (List.mem_cons_self ..)
  have hbb0 := hb0
  unfold BQ widI lenI at hbb0
  rw [q0, r_fa, Nat.zero_add, r_ld p0, r_add _ _ (by omega) (by omega), q1, r_fa, Nat.zero_add, r_ld p1, r_add _ _ (by omega) (by omega), bd43]
  refine r_box fun b11 w5 e11 s11 h11 k5 => r_keep k5 ?_
  have h11' : w5.heap[b11]? = some (.cells #[.int .i64 0, .int .i64 0] 43 (0, 0)) := h11
  show stW Tryd.prog 43 (ptrV b11) (cV (stepC c0 s)) w5 _
  have hcl' := hcl c0 s hQ0 hsm
  have hst : (stepC c0 s).1 = c0.1 + s.1 ∧ (stepC c0 s).2 = c0.2 + s.2 := ⟨rfl, rfl⟩
  generalize stepC c0 s = c at *
  refine st43 h11' fun w6 c6 s6 h116 => ?_
  have k46 : Kp w4 w6 := Kp.of_chg k5 c6 fun q e => by omega
  have kr6 := Kp.trans kr4 k46
  have k06 := Kp.trans kr kr6
  have sz6 := kr6.size
  have hM6 := hI.mp.kp kr6
  have hok : okC c := ⟨⟨by omega, by omega⟩, ⟨by omega, by omega⟩⟩
  rw [c_box h116, r_lkO keyC und79 zero4 hM6 hok]
  have hmiss := missing_same (l := l) hI.mp hM6
  -- what comes behind
  have hend : ∀ (t : Value) (P2 : List C2) (f2 : C2 → Option Value) (w' : World), RInv l Q w0.heap.size mb w' t (c0 :: P2) f2 → Kp w0 w' → 2 * missing l w' mb + P2.length ≤ 2 * missing l w1 mb + P.length → (∃ (j : Nat) (P' : List C2) (f' : C2 → Option Value), j ≤ 9 ∧ (Value.int .i64 ((j : Int))) = .int .i64 j ∧ RInv l Q w0.heap.size mb w' t (c0 :: P') f' ∧ Kp w0 w' ∧ 2 * missing l w' mb + P'.length ≤ 2 * missing l w1 mb + P.length) := fun t P2 f2 w' h1 h2 h3 => ⟨j, P2, f2, hj, rfl, h1, h2, h3⟩
  have hI6 : RInv l Q w0.heap.size mb w6 t8 (c0 :: P') f' := ⟨hI.qu.kp kr6, hI.qs, hM6, hI.ms⟩
  cases hf : f' c with
  | some u =>
    obtain ⟨rfl, hq⟩ := hI.ms c u hf
    simp only [Option.getD_some, r_not, Bool.not_true, r_gdFT, r_pickF, Join, r_condF]
    rw [r_add _ _ (by omega) (by omega)]
    exact ⟨⟨j + 1, P', f', by omega, by go_num, hI6, k06, by omega⟩, by simp only [intOf]; omega⟩
  | none =>
    simp only [Option.getD_none, r_not, Bool.not_false, r_gdTT, r_pickT]
    rw [c_box h116]
    refine r_use fok29 (within_calls (c := c) w6 (block_below h4 k06) (hr.kp k06) hR) rfl ?_
    rintro _ w7 ⟨rfl, k7⟩
    refine ⟨_, rfl, ?_⟩
    have k07 := Kp.trans k06 k7
    have sz7 := k7.size
    have hI7 : RInv l Q w0.heap.size mb w7 t8 (c0 :: P') f' := ⟨hI6.qu.kp k7, hI.qs, hM6.kp k7, hI.ms⟩
    have hmiss7 := missing_same (l := l) hM6 hI7.mp
    cases hw : wiB l c with
    | false =>
      simp only [Join, r_condF]
      rw [r_add _ _ (by omega) (by omega)]
      exact ⟨⟨j + 1, P', f', by omega, by go_num, hI7, k07, by omega⟩, by simp only [intOf]; omega⟩
    | true =>
      simp only [Join, r_condT]
      have h117 := block_below h116 k7
      rw [c_box h117]
      have hBQ := wiB_BQ hw
      refine r_muO keyC und79 zero4 hI7.mp hok fun w8 hM8 c8 s8 => ?_
      obtain ⟨es7, cl7, hes7, _⟩ := hI7.mp
      have hmap7 : ∀ k cur t fr, k = mb → w7.heap[k]? ≠ some (.cells cur t fr) := fun k cur t fr e h => by rw [e, hes7] at h; cases h
      have h118 := c8.at h117 fun e => hmap7 _ _ _ _ e h117
      rw [c_box h118]
      have hup := missing_upd hI7.mp hM8 (frame_mem hBQ.1 hBQ.2.1 hBQ.2.2.1 hBQ.2.2.2) hf
      have hq8 : QuAt w0.heap.size w8 t8 (c0 :: P') := hI7.qu.chg c8 fun k _ e cur t fr => hmap7 k cur t fr e
      have k08 : Kp w0 w8 := Kp.of_chg k07 c8 fun q e => by omega
      refine r_pushQ hq8 (by simp only [List.length_cons]; omega) k08.size fun v' w9 hq9 c9 => ?_
      rw [r_add _ _ (by omega) (by omega)]
      obtain ⟨es8, cl8, hes8, _⟩ := id hM8
      have hM9 := hM8.chg c9 fun ⟨_, cur, t, fr, h⟩ => by rw [hes8] at h; cases h
      have hmiss9 := missing_same (l := l) hM8 hM9
      refine ⟨⟨j + 1, P' ++ [c], _, by omega, by go_num, ⟨hq9, fun x hx => ?_, hM9, fun k u hku => ?_⟩, Kp.of_chg k08 c9 fun q e => e.1, by simp only [List.length_append, List.length_singleton]; omega⟩, by simp only [intOf]; omega⟩
      · have hx : x ∈ (c0 :: P') ++ [c] := hx
        rw [List.mem_append, List.mem_singleton] at hx
        rcases hx with hx | rfl
        · exact hI.qs x hx
        · exact ⟨hcl' hw, hBQ⟩
      · by_cases e : k = c
        · rw [e, updO_same] at hku
          cases hku
          exact ⟨rfl, e ▸ hcl' hw⟩
        · rw [updO_ne e] at hku
          exact hI.ms k u hku

set_option maxRecDepth 100000 in
set_option maxHeartbeats 2000000 in
/-- What can be reached has whatever the start has and every step keeps. -/
theorem reached_calls {v kv : Value} {l : List ByteArray} {b4 : Nat} {c0 : C2} (Q : C2 → Prop) (w : World) (h4 : w.heap[b4]? = some (.cells #[.int .i64 (l.getD 0 dB).size, .int .i64 l.length, v] 63 (0, 0))) (hr : RdB w v l) (hR : RegOk l 8) (hk : RdC w kv kingsL)
    (hcl : ∀ c s, Q c → s ∈ kingsL → wiB l (stepC c s) = true → Q (stepC c s)) (h0 : Q c0) (hb0 : BQ l c0) :
    Calls Tryd.prog 31 #[cV c0, .func (.func 29) #[] #[ptrV b4], kv] w fun e w' => Kp w w' ∧ ∃ mb f, e = .returned (.map (some mb)) ∧ w.heap.size ≤ mb ∧ MapO cV okC w' mb f ∧ ∀ k u, f k = some u → u = .bool true ∧ Q k := by
  have hlen := hR.len
  have hwid := hR.wid
  have hbb0 := hb0
  unfold BQ widI lenI at hbb0
  obtain ⟨ka, kc, ek, _⟩ := hk.len
  have lnk : ∀ K : Value → Prop, ln1 kv K = K (.int .i64 9) := fun K => by rw [ek]; rfl
  refine lift31 ?_
  unfold S31
  refine r_box fun b3 w1 e3 s3 h3 k1 => ?_
  have h3' : w1.heap[b3]? = some (.cells #[.int .i64 c0.1, .int .i64 c0.2] 43 (0, 0)) := h3
  refine r_mm ?_
  have hm2 := mapO_new cV okC w1
  have k2 : Kp w1 (w1.alloc (.map #[] 0)) := below_alloc _
  have hsz2 : (w1.alloc (.map #[] 0)).heap.size = w1.heap.size + 1 := by show (w1.heap.push _).size = _; simp
  have h32 := block_below h3' k2
  generalize w1.alloc (.map #[] 0) = w2 at *
  rw [c_box h32]
  refine r_muO keyC und79 zero4 hm2 (k := c0) ⟨⟨by omega, by omega⟩, ⟨by omega, by omega⟩⟩ fun w4 hm4 c4 s4 => ?_
  have sz1 := k1.size
  have h34 := c4.at h32 fun e => by omega
  rw [c_box h34, bs39]
  have k24 : Kp w w4 := Kp.of_chg (Kp.trans k1 k2) c4 fun q e => by omega
  have sz4 := k24.size
  have k5 : Kp w4 (w4.alloc (.cells (cV c0).cells 43)) := below_alloc _
  have hq5 : QuAt w.heap.size (w4.alloc (.cells (cV c0).cells 43)) (.slice (some ⟨w4.heap.size, 0, none⟩) 1 1) [c0] := QuAt.one sz4
  generalize w4.alloc (.cells (cV c0).cells 43) = w5 at *
  have k05 := Kp.trans k24 k5
  have hm5 := hm4.kp k5
  have hN : (l.length + 2) * ((l.getD 0 dB).size + 2) ≤ 10 * 10 := Nat.mul_le_mul (by omega) (by omega)
  unfold S31L0
  refine ⟨fun t8 wr => ∃ (P : List C2) (f : C2 → Option Value), RInv l Q w.heap.size w1.heap.size wr t8 P f ∧ Kp w wr ∧ 2 * missing l wr w1.heap.size + P.length ≤ 1000, fun t8 wr => 2 * missing l wr w1.heap.size + (match t8 with | .slice _ n _ => n | _ => 0),
    ⟨[c0], _, ⟨hq5, fun c hc => by rw [List.mem_singleton] at hc; subst hc; exact ⟨h0, hb0⟩, hm5, fun k u hku => ?_⟩, k05, ?_⟩, ?_⟩
  · by_cases e : k = c0
    · rw [e, updO_same] at hku
      cases hku
      exact ⟨rfl, e ▸ h0⟩
    · rw [updO_ne e] at hku
      cases hku
  · have := missing_le l w5 w1.heap.size
    simp only [List.length_singleton]
    omega
  rintro _ t8 wr ⟨P, f, hI, kr, hle⟩
  obtain ⟨qa, qc, eq, _⟩ := hI.qu.rd.len
  have lnq : ∀ K : Value → Prop, ln1 t8 K = K (.int .i64 P.length) := fun K => by rw [eq]; rfl
  rw [lnq, r_gtr]
  match P, hI, hle, eq with
  | [], hI, hle, eq =>
    rw [decide_eq_false (show ¬ (0 : Int) < ((([] : List C2).length : Nat) : Int) by simp), r_condF]
    exact ⟨kr, _, f, rfl, sz1, hI.mp, hI.ms⟩
  | c :: P, hI, hle, eq =>
    have hp : (0 : Int) < (((c :: P).length : Nat) : Int) := by simp only [List.length_cons]; omega
    rw [decide_eq_true hp, r_condT, lnk]
    rw [List.length_cons] at hle
    refine r31_1 h4 hr hR hk hcl rfl (by omega) kr hI (by omega) fun v' w' P' f' h1 h2 h3 => ?_
    refine ⟨⟨P', f', h1, h2, by omega⟩, ?_⟩
    obtain ⟨a', c', e', _⟩ := h1.qu.rd.len
    rw [e', eq]
    simp only [List.length_cons]
    omega

end Go.Proofs.YtbekeccfjmoonaaDoor

/- Contract: Holes. -/
namespace Go.Proofs.YtbekeccfjmoonaaDoor
open Go.Lf Go.RowKit Go.Ht Go.MapKept Go.ChangeMaps

/-- How many entries are left to walk through. -/
def leftO (w : World) (b r : Nat) : Nat := match w.heap[b]?, w.heap[r]? with
  | some (.map es _), some (.mapIter _ _ sn _) => (leftOf es sn).size
  | _, _ => 0
theorem IterO.left {w : World} {b r left : Nat} (h : IterO cV okC w b r left) : leftO w b r = left := by
  obtain ⟨es, c, s, sn, c0, f, h1, _, h3, _, _, _, h4⟩ := h
  simp only [leftO, h1, h3]
  exact h4
def TrueF (f : C2 → Option Value) : Prop := ∀ k u, f k = some u → u = .bool true
theorem TrueF.upd {f : C2 → Option Value} (h : TrueF f) (c : C2) : TrueF (updO f c (.bool true)) := fun k u hku => by
  by_cases e : k = c
  · rw [e, updO_same] at hku; cases hku; rfl
  · rw [updO_ne e] at hku; exact h k u hku

set_option maxRecDepth 100000 in
set_option maxHeartbeats 1000000 in
theorem r11_4 {mb mb2 r left : Nat} {B : Nat} {t65 : Value} {f : C2 → Option Value} {w0 w1 : World} {k_2 : Value → World → Prop} (hB : B ≤ mb) (h2 : mb ≠ mb2) (h3 : mb ≠ r) (h4 : B ≤ r) (hB0 : B = w0.heap.size) (k01 : Kp w0 w1) (hI : IterO cV okC w1 mb2 r left) (hM : MapO cV okC w1 mb f) (hf : TrueF f)
    (hnext : ∀ w' f', MapO cV okC w' mb f' → TrueF f' → Kp w0 w' → k_2 t65 w') :
    S11L4 (.map (some mb)) t65 (.pointer (some ⟨r, 0, none⟩)) k_2 w1 := by
  subst hB0
  unfold S11L4
  refine ⟨fun wr => ∃ left f', IterO cV okC wr mb2 r left ∧ MapO cV okC wr mb f' ∧ TrueF f' ∧ Kp w0 wr, fun wr => leftO wr mb2 r, ⟨left, f, hI, hM, hf, k01⟩, ?_⟩
  rintro _ wr ⟨left, f', hI, hM, hf, kr⟩
  have szr := kr.size
  refine r_nxO hI ?_ fun k v w2 left2 hok hl2 hI2 c2 s2 hen => ?_
  · rw [r_exQ _ 0 (.bool false) rfl, r_condF]
    exact hnext wr f' hM hf kr
  · rw [r_exQ _ 0 (.bool true) rfl, r_condT, hen, r_ex2a]
    have hne : ∀ {i}, i = r → i ≠ mb := fun e h => h3 (h ▸ e)
    have hM2 := hM.chg c2 fun e => h3 e
    have k02 : Kp w0 w2 := Kp.of_chg kr c2 fun q e => by omega
    refine r_box fun b15 w3 e15 s15 h15 k3 => ?_
    have h15' : w3.heap[b15]? = some (.cells #[.int .i64 0, .int .i64 0] 43 (0, 0)) := h15
    refine st43 h15' fun w4 c4 s4 h154 => ?_
    have k24 : Kp w2 w4 := Kp.of_chg k3 c4 fun q e => by omega
    have k04 := Kp.trans k02 k24
    rw [c_box h154]
    have hM4 := hM2.kp k24
    have hI4 : IterO cV okC w4 mb2 r left2 := hI2.chg (Chg.of_kp (S := fun _ => False) k24) (fun h => h) fun h => h
    refine r_muO keyC und79 zero4 hM4 hok fun w5 hM5 c5 s5 => ?_
    have hI5 := hI4.chg c5 (fun e => h2 e.symm) fun e => h3 e.symm
    refine ⟨⟨left2, _, hI5, hM5, hf.upd k, Kp.of_chg k04 c5 fun q e => by omega⟩, ?_⟩
    show leftO w5 mb2 r < leftO wr mb2 r
    rw [hI5.left, hI.left]
    exact hl2

theorem kings_at {y x : Nat} (hy : y < 3) (hx : x < 3) : kingsL.take (3 * y + x + 1) = kingsL.take (3 * y + x) ++ [((x : Int) - 1, (y : Int) - 1)] := by
  have : ∀ y : Fin 3, ∀ x : Fin 3, kingsL.take (3 * y.1 + x.1 + 1) = kingsL.take (3 * y.1 + x.1) ++ [((x.1 : Int) - 1, (y.1 : Int) - 1)] := by decide
  exact this ⟨y, hy⟩ ⟨x, hx⟩

set_option maxRecDepth 100000 in
set_option maxHeartbeats 1000000 in
theorem r11_1 {t6 : Value} {y : Nat} {w0 w1 : World} {next : Value → Value → World → Prop} (hy : y < 3) (k01 : Kp w0 w1) (hO : ClAt w0.heap.size w1 t6 (kingsL.take (3 * y)))
    (hnext : ∀ t w', ClAt w0.heap.size w' t (kingsL.take (3 * (y + 1))) → Kp w0 w' → next t (.int .i64 (((y + 1 : Nat) : Int) - 1)) w') : S11L1 t6 (.int .i64 ((y : Int) - 1)) next w1 := by
  unfold S11L1
  refine ⟨fun t6 t8 wr => ∃ x : Nat, x ≤ 3 ∧ t8 = .int .i64 ((x : Int) - 1) ∧ ClAt w0.heap.size wr t6 (kingsL.take (3 * y + x)) ∧ Kp w0 wr, fun _ t8 _ => 3 - (intOf t8 + 1).toNat, ⟨0, by omega, rfl, hO, k01⟩, ?_⟩
  rintro _ t6 _ wr ⟨x, hx, rfl, hO, kr⟩
  by_cases hlt : x < 3
  case neg =>
    obtain rfl : x = 3 := by omega
    rw [r_leq, decide_eq_false (show ¬ (((3 : Nat) : Int) - 1 ≤ 1) by omega), r_condF, r_add _ _ (by omega) (by omega), show (y : Int) - 1 + 1 = ((y + 1 : Nat) : Int) - 1 by omega]
    exact hnext t6 wr hO kr
  rw [r_leq, decide_eq_true (show ((x : Int) - 1 ≤ 1) by omega), r_condT, bd43]
  have hl : (kingsL.take (3 * y + x)).length ≤ 9 := Nat.le_trans (List.length_take_le ..) (by omega)
  refine r_pushRec (x := ((x : Int) - 1, (y : Int) - 1)) (ty := 39) slt39 cC_len rfl (bs39 _ _) (cC_one _) (by omega) hO (by omega) kr.size fun v' w' o1 c1 _ => ?_
  rw [r_add _ _ (by omega) (by omega), show (x : Int) - 1 + 1 = ((x + 1 : Nat) : Int) - 1 by omega]
  refine ⟨⟨x + 1, by omega, rfl, ?_, Kp.of_chg kr c1 fun k hk => (RecAt.lt hO hk).1⟩, by simp only [intOf]; omega⟩
  rw [← kings_at hy hlt] at o1
  exact o1

section
variable {v kv : Value} {l : List ByteArray} {b4 mb : Nat} {Q : C2 → Prop} {w0 : World}

/-- What holds once the cells before one were looked at. -/
structure HInv (l : List ByteArray) (Q : C2 → Prop) (w0 : World) (mb h y x : Nat) (w : World) (f : C2 → Option Value) : Prop where
  kp : Kp w0 w
  mp : MapO cV okC w mb f
  tr : TrueF f
  qs : h = 0 → ∀ k u, f k = some u → Q k
  seen : h = 0 → ∀ a b : Nat, (b < y ∧ a < (l.getD 0 dB).size) ∨ (b = y ∧ a < x) → hasB l (a : Nat) (b : Nat) = false → Q ((a : Int), (b : Int))

set_option maxRecDepth 100000 in
set_option maxHeartbeats 2000000 in
theorem r11_3 {t11 : Value} {h y : Nat} {f : C2 → Option Value} {w1 : World} {next : Value → Value → World → Prop} (h4 : w0.heap[b4]? = some (.cells #[.int .i64 (l.getD 0 dB).size, .int .i64 l.length, v] 63 (0, 0))) (hr : RdB w0 v l) (hR : RegOk l 8) (hk : RdC w0 kv kingsL)
    (hmb : w0.heap.size ≤ mb) (hy : y < l.length) (hI : HInv l Q w0 mb h y 0 w1 f) (hh : h ≤ 8 * y) (ht : t11 = .int .i64 h)
    (hnext : ∀ w' (h' : Nat) f', HInv l Q w0 mb h' (y + 1) 0 w' f' → h' ≤ 8 * (y + 1) → next (.int .i64 h') (.int .i64 ((y : Int) + 1)) w') :
    S11L3 (ptrV b4) kv t11 (.map (some mb)) (.int .i64 y) (.int .i64 (l.getD 0 dB).size) next w1 := by
  have hlen := hR.len
  have hwid := hR.wid
  subst ht
  unfold S11L3
  refine ⟨fun t11 t49 wr => ∃ (x h' : Nat) (f' : C2 → Option Value), x ≤ (l.getD 0 dB).size ∧ t49 = .int .i64 x ∧ t11 = .int .i64 h' ∧ HInv l Q w0 mb h' y x wr f' ∧ h' ≤ 8 * y + x, fun _ t49 _ => (l.getD 0 dB).size - (intOf t49).toNat, ⟨0, h, f, by omega, rfl, rfl, hI, by omega⟩, ?_⟩
  rintro _ _ _ wr ⟨x, h', f', hx, rfl, rfl, hI, hh'⟩
  by_cases hlt : x < (l.getD 0 dB).size
  case neg =>
    have hlt' : ¬ (x : Int) < ((l.getD 0 dB).size : Int) := by omega
    rw [r_lss, decide_eq_false hlt', r_condF, r_add _ _ (by omega) (by omega)]
    exact hnext wr h' f' ⟨hI.kp, hI.mp, hI.tr, hI.qs, fun h0 a b hab hb => hI.seen h0 a b (by omega) hb⟩ (by omega)
  have hlt' : (x : Int) < ((l.getD 0 dB).size : Int) := by omega
  rw [r_lss, decide_eq_true hlt', r_condT, bd43]
  have kr := hI.kp
  refine r_box fun b14 w2 e14 s14 h14 k2 => ?_
  have h14' : w2.heap[b14]? = some (.cells #[.int .i64 0, .int .i64 0] 43 (0, 0)) := h14
  refine st43 (p := ((x : Int), (y : Int))) h14' fun w3 c3 s3 h143 => ?_
  have kr3 : Kp wr w3 := Kp.of_chg k2 c3 fun q e => by omega
  have k03 := Kp.trans kr kr3
  rw [c_box (p := ((x : Int), (y : Int))) h143]
  refine r_use fok29 (within_calls (c := ((x : Int), (y : Int))) w3 (block_below h4 k03) (hr.kp k03) hR) rfl ?_
  rintro _ w4 ⟨rfl, k4⟩
  refine ⟨_, rfl, ?_⟩
  have kr4 := Kp.trans kr3 k4
  have k04 := Kp.trans kr kr4
  have sz4 := k04.size
  have hM4 := hI.mp.kp kr4
  have h144 := block_below h143 k4
  have hok : okC ((x : Int), (y : Int)) := ⟨⟨by dsimp only; omega, by dsimp only; omega⟩, ⟨by dsimp only; omega, by dsimp only; omega⟩⟩
  have hwi : wiB l ((x : Int), (y : Int)) = !hasB l (x : Nat) (y : Nat) := by
    unfold wiB
    rw [decide_eq_true (show (-1 : Int) ≤ (x : Int) by omega), decide_eq_true (show (-1 : Int) ≤ (y : Int) by omega), decide_eq_true (show (x : Int) ≤ widI l by unfold widI; omega), decide_eq_true (show (y : Int) ≤ lenI l by unfold lenI; omega)]
    rfl
  have hnx : ∀ (w' : World) (h'' : Nat) f'', HInv l Q w0 mb h'' y (x + 1) w' f'' → h'' ≤ 8 * y + (x + 1) →
      (binQ Tryd.prog w' .add 3 true (.int .i64 x) (.int .i64 1) fun t77_2 => (∃ (x h' : Nat) (f' : C2 → Option Value), x ≤ (l.getD 0 dB).size ∧ t77_2 = .int .i64 x ∧ Value.int .i64 h'' = .int .i64 h' ∧ HInv l Q w0 mb h' y x w' f' ∧ h' ≤ 8 * y + x) ∧ (l.getD 0 dB).size - (intOf t77_2).toNat < (l.getD 0 dB).size - (intOf (.int .i64 (x : Int))).toNat) := fun w' h'' f'' g1 g2 => by
    rw [r_add _ _ (by omega) (by omega)]
    exact ⟨⟨x + 1, h'', f'', by omega, by go_num, rfl, g1, by omega⟩, by simp only [intOf]; omega⟩
  have hsame : ∀ w', Kp w0 w' → MapO cV okC w' mb f' → (h' = 0 → hasB l (x : Nat) (y : Nat) = false → Q ((x : Int), (y : Int))) → HInv l Q w0 mb h' y (x + 1) w' f' := fun w' k' m' hq => ⟨k', m', hI.tr, hI.qs, fun h0 a b hab hb => by
    by_cases e : b = y ∧ a = x
    · obtain ⟨rfl, rfl⟩ := e
      exact hq h0 hb
    · exact hI.seen h0 a b (by omega) hb⟩
  rw [hwi]
  cases hb : hasB l (x : Nat) (y : Nat) with
  | true =>
    simp only [Bool.not_true, r_gdFT, r_pickF, Join, r_condF]
    exact hnx w4 h' f' (hsame w4 k04 hM4 fun _ h => by rw [hb] at h; cases h) (by omega)
  | false =>
    simp only [Bool.not_false, r_gdTT, r_pickT]
    rw [c_box (p := ((x : Int), (y : Int))) h144, r_lkO keyC und79 zero4 hM4 hok]
    cases hf : f' ((x : Int), (y : Int)) with
    | some u =>
      obtain rfl := hI.tr _ u hf
      simp only [Option.getD_some, r_not, Bool.not_true, Join, r_condF]
      exact hnx w4 h' f' (hsame w4 k04 hM4 fun h0 _ => hI.qs h0 _ _ hf) (by omega)
    | none =>
      simp only [Option.getD_none, r_not, Bool.not_false, Join, r_condT]
      rw [r_add _ _ (by omega) (by omega), c_box (p := ((x : Int), (y : Int))) h144]
      refine r_use fok31 (reached_calls (c0 := ((x : Int), (y : Int))) (fun _ => True) w4 (block_below h4 k04) (hr.kp k04) hR (hk.kp k04) (fun _ _ _ _ _ => trivial) trivial ⟨by dsimp only; omega, by dsimp only; omega, by unfold widI; dsimp only; omega, by unfold lenI; dsimp only; omega⟩) rfl ?_
      rintro _ w5 ⟨k5, mb2, f2, rfl, hmb2, hM2, _⟩
      refine ⟨_, rfl, ?_⟩
      have k05 := Kp.trans k04 k5
      have hM5 := hM4.kp k5
      have hl2 := hM2.lt
      have hl4 := hM4.lt
      have sz5 := k5.size
      refine r_rgO und79 hM2 fun w6 left hI6 k6 s6 => ?_
      refine r11_4 (B := w0.heap.size) hmb (by omega) (by omega) (by omega) rfl (Kp.trans k05 k6) hI6 (hM5.kp k6) hI.tr fun w7 f7 hM7 hf7 k7 => ?_
      rw [show (h' : Int) + 1 = ((h' + 1 : Nat) : Int) by omega]
      exact hnx w7 (h' + 1) f7 ⟨k7, hM7, hf7, fun h => by omega, fun h => by omega⟩ (by omega)

end

set_option maxRecDepth 100000 in
set_option maxHeartbeats 2000000 in
/-- Where Holes is 0, whatever the cell at the corner has, and each king's step keeps, all cells beside the region have. -/
theorem holes_calls {v : Value} {l : List ByteArray} {Q : C2 → Prop} (w : World) (hr : RdB w v l) (hs : ∀ s ∈ l, s.size ≤ 9223372036854775807) (ho : ofB 8 l = true)
    (hcl : ∀ c s, Q c → s ∈ kingsL → wiB l (stepC c s) = true → Q (stepC c s)) (h0 : Q (-1, -1)) :
    Calls Tryd.prog 11 #[v] w fun e w' => Kp w w' ∧ ∃ h : Nat, e = .returned (.tuple #[.int .i64 h, .int .i64 0]) ∧ (h = 0 → ∀ a b : Nat, a < (l.getD 0 dB).size → b < l.length → hasB l (a : Nat) (b : Nat) = false → Q ((a : Int), (b : Int))) := by
  obtain ⟨a, cap, ev, _⟩ := hr.len
  refine lift11 ?_
  unfold S11
  refine r_use fok21 (Of_calls w hr hs) rfl ?_
  rintro _ w1 ⟨rfl, k1⟩
  refine ⟨_, rfl, ?_⟩
  rw [r_ex2a, r_ex2b]
  refine r_box fun b4 w2 e2 s2 h2 k2 => ?_
  have h2' : w2.heap[b4]? = some (.cells #[.int .i64 0, .int .i64 0, .slice none 0 0] 63 (0, 0)) := h2
  have sz1 := k1.size
  have e1 : regV v l = rgV (((l.getD 0 dB).size : Nat) : Int) l.length (.slice a l.length cap) := by unfold regV; rw [ho, ev]; rfl
  have hR := reg_ok ho
  have hlen := hR.len
  have hwid := hR.wid
  rw [e1]
  refine st63 h2' fun w3 c3 s3 h3 => ?_
  have k03 : Kp w w3 := Kp.of_chg (Kp.trans k1 k2) c3 fun q e => by omega
  rw [ho, r_not, Bool.not_true, r_condF]
  have hr3 := hr.kp k03
  have h3' : w3.heap[b4]? = some (.cells #[.int .i64 (l.getD 0 dB).size, .int .i64 l.length, v] 63 (0, 0)) := by rw [ev]; exact h3
  unfold S11L0
  refine ⟨fun t6 t7 wr => ∃ y : Nat, y ≤ 3 ∧ t7 = .int .i64 ((y : Int) - 1) ∧ ClAt w3.heap.size wr t6 (kingsL.take (3 * y)) ∧ Kp w3 wr, fun _ t7 _ => 3 - (intOf t7 + 1).toNat, ⟨0, by omega, rfl, RecAt.nil, Kp.refl _⟩, ?_⟩
  rintro _ t6 _ wr ⟨y, hy, rfl, hO, kr⟩
  by_cases hlt : y < 3
  · rw [r_leq, decide_eq_true (show ((y : Int) - 1 ≤ 1) by omega), r_condT]
    refine r11_1 hlt kr hO fun t w' o' k' => ?_
    exact ⟨⟨y + 1, by omega, rfl, o', k'⟩, by simp only [intOf]; omega⟩
  obtain rfl : y = 3 := by omega
  rw [r_leq, decide_eq_false (show ¬ (((3 : Nat) : Int) - 1 ≤ 1) by omega), r_condF, bd43]
  have hk : RdC wr t6 kingsL := RecAt.rd cC_len hO
  have szr := kr.size
  refine r_use fok31 (reached_calls (c0 := (-1, -1)) Q wr (block_below h3' kr) (hr3.kp kr) hR hk hcl h0 ⟨by decide, by decide, by unfold widI; dsimp only; omega, by unfold lenI; dsimp only; omega⟩) rfl ?_
  rintro _ w5 ⟨k5, mb, f, rfl, hmb, hM, hmQ⟩
  refine ⟨_, rfl, ?_⟩
  have k35 := Kp.trans kr k5
  have h35 := block_below h3' k35
  have f1 : w5.cell? ⟨b4, 0 + 1, none⟩ = some (.int .i64 l.length) := by rw [cell_row h35]; rfl
  rw [r_fa, r_ld f1]
  unfold S11L2
  refine ⟨fun t11 t44 wq => ∃ (y h : Nat) (f' : C2 → Option Value), y ≤ l.length ∧ t44 = .int .i64 y ∧ t11 = .int .i64 h ∧ HInv l Q wr mb h y 0 wq f' ∧ h ≤ 8 * y, fun _ t44 _ => l.length - (intOf t44).toNat,
    ⟨0, 0, f, by omega, rfl, rfl, ⟨k5, hM, fun k u hu => (hmQ k u hu).1, fun _ k u hu => (hmQ k u hu).2, fun _ a b hab => by omega⟩, by omega⟩, ?_⟩
  rintro _ _ _ wq ⟨y, h, f', hy, rfl, rfl, hI, hh⟩
  have k3q := Kp.trans kr hI.kp
  by_cases hlt : y < l.length
  case neg =>
    have hlt' : ¬ (y : Int) < (l.length : Int) := by omega
    rw [r_lss, decide_eq_false hlt', r_condF]
    exact ⟨Kp.trans k03 k3q, h, rfl, fun e a b ha hb hn => hI.seen e a b (by omega) hn⟩
  have hlt' : (y : Int) < (l.length : Int) := by omega
  have f0 : wq.cell? ⟨b4, 0, none⟩ = some (.int .i64 (l.getD 0 dB).size) := by rw [cell_row (block_below h3' k3q)]; rfl
  rw [r_lss, decide_eq_true hlt', r_condT, r_fa, Nat.zero_add, r_ld f0]
  refine r11_3 (block_below h3' kr) (hr3.kp kr) hR hk hmb hlt hI hh rfl fun w' h' f'' g1 g2 => ?_
  exact ⟨⟨y + 1, h', f'', by omega, by go_num, rfl, g1, g2⟩, by simp only [intOf]; omega⟩

end Go.Proofs.YtbekeccfjmoonaaDoor
