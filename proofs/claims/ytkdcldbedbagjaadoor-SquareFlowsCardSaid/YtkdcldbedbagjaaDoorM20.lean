/- Texts of my own, merged by program: Gf Sh Xm. -/
import Derived.Test.YtkdcldbedbagjaaDoorM12
import Derived.Test.YtkdcldbedbagjaaDoorM02
import Derived.Test.YtkdcldbedbagjaaDoorM19
set_option linter.all false
/- Sets of wires as numbers, and forests of parts, plainly. No program. -/
namespace Go.Dt
open Classical

/-- The wires whose bits are set. -/
def pick : List Wr → Nat → List Wr
  | [], _ => []
  | e :: l, m => if m % 2 = 0 then pick l (m / 2) else e :: pick l (m / 2)

theorem pick_sub : ∀ (l : List Wr) (m : Nat), (pick l m).Sublist l
  | [], _ => List.Sublist.refl _
  | e :: l, m => by
    unfold pick
    split
    · exact (pick_sub l _).cons _
    · exact (pick_sub l _).cons_cons _

def cF (f : Nat → Bool) (n : Nat) : Nat := ((List.range n).filter f).length
theorem cF_succ (f : Nat → Bool) (n : Nat) : cF f (n + 1) = cF f n + if f n = true then 1 else 0 := by
  unfold cF
  rw [List.range_succ, List.filter_append, List.length_append]
  by_cases h : f n = true
  · rw [if_pos h]; simp [h]
  · rw [if_neg h]; simp [h]
theorem cF_two (f : Nat → Bool) : ∀ n, cF f (2 * n) = cF (fun m => f (2 * m)) n + cF (fun m => f (2 * m + 1)) n
  | 0 => rfl
  | n + 1 => by
    rw [show 2 * (n + 1) = 2 * n + 1 + 1 by omega, cF_succ, cF_succ, cF_two f n, cF_succ, cF_succ]
    omega
theorem cF_congr {f g : Nat → Bool} {n : Nat} (h : ∀ m, m < n → f m = g m) : cF f n = cF g n := by
  unfold cF
  congr 1
  exact List.filter_congr fun m hm => h m (List.mem_range.1 hm)

/-- As many sets as sublists. -/
theorem pick_cnt : ∀ (l : List Wr) (P : List Wr → Prop), cF (fun m => decide (P (pick l m))) (2 ^ l.length) = cnt P l
  | [], P => by
    unfold cnt cF
    by_cases h : P [] <;> simp [pick, h, List.range_succ]
  | e :: l, P => by
    rw [List.length_cons, Nat.pow_succ, Nat.mul_comm, cF_two, cnt_cons, ← pick_cnt l P, ← pick_cnt l fun s => P (e :: s)]
    congr 1
    · refine cF_congr fun m _ => ?_
      have : pick (e :: l) (2 * m) = pick l m := by unfold pick; rw [if_pos (by omega), show 2 * m / 2 = m by omega]; cases l <;> rfl
      rw [this]
    · refine cF_congr fun m _ => ?_
      have : pick (e :: l) (2 * m + 1) = e :: pick l m := by
        show (if (2 * m + 1) % 2 = 0 then pick l ((2 * m + 1) / 2) else e :: pick l ((2 * m + 1) / 2)) = _
        rw [if_neg (by omega), show (2 * m + 1) / 2 = m by omega]
      rw [this]

/-- Bits of a set. -/
def ones : Nat → Nat → Nat
  | 0, _ => 0
  | k + 1, m => m % 2 + ones k (m / 2)
theorem pick_len : ∀ (l : List Wr) (m : Nat), (pick l m).length = ones l.length m
  | [], _ => rfl
  | e :: l, m => by
    unfold pick
    simp only [List.length_cons, ones]
    split
    · rw [pick_len l]; omega
    · rw [List.length_cons, pick_len l]; omega

theorem pick_take : ∀ (l : List Wr) (m i : Nat) (h : i < l.length), pick (l.take (i + 1)) m = pick (l.take i) m ++ if m / 2 ^ i % 2 = 0 then [] else [l[i]]
  | e :: l, m, 0, _ => by
    simp only [List.take_succ_cons, List.take_zero, pick, Nat.pow_zero, Nat.div_one, List.nil_append, List.getElem_cons_zero]
  | e :: l, m, i + 1, h => by
    have ih := pick_take l (m / 2) i (by simpa using h)
    simp only [List.take_succ_cons, pick, List.getElem_cons_succ]
    rw [ih, Nat.div_div_eq_div_mul, show 2 * 2 ^ i = 2 ^ (i + 1) by rw [Nat.pow_succ]; omega]
    split <;> rfl

/-! ### forests of parts -/
inductive RootOf (part : Nat → Nat) : Nat → Nat → Prop
  | self {v : Nat} : part v = v → RootOf part v v
  | step {v r : Nat} : part v ≠ v → RootOf part (part v) r → RootOf part v r
theorem RootOf.uniq {part : Nat → Nat} {v r r' : Nat} (h : RootOf part v r) (h' : RootOf part v r') : r = r' := by
  induction h with
  | self h => cases h' with
    | self => rfl
    | step h2 _ => exact absurd h h2
  | step h _ ih => cases h' with
    | self h2 => exact absurd h2 h
    | step _ h3 => exact ih h3
theorem RootOf.root {part : Nat → Nat} {v r : Nat} (h : RootOf part v r) : part r = r := by
  induction h with
  | self h => exact h
  | step _ _ ih => exact ih

structure UF (n : Nat) (part : Nat → Nat) (l : List Wr) : Prop where
  lt : ∀ v, v < n → part v < n
  dep : ∃ d : Nat → Nat, ∀ v, v < n → part v ≠ v → d (part v) < d v
  conn : ∀ v, v < n → Conn l v (part v)
  same : ∀ e ∈ l, ∃ r, RootOf part e.1 r ∧ RootOf part e.2 r
  roots : cntS n (fun v => decide (part v = v)) + l.length = n

theorem UF.has {n : Nat} {part : Nat → Nat} {l : List Wr} (h : UF n part l) {v : Nat} (hv : v < n) : ∃ r, r < n ∧ RootOf part v r := by
  obtain ⟨d, hd⟩ := h.dep
  have key : ∀ k v, d v ≤ k → v < n → ∃ r, r < n ∧ RootOf part v r := by
    intro k
    induction k with
    | zero =>
      intro v hk hv
      by_cases e : part v = v
      · exact ⟨v, hv, .self e⟩
      · have := hd v hv e; omega
    | succ k ih =>
      intro v hk hv
      by_cases e : part v = v
      · exact ⟨v, hv, .self e⟩
      · obtain ⟨r, hr, h1⟩ := ih (part v) (by have := hd v hv e; omega) (h.lt v hv)
        exact ⟨r, hr, .step e h1⟩
  exact key (d v) v (Nat.le_refl _) hv
theorem UF.root_conn {n : Nat} {part : Nat → Nat} {l : List Wr} (h : UF n part l) {v r : Nat} (hv : v < n) (hr : RootOf part v r) : Conn l v r := by
  induction hr with
  | self => exact .refl _
  | step _ _ ih => exact (h.conn _ hv).trans (ih (h.lt _ hv))
theorem UF.conn_root {n : Nat} {part : Nat → Nat} {l : List Wr} (h : UF n part l) {u v r : Nat} (c : Conn l u v) (hr : RootOf part u r) : RootOf part v r := by
  induction c with
  | refl => exact hr
  | step _ h2 ih =>
    rcases h2 with h2 | h2
    · obtain ⟨r', h3, h4⟩ := h.same _ h2
      rw [ih.uniq h3]; exact h4
    · obtain ⟨r', h3, h4⟩ := h.same _ h2
      rw [ih.uniq h4]; exact h3

theorem UF.start (n : Nat) : UF n (fun v => v) [] :=
  ⟨fun _ h => h, ⟨fun _ => 0, fun v _ h => absurd rfl h⟩, fun _ _ => .refl _, fun _ h => (by cases h), (by rw [cnt_all fun v _ => by simp]; rfl)⟩

def link (part : Nat → Nat) (a b : Nat) : Nat → Nat := fun v => if v = a then b else part v
theorem root_link {part : Nat → Nat} {a b v r : Nat} (ha : part a = a) (hb : part b = b) (hab : a ≠ b) (h : RootOf part v r) : RootOf (link part a b) v (if r = a then b else r) := by
  have hbb : RootOf (link part a b) b b := .self (by unfold link; rw [if_neg (Ne.symm hab)]; exact hb)
  have haa : RootOf (link part a b) a b := .step (by unfold link; rw [if_pos rfl]; exact Ne.symm hab) (by unfold link; rw [if_pos rfl]; exact hbb)
  induction h with
  | self h =>
    rename_i v
    by_cases e : v = a
    · subst e; rw [if_pos rfl]; exact haa
    · rw [if_neg e]; exact .self (by unfold link; rw [if_neg e]; exact h)
  | step h1 _ ih =>
    rename_i v r _
    by_cases e : v = a
    · subst e; exact absurd ha h1
    · have el : link part a b v = part v := by unfold link; rw [if_neg e]
      exact .step (by rw [el]; exact h1) (by rw [el]; exact ih)

theorem UF.join {n : Nat} {part : Nat → Nat} {l : List Wr} (h : UF n part l) {e : Wr} {a b : Nat} (h1 : e.1 < n) (h2 : e.2 < n) (ha : RootOf part e.1 a) (hb : RootOf part e.2 b) (la : a < n) (lb : b < n) (hab : a ≠ b) : UF n (link part a b) (l ++ [e]) := by
  have ra := ha.root
  have rb := hb.root
  have up : ∀ x ∈ l, x ∈ l ++ [e] := fun x hx => List.mem_append_left _ hx
  refine ⟨fun v hv => ?_, ?_, fun v hv => ?_, fun x hx => ?_, ?_⟩
  · unfold link; split
    · exact lb
    · exact h.lt v hv
  · obtain ⟨d, hd⟩ := h.dep
    refine ⟨fun v => if RootOf part v a then d v + d b + 1 else d v, fun v hv hne => ?_⟩
    show (if RootOf part (link part a b v) a then d (link part a b v) + d b + 1 else d (link part a b v)) < (if RootOf part v a then d v + d b + 1 else d v)
    by_cases e1 : v = a
    · have hnb : ¬ RootOf part b a := fun hh => hab (hh.uniq (.self rb))
      have el : link part a b v = b := if_pos e1
      rw [el, if_neg hnb, e1, if_pos (RootOf.self ra)]
      omega
    · have el : link part a b v = part v := if_neg e1
      rw [el] at hne ⊢
      have hlt := hd v hv hne
      by_cases e2 : RootOf part v a
      · have e3 : RootOf part (part v) a := by
          cases e2 with
          | self hh => exact absurd hh hne
          | step _ hh => exact hh
        rw [if_pos e2, if_pos e3]; omega
      · have e3 : ¬ RootOf part (part v) a := fun hh => e2 (.step hne hh)
        rw [if_neg e2, if_neg e3]; exact hlt
  · unfold link
    by_cases e1 : v = a
    · subst e1
      rw [if_pos rfl]
      exact ((h.root_conn h1 ha).symm.mono up).trans ((Conn.one (.inl (by simp))).trans ((h.root_conn h2 hb).mono up))
    · rw [if_neg e1]; exact (h.conn v hv).mono up
  · rcases List.mem_append.1 hx with hx | hx
    · obtain ⟨r, q1, q2⟩ := h.same x hx
      exact ⟨_, root_link ra rb hab q1, root_link ra rb hab q2⟩
    · obtain rfl : x = e := by simpa using hx
      have q1 := root_link ra rb hab ha
      have q2 := root_link ra rb hab hb
      rw [if_pos rfl] at q1
      rw [if_neg (Ne.symm hab)] at q2
      exact ⟨b, q1, q2⟩
  · have hold := h.roots
    have e1 : (fun v => decide (part v = v)) = ins (fun v => decide (link part a b v = v)) a := by
      funext v
      unfold ins link
      by_cases e1 : v = a
      · subst e1; simp [ra]
      · simp [e1]
    rw [e1, cnt_ins (by unfold link; simp [Ne.symm hab]) la] at hold
    rw [List.length_append, List.length_singleton]
    omega

/-- All is joined: a tree. -/
theorem UF.tree {n : Nat} {part : Nat → Nat} {l : List Wr} (h : UF n part l) (hn : 1 ≤ n) (hl : l.length = n - 1) : RF n (one 0) l := by
  have h1 : cntS n (fun v => decide (part v = v)) = 1 := by have := h.roots; omega
  refine ⟨by rw [cnt_one (by omega)]; omega, fun v hv => ⟨0, by omega, one_self 0, ?_⟩⟩
  obtain ⟨r, lr, hr⟩ := h.has hv
  obtain ⟨r0, lr0, hr0⟩ := h.has (show 0 < n by omega)
  have e : r = r0 := Classical.byContradiction fun hne => by
    have e1 : (fun v => decide (part v = v)) = ins (ins (fun v => decide (part v = v ∧ v ≠ r ∧ v ≠ r0)) r) r0 := by
      funext v
      unfold ins
      by_cases a1 : v = r
      · subst a1; simp [hr.root]
      · by_cases a2 : v = r0
        · subst a2; simp [hr0.root]
        · simp [a1, a2]
    rw [e1, cnt_ins (by simp [ins, Ne.symm hne]) lr0, cnt_ins (by simp) lr] at h1
    omega
  subst e
  exact (h.root_conn hv hr).trans (h.root_conn (by omega) hr0).symm

/-- Ends that are joined already: no tree. -/
theorem not_tree {n : Nat} {l m : List Wr} {e : Wr} (hl : Wf n (l ++ e :: m)) (hn : 1 ≤ n) (c : Conn l e.1 e.2) : ¬ RF n (one 0) (l ++ e :: m) := fun h => by
  have hs : Spans n (one 0) (l ++ m) := fun v hv => by
    obtain ⟨s, h1, h2, h3⟩ := h.2 v hv
    refine ⟨s, h1, h2, ?_⟩
    have c' : Conn (l ++ m) e.1 e.2 := c.mono fun x hx => List.mem_append_left _ hx
    clear h1 h2
    induction h3 with
    | refl => exact .refl _
    | step _ h4 ih =>
      rename_i u w _
      have go : ∀ x y, (x, y) ∈ l ++ e :: m → Conn (l ++ m) x y := fun x y hxy => by
        rcases List.mem_append.1 hxy with q | q
        · exact .one (.inl (List.mem_append_left _ q))
        · rcases List.mem_cons.1 q with q | q
          · rw [← q] at c'; exact c'
          · exact .one (.inl (List.mem_append_right _ q))
      rcases h4 with h4 | h4
      · exact ih.trans (go _ _ h4)
      · exact ih.trans (go _ _ h4).symm
  have hc := Spans.count (fun x hx => hl x (by rcases List.mem_append.1 hx with q | q; exact List.mem_append_left _ q; exact List.mem_append_right _ (List.mem_cons_of_mem _ q))) hs
  have := h.1
  rw [cnt_one (by omega)] at this hc
  simp only [List.length_append, List.length_cons] at this hc
  omega

end Go.Dt

/- Lifted texts, printed by program (gen.py): what each function's code asks. The ties are by the kernel. -/
namespace Go.Proofs.YtkdcldbedbagjaaDoor
open Go.Lf Go.RowKit

def S16 (t0 t1 t2 : Value) (w : World) (R : Ending → World → Prop) : Prop :=
  callW Tryd.prog (.func (.func 44) #[] #[]) [t0, t1] w fun t10 w =>
  unQ .not t10 fun t11 =>
  condW t11 (
    R (.returned (.tuple #[(.bool false), (.int .i64 2)])) w
  ) (
    ln1 t2 fun t13 =>
    binQ Tryd.prog w .gtr 3 true t13 (.int .i64 16) fun t14 =>
    condW t14 (
      R (.returned (.tuple #[(.bool false), (.int .i64 3)])) w
    ) (
      callW Tryd.prog (.func (.func 45) #[] #[]) [t0, t1, t2] w fun t18 w =>
      R (.returned (.tuple #[t18, (.int .i64 0)])) w
    )
  )

def A16 : Ann where
  live := fun _ => []
  wr := fun _ _ => false
  sched := fun _ => .done

set_option maxRecDepth 100000 in
theorem ok16 : (codeOk Tryd.f16.ntmps A16 (Tryd.f16.body.getD .skip) 0 && Nat.ble 3 Tryd.f16.ntmps) = true := by kernel_rfl
set_option maxRecDepth 100000 in
theorem lift16 {t0 t1 t2 : Value} {w : World} {R : Ending → World → Prop} (h : S16 t0 t1 t2 w R) : Calls Tryd.prog 16 #[t0, t1, t2] w R :=
  calls_of_cw (fn := Tryd.f16) (c := Tryd.f16.body.getD .skip) A16 mixes Tryd.func16 (by kernel_rfl) ok16
    ((by kernel_rfl : (S16 t0 t1 t2 w R) = cw Tryd.prog A16 (Tryd.f16.body.getD .skip) 0 (bodyQ Tryd.prog Tryd.f16 R) (frOf #[t0, t1, t2]) w).mp h)

def S18L1 (t2 t13 t30 t32 : Value) (R : Ending → World → Prop) (w : World) : Prop :=
  Loop2 (.slice none 0 0) (.int .i64 0) w fun _ t15 t16 w next_2 =>
    ln1 t2 fun t51 =>
    binQ Tryd.prog w .lss 3 false t16 t51 fun t52 =>
    condW t52 (
      binQ Tryd.prog w .mul 3 true (.int .i64 2) t16 fun t59 =>
      callW Tryd.prog (.func (.func 53) #[] #[]) [t30, t32, t59] w fun t60 w =>
      binQ Tryd.prog w .mul 3 true (.int .i64 2) t16 fun t64 =>
      binQ Tryd.prog w .add 3 true t64 (.int .i64 1) fun t65 =>
      callW Tryd.prog (.func (.func 53) #[] #[]) [t30, t32, t65] w fun t66 w =>
      bdQ Tryd.prog 40 [(0, t60), (1, t66)] fun t67 =>
      bsW Tryd.prog 27 1 [(0, t67)] w fun t68 w =>
      semW Tryd.prog (apS [27, 27] 27 [t15, t68]) w fun t69 w =>
      binQ Tryd.prog w .add 3 true t16 (.int .i64 1) fun t54 =>
      next_2 t69 t54 w
    ) (
      R (.returned (.tuple #[t13, t15, (.int .i64 0)])) w
    )

def S18L0 (t2 t30 t32 : Value) (R : Ending → World → Prop) (w : World) : Prop :=
  Loop2 (.int .i64 0) (.int .i64 0) w fun _ t13 t14 w next =>
    ln1 t32 fun t35 =>
    binQ Tryd.prog w .lss 3 false t14 t35 fun t36 =>
    condW t36 (
      iaS 1 t32 t14 fun t41 =>
      ld1 w t41 fun t42 =>
      binQ Tryd.prog w .eql 3 false t42 t14 fun t44 =>
      Join (fun (k_2 : Value → World → Prop) =>
        condW t44 (
          binQ Tryd.prog w .add 3 true t13 (.int .i64 1) fun t46 =>
          k_2 t46 w
        ) (
          k_2 t13 w
        )
      ) fun t13_2 w =>
      binQ Tryd.prog w .add 3 true t14 (.int .i64 1) fun t38_2 =>
      next t13_2 t38_2 w
    ) (
      binQ Tryd.prog w .gtr 3 true t13 (.int .i64 8) fun t48 =>
      condW t48 (
        R (.returned (.tuple #[(.int .i64 0), (.slice none 0 0), (.int .i64 8)])) w
      ) (
        S18L1 t2 t13 t30 t32 R w
      )
    )

def S18 (t0 t1 t2 : Value) (w : World) (R : Ending → World → Prop) : Prop :=
  callW Tryd.prog (.func (.func 16) #[] #[]) [t0, t1, t2] w fun t21 w =>
  exQ t21 0 fun t22 =>
  exQ t21 1 fun t23 =>
  binQ Tryd.prog w .neq 24 true t23 (.int .i64 0) fun t25 =>
  condW t25 (
    R (.returned (.tuple #[(.int .i64 0), (.slice none 0 0), t23])) w
  ) (
    unQ .not t22 fun t28 =>
    condW t28 (
      R (.returned (.tuple #[(.int .i64 0), (.slice none 0 0), (.int .i64 10)])) w
    ) (
      callW Tryd.prog (.func (.func 51) #[] #[]) [t2] w fun t30 w =>
      callW Tryd.prog (.func (.func 52) #[] #[]) [t30] w fun t32 w =>
      S18L0 t2 t30 t32 R w
    )
  )

def A18 : Ann where
  live := fun
    | 0 => [13, 14]
    | 2 => [15, 16]
    | _ => []
  wr := fun
    | 0 => fun i => (Nat.ble 13 i && Nat.ble i 14) || (Nat.ble 33 i && Nat.ble i 46)
    | 2 => fun i => (Nat.ble 15 i && Nat.ble i 16) || (Nat.ble 49 i && Nat.ble i 69)
    | _ => fun _ => false
  sched := fun _ => .done

set_option maxRecDepth 100000 in
theorem ok18 : (codeOk Tryd.f18.ntmps A18 (Tryd.f18.body.getD .skip) 0 && Nat.ble 3 Tryd.f18.ntmps) = true := by kernel_rfl
set_option maxRecDepth 100000 in
theorem lift18 {t0 t1 t2 : Value} {w : World} {R : Ending → World → Prop} (h : S18 t0 t1 t2 w R) : Calls Tryd.prog 18 #[t0, t1, t2] w R :=
  calls_of_cw (fn := Tryd.f18) (c := Tryd.f18.body.getD .skip) A18 mixes Tryd.func18 (by kernel_rfl) ok18
    ((by kernel_rfl : (S18 t0 t1 t2 w R) = cw Tryd.prog A18 (Tryd.f18.body.getD .skip) 0 (bodyQ Tryd.prog Tryd.f18 R) (frOf #[t0, t1, t2]) w).mp h)

def S45L1 (t2 t7 t8 t9 : Value) (next : Value → Value → World → Prop) (R : Ending → World → Prop) (w : World) : Prop :=
  Loop1 (.int .i64 0) w fun _ t10 w next_2 =>
    binQ Tryd.prog w .lss 3 false t10 t8 fun t60 =>
    condW t60 (
      iaS 3 t2 t10 fun t65 =>
      ldN 3 w t65 fun t66 =>
      boxW 44 (.agg #[(.int .i64 0), (.int .i64 0), (.int .i64 0)]) w fun t11 w =>
      stW Tryd.prog 44 t11 t66 w fun w =>
      fa1 t11 0 fun t67 =>
      ld1 w t67 fun t68 =>
      fa1 t9 0 fun t69 =>
      ld1 w t69 fun t70 =>
      fa1 t9 2 fun t71 =>
      ld1 w t71 fun t72 =>
      binQ Tryd.prog w .add 3 false t70 t72 fun t73 =>
      binQ Tryd.prog w .lss 3 false t68 t73 fun t74 =>
      gd t74 true (fun k => fa1 t9 0 fun v => k v w) w fun t76 w =>
      gd t74 true (fun k => ld1 w t76 fun v => k v w) w fun t77 w =>
      gd t74 true (fun k => fa1 t11 0 fun v => k v w) w fun t78 w =>
      gd t74 true (fun k => ld1 w t78 fun v => k v w) w fun t79 w =>
      gd t74 true (fun k => fa1 t11 2 fun v => k v w) w fun t80 w =>
      gd t74 true (fun k => ld1 w t80 fun v => k v w) w fun t81 w =>
      gd t74 true (fun k => binQ Tryd.prog w .add 3 false t79 t81 fun v => k v w) w fun t82 w =>
      gd t74 true (fun k => binQ Tryd.prog w .lss 3 false t77 t82 fun v => k v w) w fun t83 w =>
      pickQ t74 t83 (.bool false) fun t84 =>
      gd t84 true (fun k => fa1 t11 1 fun v => k v w) w fun t86 w =>
      gd t84 true (fun k => ld1 w t86 fun v => k v w) w fun t87 w =>
      gd t84 true (fun k => fa1 t9 1 fun v => k v w) w fun t88 w =>
      gd t84 true (fun k => ld1 w t88 fun v => k v w) w fun t89 w =>
      gd t84 true (fun k => fa1 t9 2 fun v => k v w) w fun t90 w =>
      gd t84 true (fun k => ld1 w t90 fun v => k v w) w fun t91 w =>
      gd t84 true (fun k => binQ Tryd.prog w .add 3 false t89 t91 fun v => k v w) w fun t92 w =>
      gd t84 true (fun k => binQ Tryd.prog w .lss 3 false t87 t92 fun v => k v w) w fun t93 w =>
      pickQ t84 t93 (.bool false) fun t94 =>
      gd t94 true (fun k => fa1 t9 1 fun v => k v w) w fun t96 w =>
      gd t94 true (fun k => ld1 w t96 fun v => k v w) w fun t97 w =>
      gd t94 true (fun k => fa1 t11 1 fun v => k v w) w fun t98 w =>
      gd t94 true (fun k => ld1 w t98 fun v => k v w) w fun t99 w =>
      gd t94 true (fun k => fa1 t11 2 fun v => k v w) w fun t100 w =>
      gd t94 true (fun k => ld1 w t100 fun v => k v w) w fun t101 w =>
      gd t94 true (fun k => binQ Tryd.prog w .add 3 false t99 t101 fun v => k v w) w fun t102 w =>
      gd t94 true (fun k => binQ Tryd.prog w .lss 3 false t97 t102 fun v => k v w) w fun t103 w =>
      pickQ t94 t103 (.bool false) fun t104 =>
      condW t104 (
        R (.returned (.bool false)) w
      ) (
        binQ Tryd.prog w .add 3 true t10 (.int .i64 1) fun t62 =>
        next_2 t62 w
      )
    ) (
      fa1 t9 2 fun t106 =>
      ld1 w t106 fun t107 =>
      fa1 t9 2 fun t108 =>
      ld1 w t108 fun t109 =>
      binQ Tryd.prog w .mul 3 false t107 t109 fun t110 =>
      binQ Tryd.prog w .add 3 false t7 t110 fun t111 =>
      binQ Tryd.prog w .add 3 true t8 (.int .i64 1) fun t17 =>
      next t111 t17 w
    )

def S45L0 (t0 t1 t2 : Value) (R : Ending → World → Prop) (w : World) : Prop :=
  Loop2 (.int .i64 0) (.int .i64 0) w fun _ t7 t8 w next =>
    ln1 t2 fun t14 =>
    binQ Tryd.prog w .lss 3 false t8 t14 fun t15 =>
    condW t15 (
      iaS 3 t2 t8 fun t20 =>
      ldN 3 w t20 fun t21 =>
      boxW 44 (.agg #[(.int .i64 0), (.int .i64 0), (.int .i64 0)]) w fun t9 w =>
      stW Tryd.prog 44 t9 t21 w fun w =>
      fa1 t9 2 fun t22 =>
      ld1 w t22 fun t23 =>
      binQ Tryd.prog w .lss 3 true t23 (.int .i64 1) fun t24 =>
      gd t24 false (fun k => fa1 t9 2 fun v => k v w) w fun t26 w =>
      gd t24 false (fun k => ld1 w t26 fun v => k v w) w fun t27 w =>
      gd t24 false (fun k => binQ Tryd.prog w .gtr 3 true t27 (.int .i64 1000) fun v => k v w) w fun t28 w =>
      pickQ t24 (.bool true) t28 fun t29 =>
      gd t29 false (fun k => fa1 t9 0 fun v => k v w) w fun t31 w =>
      gd t29 false (fun k => ld1 w t31 fun v => k v w) w fun t32 w =>
      gd t29 false (fun k => binQ Tryd.prog w .lss 3 true t32 (.int .i64 0) fun v => k v w) w fun t33 w =>
      pickQ t29 (.bool true) t33 fun t34 =>
      gd t34 false (fun k => fa1 t9 0 fun v => k v w) w fun t36 w =>
      gd t34 false (fun k => ld1 w t36 fun v => k v w) w fun t37 w =>
      gd t34 false (fun k => k t0 w) w fun t38 w =>
      gd t34 false (fun k => fa1 t9 2 fun v => k v w) w fun t39 w =>
      gd t34 false (fun k => ld1 w t39 fun v => k v w) w fun t40 w =>
      gd t34 false (fun k => binQ Tryd.prog w .sub 3 false t38 t40 fun v => k v w) w fun t41 w =>
      gd t34 false (fun k => binQ Tryd.prog w .gtr 3 false t37 t41 fun v => k v w) w fun t42 w =>
      pickQ t34 (.bool true) t42 fun t43 =>
      gd t43 false (fun k => fa1 t9 1 fun v => k v w) w fun t45 w =>
      gd t43 false (fun k => ld1 w t45 fun v => k v w) w fun t46 w =>
      gd t43 false (fun k => binQ Tryd.prog w .lss 3 true t46 (.int .i64 0) fun v => k v w) w fun t47 w =>
      pickQ t43 (.bool true) t47 fun t48 =>
      gd t48 false (fun k => fa1 t9 1 fun v => k v w) w fun t50 w =>
      gd t48 false (fun k => ld1 w t50 fun v => k v w) w fun t51 w =>
      gd t48 false (fun k => k t1 w) w fun t52 w =>
      gd t48 false (fun k => fa1 t9 2 fun v => k v w) w fun t53 w =>
      gd t48 false (fun k => ld1 w t53 fun v => k v w) w fun t54 w =>
      gd t48 false (fun k => binQ Tryd.prog w .sub 3 false t52 t54 fun v => k v w) w fun t55 w =>
      gd t48 false (fun k => binQ Tryd.prog w .gtr 3 false t51 t55 fun v => k v w) w fun t56 w =>
      pickQ t48 (.bool true) t56 fun t57 =>
      condW t57 (
        R (.returned (.bool false)) w
      ) (
        S45L1 t2 t7 t8 t9 next R w
      )
    ) (
      binQ Tryd.prog w .mul 3 false t0 t1 fun t115 =>
      binQ Tryd.prog w .eql 3 false t7 t115 fun t116 =>
      R (.returned t116) w
    )



def S45 (t0 t1 t2 : Value) (w : World) (R : Ending → World → Prop) : Prop :=
  S45L0 t0 t1 t2 R w

def A45 : Ann where
  live := fun
    | 0 => [7, 8]
    | 2 => [10]
    | _ => []
  wr := fun
    | 0 => fun i => (Nat.ble 6 i && Nat.ble i 111)
    | 2 => fun i => Nat.beq i 6 || (Nat.ble 10 i && Nat.ble i 11) || (Nat.ble 58 i && Nat.ble i 104)
    | _ => fun _ => false
  sched := fun _ => .done

set_option maxRecDepth 100000 in
theorem ok45 : (codeOk Tryd.f45.ntmps A45 (Tryd.f45.body.getD .skip) 0 && Nat.ble 3 Tryd.f45.ntmps) = true := by kernel_rfl
set_option maxRecDepth 100000 in
theorem lift45 {t0 t1 t2 : Value} {w : World} {R : Ending → World → Prop} (h : S45 t0 t1 t2 w R) : Calls Tryd.prog 45 #[t0, t1, t2] w R :=
  calls_of_cw (fn := Tryd.f45) (c := Tryd.f45.body.getD .skip) A45 mixes Tryd.func45 (by kernel_rfl) ok45
    ((by kernel_rfl : (S45 t0 t1 t2 w R) = cw Tryd.prog A45 (Tryd.f45.body.getD .skip) 0 (bodyQ Tryd.prog Tryd.f45 R) (frOf #[t0, t1, t2]) w).mp h)

def S51L0 (t0 : Value) (R : Ending → World → Prop) (w : World) : Prop :=
  Loop2 (.slice none 0 0) (.int .i64 0) w fun _ t3 t4 w next =>
    ln1 t0 fun t8 =>
    binQ Tryd.prog w .lss 3 false t4 t8 fun t9 =>
    condW t9 (
      iaS 3 t0 t4 fun t14 =>
      ldN 3 w t14 fun t15 =>
      boxW 44 (.agg #[(.int .i64 0), (.int .i64 0), (.int .i64 0)]) w fun t5 w =>
      stW Tryd.prog 44 t5 t15 w fun w =>
      fa1 t5 0 fun t17 =>
      ld1 w t17 fun t18 =>
      fa1 t5 0 fun t19 =>
      ld1 w t19 fun t20 =>
      fa1 t5 2 fun t21 =>
      ld1 w t21 fun t22 =>
      binQ Tryd.prog w .add 3 false t20 t22 fun t23 =>
      fa1 t5 1 fun t24 =>
      ld1 w t24 fun t25 =>
      bdQ Tryd.prog 97 [(0, t18), (1, t23), (2, t25)] fun t26 =>
      bsW Tryd.prog 75 1 [(0, t26)] w fun t27 w =>
      semW Tryd.prog (apS [75, 75] 75 [t3, t27]) w fun t28 w =>
      fa1 t5 0 fun t30 =>
      ld1 w t30 fun t31 =>
      fa1 t5 0 fun t32 =>
      ld1 w t32 fun t33 =>
      fa1 t5 2 fun t34 =>
      ld1 w t34 fun t35 =>
      binQ Tryd.prog w .add 3 false t33 t35 fun t36 =>
      fa1 t5 1 fun t37 =>
      ld1 w t37 fun t38 =>
      fa1 t5 2 fun t39 =>
      ld1 w t39 fun t40 =>
      binQ Tryd.prog w .add 3 false t38 t40 fun t41 =>
      bdQ Tryd.prog 97 [(0, t31), (1, t36), (2, t41)] fun t42 =>
      bsW Tryd.prog 75 1 [(0, t42)] w fun t43 w =>
      semW Tryd.prog (apS [75, 75] 75 [t28, t43]) w fun t44 w =>
      binQ Tryd.prog w .add 3 true t4 (.int .i64 1) fun t11 =>
      next t44 t11 w
    ) (
      R (.returned t3) w
    )



def S51 (t0 : Value) (w : World) (R : Ending → World → Prop) : Prop :=
  S51L0 t0 R w

def A51 : Ann where
  live := fun
    | 0 => [3, 4]
    | _ => []
  wr := fun
    | 0 => fun i => (Nat.ble 3 i && Nat.ble i 44)
    | _ => fun _ => false
  sched := fun _ => .done

set_option maxRecDepth 100000 in
theorem ok51 : (codeOk Tryd.f51.ntmps A51 (Tryd.f51.body.getD .skip) 0 && Nat.ble 1 Tryd.f51.ntmps) = true := by kernel_rfl
set_option maxRecDepth 100000 in
theorem lift51 {t0 : Value} {w : World} {R : Ending → World → Prop} (h : S51 t0 w R) : Calls Tryd.prog 51 #[t0] w R :=
  calls_of_cw (fn := Tryd.f51) (c := Tryd.f51.body.getD .skip) A51 mixes Tryd.func51 (by kernel_rfl) ok51
    ((by kernel_rfl : (S51 t0 w R) = cw Tryd.prog A51 (Tryd.f51.body.getD .skip) 0 (bodyQ Tryd.prog Tryd.f51 R) (frOf #[t0]) w).mp h)

def S52L3 (t0 t6 t11 : Value) (next_3 : Value → World → Prop) (w : World) : Prop :=
  Loop1 (.int .i64 0) w fun _ t7 w next_4 =>
    ln1 t0 fun t36 =>
    binQ Tryd.prog w .lss 3 false t7 t36 fun t37 =>
    condW t37 (
      Drew w fun w =>
      iaS 3 t0 t6 fun t42 =>
      fa1 t42 2 fun t43 =>
      ld1 w t43 fun t44 =>
      iaS 3 t0 t7 fun t47 =>
      fa1 t47 2 fun t48 =>
      ld1 w t48 fun t49 =>
      binQ Tryd.prog w .eql 3 false t44 t49 fun t50 =>
      gdQ t50 true (fun k => k t0) fun t52 =>
      gdQ t50 true (fun k => k t6) fun t53 =>
      gdQ t50 true (fun k => iaS 3 t52 t53 k) fun t54 =>
      gdQ t50 true (fun k => fa1 t54 0 k) fun t55 =>
      gdQ t50 true (fun k => ld1 w t55 k) fun t56 =>
      gdQ t50 true (fun k => k t0) fun t57 =>
      gdQ t50 true (fun k => k t7) fun t58 =>
      gdQ t50 true (fun k => iaS 3 t57 t58 k) fun t59 =>
      gdQ t50 true (fun k => fa1 t59 1 k) fun t60 =>
      gdQ t50 true (fun k => ld1 w t60 k) fun t61 =>
      gdQ t50 true (fun k => binQ Tryd.prog w .leq 3 false t56 t61 k) fun t62 =>
      pickQ t50 t62 (.bool false) fun t63 =>
      gdQ t63 true (fun k => k t0) fun t65 =>
      gdQ t63 true (fun k => k t7) fun t66 =>
      gdQ t63 true (fun k => iaS 3 t65 t66 k) fun t67 =>
      gdQ t63 true (fun k => fa1 t67 0 k) fun t68 =>
      gdQ t63 true (fun k => ld1 w t68 k) fun t69 =>
      gdQ t63 true (fun k => k t0) fun t70 =>
      gdQ t63 true (fun k => k t6) fun t71 =>
      gdQ t63 true (fun k => iaS 3 t70 t71 k) fun t72 =>
      gdQ t63 true (fun k => fa1 t72 1 k) fun t73 =>
      gdQ t63 true (fun k => ld1 w t73 k) fun t74 =>
      gdQ t63 true (fun k => binQ Tryd.prog w .leq 3 false t69 t74 k) fun t75 =>
      pickQ t63 t75 (.bool false) fun t76 =>
      Join (fun (k_2 : World → Prop) =>
        condW t76 (
          Drew w fun w =>
          iaS 1 t11 t6 fun t79 =>
          ld1 w t79 fun t80 =>
          iaS 1 t11 t7 fun t83 =>
          ld1 w t83 fun t84 =>
          mnQ false [t80, t84] fun t85 =>
          iaS 1 t11 t6 fun t89 =>
          stW Tryd.prog 3 t89 t85 w fun w =>
          iaS 1 t11 t7 fun t93 =>
          stW Tryd.prog 3 t93 t85 w fun w =>
          k_2 w
        ) (
          k_2 w
        )
      ) fun w =>
      binQ Tryd.prog w .add 3 true t7 (.int .i64 1) fun t39_2 =>
      next_4 t39_2 w
    ) (
      binQ Tryd.prog w .add 3 true t6 (.int .i64 1) fun t33 =>
      next_3 t33 w
    )

def S52L2 (t0 t5 t11 : Value) (next_2 : Value → World → Prop) (w : World) : Prop :=
  Loop1 (.int .i64 0) w fun _ t6 w next_3 =>
    ln1 t0 fun t30 =>
    binQ Tryd.prog w .lss 3 false t6 t30 fun t31 =>
    condW t31 (
      S52L3 t0 t6 t11 next_3 w
    ) (
      binQ Tryd.prog w .add 3 true t5 (.int .i64 1) fun t27 =>
      next_2 t27 w
    )

def S52L1 (t0 t11 : Value) (R : Ending → World → Prop) (w : World) : Prop :=
  Loop1 (.int .i64 0) w fun _ t5 w next_2 =>
    ln1 t0 fun t24 =>
    binQ Tryd.prog w .lss 3 false t5 t24 fun t25 =>
    condW t25 (
      S52L2 t0 t5 t11 next_2 w
    ) (
      R (.returned t11) w
    )

def S52L0 (t0 t11 : Value) (R : Ending → World → Prop) (w : World) : Prop :=
  Loop1 (.int .i64 0) w fun _ t4 w next =>
    ln1 t0 fun t14 =>
    binQ Tryd.prog w .lss 3 false t4 t14 fun t15 =>
    condW t15 (
      iaS 1 t11 t4 fun t21 =>
      stW Tryd.prog 3 t21 t4 w fun w =>
      binQ Tryd.prog w .add 3 true t4 (.int .i64 1) fun t17 =>
      next t17 w
    ) (
      S52L1 t0 t11 R w
    )



def S52 (t0 : Value) (w : World) (R : Ending → World → Prop) : Prop :=
  ln1 t0 fun t10 =>
  mkW Tryd.prog 34 t10 t10 w fun t11 w =>
  S52L0 t0 t11 R w

def A52 : Ann where
  live := fun
    | 0 => [4]
    | 2 => [5]
    | 4 => [6]
    | 6 => [7]
    | _ => []
  wr := fun
    | 0 => fun i => Nat.beq i 4 || (Nat.ble 12 i && Nat.ble i 21)
    | 2 => fun i => (Nat.ble 5 i && Nat.ble i 8) || (Nat.ble 22 i && Nat.ble i 93)
    | 4 => fun i => (Nat.ble 6 i && Nat.ble i 8) || (Nat.ble 28 i && Nat.ble i 93)
    | 6 => fun i => (Nat.ble 7 i && Nat.ble i 8) || (Nat.ble 34 i && Nat.ble i 93)
    | _ => fun _ => false
  sched := fun
    | 15 => (.take 0 (.take 1 (.take 2 (.take 3 (.take 4 (.take 5 (.take 6 (.take 7 (.take 8 (.take 9 (.take 10 (.take 11 (.take 12 (.take 13 (.take 14 (.take 15 (.take 16 (.take 17 (.take 18 (.take 19 (.take 20 (.take 21 (.take 22 (.take 23 (.take 24 (.take 25 (.take 26 (.take 27 (.take 28 (.take 29 (.take 30 (.take 31 (.take 32 (.take 33 (.take 34 (.take 35 (.take 36 .done)))))))))))))))))))))))))))))))))))))
    | 16 => (.take 0 (.take 1 (.take 2 (.take 3 (.take 4 (.take 5 (.take 6 (.take 7 (.take 8 (.take 9 .done))))))))))
    | _ => .done

set_option maxRecDepth 100000 in
theorem ok52 : (codeOk Tryd.f52.ntmps A52 (Tryd.f52.body.getD .skip) 0 && Nat.ble 1 Tryd.f52.ntmps) = true := by kernel_rfl
set_option maxRecDepth 100000 in
theorem lift52 {t0 : Value} {w : World} {R : Ending → World → Prop} (h : S52 t0 w R) : Calls Tryd.prog 52 #[t0] w R :=
  calls_of_cw (fn := Tryd.f52) (c := Tryd.f52.body.getD .skip) A52 mixes Tryd.func52 (by kernel_rfl) ok52
    ((by kernel_rfl : (S52 t0 w R) = cw Tryd.prog A52 (Tryd.f52.body.getD .skip) 0 (bodyQ Tryd.prog Tryd.f52 R) (frOf #[t0]) w).mp h)

def S53L0 (t0 t1 t2 : Value) (R : Ending → World → Prop) (w : World) : Prop :=
  Loop2 (.int .i64 0) (.int .i64 0) w fun _ t7 t8 w next =>
    ln1 t0 fun t11 =>
    binQ Tryd.prog w .lss 3 false t8 t11 fun t12 =>
    condW t12 (
      iaS 1 t1 t8 fun t17 =>
      ld1 w t17 fun t18 =>
      binQ Tryd.prog w .eql 3 false t18 t8 fun t20 =>
      gd t20 true (fun k => k t0 w) w fun t22 w =>
      gd t20 true (fun k => k t1 w) w fun t23 w =>
      gd t20 true (fun k => k t8 w) w fun t24 w =>
      gd t20 true (fun k => k t1 w) w fun t25 w =>
      gd t20 true (fun k => k t2 w) w fun t26 w =>
      gd t20 true (fun k => iaS 1 t25 t26 fun v => k v w) w fun t27 w =>
      gd t20 true (fun k => ld1 w t27 fun v => k v w) w fun t28 w =>
      gd t20 true (fun k => callW Tryd.prog (.func (.func 69) #[] #[]) [t22, t23, t24, t28] w k) w fun t29 w =>
      pickQ t20 t29 (.bool false) fun t30 =>
      Join (fun (k_2 : Value → World → Prop) =>
        condW t30 (
          binQ Tryd.prog w .add 3 true t7 (.int .i64 1) fun t32 =>
          k_2 t32 w
        ) (
          k_2 t7 w
        )
      ) fun t7_2 w =>
      binQ Tryd.prog w .add 3 true t8 (.int .i64 1) fun t14_2 =>
      next t7_2 t14_2 w
    ) (
      R (.returned t7) w
    )



def S53 (t0 t1 t2 : Value) (w : World) (R : Ending → World → Prop) : Prop :=
  S53L0 t0 t1 t2 R w

def A53 : Ann where
  live := fun
    | 0 => [7, 8]
    | _ => []
  wr := fun
    | 0 => fun i => (Nat.ble 7 i && Nat.ble i 32)
    | _ => fun _ => false
  sched := fun _ => .done

set_option maxRecDepth 100000 in
theorem ok53 : (codeOk Tryd.f53.ntmps A53 (Tryd.f53.body.getD .skip) 0 && Nat.ble 3 Tryd.f53.ntmps) = true := by kernel_rfl
set_option maxRecDepth 100000 in
theorem lift53 {t0 t1 t2 : Value} {w : World} {R : Ending → World → Prop} (h : S53 t0 t1 t2 w R) : Calls Tryd.prog 53 #[t0, t1, t2] w R :=
  calls_of_cw (fn := Tryd.f53) (c := Tryd.f53.body.getD .skip) A53 mixes Tryd.func53 (by kernel_rfl) ok53
    ((by kernel_rfl : (S53 t0 t1 t2 w R) = cw Tryd.prog A53 (Tryd.f53.body.getD .skip) 0 (bodyQ Tryd.prog Tryd.f53 R) (frOf #[t0, t1, t2]) w).mp h)

def S59L0 (t0 t1 : Value) (R : Ending → World → Prop) (w : World) : Prop :=
  Loop2 (.slice none 0 0) (.int .i64 0) w fun _ t5 t6 w next =>
    ln1 t1 fun t9 =>
    binQ Tryd.prog w .shl 3 true (.int .i64 1) t9 fun t10 =>
    binQ Tryd.prog w .lss 3 false t6 t10 fun t11 =>
    condW t11 (
      callW Tryd.prog (.func (.func 75) #[] #[]) [t6] w fun t15 w =>
      binQ Tryd.prog w .sub 3 true t0 (.int .i64 1) fun t17 =>
      binQ Tryd.prog w .eql 3 false t15 t17 fun t18 =>
      gd t18 true (fun k => k t0 w) w fun t20 w =>
      gd t18 true (fun k => k t1 w) w fun t21 w =>
      gd t18 true (fun k => k t6 w) w fun t22 w =>
      gd t18 true (fun k => callW Tryd.prog (.func (.func 76) #[] #[]) [t20, t21, t22] w k) w fun t23 w =>
      pickQ t18 t23 (.bool false) fun t24 =>
      Join (fun (k_2 : Value → World → Prop) =>
        condW t24 (
          bsW Tryd.prog 34 1 [(0, t6)] w fun t27 w =>
          semW Tryd.prog (apS [34, 34] 34 [t5, t27]) w fun t28 w =>
          k_2 t28 w
        ) (
          k_2 t5 w
        )
      ) fun t5_2 w =>
      binQ Tryd.prog w .add 3 true t6 (.int .i64 1) fun t13_2 =>
      next t5_2 t13_2 w
    ) (
      R (.returned t5) w
    )



def S59 (t0 t1 : Value) (w : World) (R : Ending → World → Prop) : Prop :=
  S59L0 t0 t1 R w

def A59 : Ann where
  live := fun
    | 0 => [5, 6]
    | _ => []
  wr := fun
    | 0 => fun i => (Nat.ble 5 i && Nat.ble i 28)
    | _ => fun _ => false
  sched := fun _ => .done

set_option maxRecDepth 100000 in
theorem ok59 : (codeOk Tryd.f59.ntmps A59 (Tryd.f59.body.getD .skip) 0 && Nat.ble 2 Tryd.f59.ntmps) = true := by kernel_rfl
set_option maxRecDepth 100000 in
theorem lift59 {t0 t1 : Value} {w : World} {R : Ending → World → Prop} (h : S59 t0 t1 w R) : Calls Tryd.prog 59 #[t0, t1] w R :=
  calls_of_cw (fn := Tryd.f59) (c := Tryd.f59.body.getD .skip) A59 mixes Tryd.func59 (by kernel_rfl) ok59
    ((by kernel_rfl : (S59 t0 t1 w R) = cw Tryd.prog A59 (Tryd.f59.body.getD .skip) 0 (bodyQ Tryd.prog Tryd.f59 R) (frOf #[t0, t1]) w).mp h)

def S60L0 (t0 t1 t2 t3 : Value) (R : Ending → World → Prop) (w : World) : Prop :=
  Loop2 (.slice none 0 0) (.int .i64 0) w fun _ t9 t10 w next =>
    ln1 t1 fun t15 =>
    binQ Tryd.prog w .lss 3 false t10 t15 fun t16 =>
    condW t16 (
      Drew w fun w =>
      iaS 2 t1 t10 fun t21 =>
      fa1 t21 0 fun t22 =>
      ld1 w t22 fun t23 =>
      iaS 2 t1 t10 fun t30 =>
      fa1 t30 1 fun t31 =>
      ld1 w t31 fun t32 =>
      callW Tryd.prog (.func (.func 77) #[] #[]) [t23, t0, t2, t3] w <| keepB w fun t27 w =>
      callW Tryd.prog (.func (.func 77) #[] #[]) [t32, t0, t2, t3] w fun t36 w =>
      binQ Tryd.prog w .neq 3 false t27 t36 fun t39 =>
      Join (fun (k_2 : Value → World → Prop) =>
        condW t39 (
          bdQ Tryd.prog 40 [(0, t27), (1, t36)] fun t43 =>
          bsW Tryd.prog 27 1 [(0, t43)] w fun t44 w =>
          semW Tryd.prog (apS [27, 27] 27 [t9, t44]) w fun t45 w =>
          k_2 t45 w
        ) (
          k_2 t9 w
        )
      ) fun t9_2 w =>
      binQ Tryd.prog w .add 3 true t10 (.int .i64 1) fun t18_2 =>
      next t9_2 t18_2 w
    ) (
      R (.returned t9) w
    )



def S60 (t0 t1 t2 t3 : Value) (w : World) (R : Ending → World → Prop) : Prop :=
  S60L0 t0 t1 t2 t3 R w

def A60 : Ann where
  live := fun
    | 0 => [9, 10]
    | _ => []
  wr := fun
    | 0 => fun i => (Nat.ble 9 i && Nat.ble i 45)
    | _ => fun _ => false
  sched := fun
    | 5 => (.take 0 (.take 1 (.take 2 (.take 3 (.take 4 (.take 5 (.take 6 (.take 7 (.take 9 (.take 10 (.take 11 (.take 12 (.take 13 (.take 14 (.take 15 (.take 16 (.eff 8 (.bar 17 (.take 18 (.take 19 .done))))))))))))))))))))
    | _ => .done

set_option maxRecDepth 100000 in
theorem ok60 : (codeOk Tryd.f60.ntmps A60 (Tryd.f60.body.getD .skip) 0 && Nat.ble 4 Tryd.f60.ntmps) = true := by kernel_rfl
set_option maxRecDepth 100000 in
theorem lift60 {t0 t1 t2 t3 : Value} {w : World} {R : Ending → World → Prop} (h : S60 t0 t1 t2 t3 w R) : Calls Tryd.prog 60 #[t0, t1, t2, t3] w R :=
  calls_of_cw (fn := Tryd.f60) (c := Tryd.f60.body.getD .skip) A60 mixes Tryd.func60 (by kernel_rfl) ok60
    ((by kernel_rfl : (S60 t0 t1 t2 t3 w R) = cw Tryd.prog A60 (Tryd.f60.body.getD .skip) 0 (bodyQ Tryd.prog Tryd.f60 R) (frOf #[t0, t1, t2, t3]) w).mp h)

def S61L2 (t1 t2 t3 t13 t14 t21 : Value) (next_2 : Value → Value → World → Prop) (w : World) : Prop :=
  Loop2 t13 (.int .i64 0) w fun _ t13_2 t15 w next_3 =>
    ln1 t1 fun t40 =>
    binQ Tryd.prog w .lss 3 false t15 t40 fun t41 =>
    condW t41 (
      Join (fun (k_2 : Value → World → Prop) =>
        binQ Tryd.prog w .shr 3 false t2 t15 fun t46 =>
        binQ Tryd.prog w .rem 3 true t46 (.int .i64 2) fun t47 =>
        binQ Tryd.prog w .eql 3 true t47 (.int .i64 0) fun t48 =>
        condW t48 (
          k_2 t13_2 w
        ) (
          Drew w fun w =>
          iaS 2 t1 t15 fun t51 =>
          fa1 t51 0 fun t52 =>
          ld1 w t52 fun t53 =>
          iaS 1 t13_2 t14 fun t56 =>
          ld1 w t56 fun t57 =>
          binQ Tryd.prog w .eql 3 false t53 t57 fun t58 =>
          Join (fun (k_4 : Value → World → Prop) =>
            condW t58 (
              iaS 2 t1 t15 fun t61 =>
              fa1 t61 1 fun t62 =>
              ld1 w t62 fun t63 =>
              k_4 t63 w
            ) (
              k_4 (.int .i64 (-1)) w
            )
          ) fun t16_2 w =>
          Drew w fun w =>
          iaS 2 t1 t15 fun t66_2 =>
          fa1 t66_2 1 fun t67_2 =>
          ld1 w t67_2 fun t68_2 =>
          iaS 1 t13_2 t14 fun t71_2 =>
          ld1 w t71_2 fun t72_2 =>
          binQ Tryd.prog w .eql 3 false t68_2 t72_2 fun t73_2 =>
          Join (fun (k_5 : Value → World → Prop) =>
            condW t73_2 (
              iaS 2 t1 t15 fun t76_2 =>
              fa1 t76_2 0 fun t77_2 =>
              ld1 w t77_2 fun t78_2 =>
              k_5 t78_2 w
            ) (
              k_5 t16_2 w
            )
          ) fun t16_3 w =>
          binQ Tryd.prog w .geq 3 true t16_3 (.int .i64 0) fun t80_4 =>
          gd t80_4 true (fun k => k t16_3 w) w fun t82_4 w =>
          gd t80_4 true (fun k => k t3 w) w fun t83_4 w =>
          gd t80_4 true (fun k => binQ Tryd.prog w .neq 3 false t82_4 t83_4 fun v => k v w) w fun t84_4 w =>
          pickQ t80_4 t84_4 (.bool false) fun t85_4 =>
          gd t85_4 true (fun k => k t21 w) w fun t87_4 w =>
          gd t85_4 true (fun k => k t16_3 w) w fun t88_4 w =>
          gd t85_4 true (fun k => iaS 1 t87_4 t88_4 fun v => k v w) w fun t89_4 w =>
          gd t85_4 true (fun k => ld1 w t89_4 fun v => k v w) w fun t90_4 w =>
          gd t85_4 true (fun k => binQ Tryd.prog w .lss 3 true t90_4 (.int .i64 0) fun v => k v w) w fun t91_4 w =>
          pickQ t85_4 t91_4 (.bool false) fun t92_4 =>
          condW t92_4 (
            iaS 1 t21 t16_3 fun t96_4 =>
            stW Tryd.prog 3 t96_4 t15 w fun w =>
            bsW Tryd.prog 34 1 [(0, t16_3)] w fun t99_4 w =>
            semW Tryd.prog (apS [34, 34] 34 [t13_2, t99_4]) w fun t100_4 w =>
            k_2 t100_4 w
          ) (
            k_2 t13_2 w
          )
        )
      ) fun t13_3 w =>
      binQ Tryd.prog w .add 3 true t15 (.int .i64 1) fun t43_2 =>
      next_3 t13_3 t43_2 w
    ) (
      binQ Tryd.prog w .add 3 true t14 (.int .i64 1) fun t37 =>
      next_2 t13_2 t37 w
    )

def S61L3 (t1 t3 t4 t21 t103 : Value) (R : Ending → World → Prop) (w : World) : Prop :=
  Loop1 t4 w fun _ t18 w next_4 =>
    binQ Tryd.prog w .neq 3 false t18 t3 fun t107 =>
    condW t107 (
      iaS 1 t21 t18 fun t110 =>
      ld1 w t110 fun t111 =>
      iaS 2 t1 t111 fun t114 =>
      fa1 t114 1 fun t115 =>
      ld1 w t115 fun t116 =>
      binQ Tryd.prog w .eql 3 false t116 t18 fun t118 =>
      condW t118 (
        iaS 1 t103 t111 fun t121 =>
        stW Tryd.prog 3 t121 (.int .i64 1) w fun w =>
        iaS 2 t1 t111 fun t124 =>
        fa1 t124 0 fun t125 =>
        ld1 w t125 fun t126 =>
        next_4 t126 w
      ) (
        iaS 1 t103 t111 fun t129 =>
        stW Tryd.prog 3 t129 (.int .i64 (-1)) w fun w =>
        iaS 2 t1 t111 fun t132 =>
        fa1 t132 1 fun t133 =>
        ld1 w t133 fun t134 =>
        next_4 t134 w
      )
    ) (
      R (.returned t103) w
    )

def S61L1 (t1 t2 t3 t4 t21 t31 : Value) (R : Ending → World → Prop) (w : World) : Prop :=
  Loop2 t31 (.int .i64 0) w fun _ t13 t14 w next_2 =>
    ln1 t13 fun t34 =>
    binQ Tryd.prog w .lss 3 false t14 t34 fun t35 =>
    condW t35 (
      S61L2 t1 t2 t3 t13 t14 t21 next_2 w
    ) (
      ln1 t1 fun t102 =>
      mkW Tryd.prog 34 t102 t102 w fun t103 w =>
      S61L3 t1 t3 t4 t21 t103 R w
    )

def S61L0 (t0 t1 t2 t3 t4 t21 : Value) (R : Ending → World → Prop) (w : World) : Prop :=
  Loop1 (.int .i64 0) w fun _ t12 w next =>
    binQ Tryd.prog w .lss 3 false t12 t0 fun t24 =>
    condW t24 (
      iaS 1 t21 t12 fun t29 =>
      stW Tryd.prog 3 t29 (.int .i64 (-1)) w fun w =>
      binQ Tryd.prog w .add 3 true t12 (.int .i64 1) fun t26 =>
      next t26 w
    ) (
      bsW Tryd.prog 34 1 [(0, t3)] w fun t31 w =>
      S61L1 t1 t2 t3 t4 t21 t31 R w
    )



def S61 (t0 t1 t2 t3 t4 : Value) (w : World) (R : Ending → World → Prop) : Prop :=
  mkW Tryd.prog 34 t0 t0 w fun t21 w =>
  S61L0 t0 t1 t2 t3 t4 t21 R w

def A61 : Ann where
  live := fun
    | 0 => [12]
    | 2 => [13, 14]
    | 4 => [13, 15]
    | 6 => [18]
    | _ => []
  wr := fun
    | 0 => fun i => Nat.beq i 12 || (Nat.ble 22 i && Nat.ble i 29)
    | 2 => fun i => (Nat.ble 13 i && Nat.ble i 16) || (Nat.ble 32 i && Nat.ble i 100)
    | 4 => fun i => Nat.beq i 13 || (Nat.ble 15 i && Nat.ble i 16) || (Nat.ble 38 i && Nat.ble i 100)
    | 6 => fun i => (Nat.ble 18 i && Nat.ble i 19) || (Nat.ble 105 i && Nat.ble i 134)
    | _ => fun _ => false
  sched := fun
    | 15 => (.take 0 (.take 1 (.take 2 (.take 3 (.take 4 (.take 5 (.take 6 (.take 7 (.take 8 (.take 9 .done))))))))))
    | 17 => (.take 0 (.take 1 (.take 2 (.take 3 (.take 4 (.take 5 (.take 6 (.take 7 (.take 8 (.take 9 .done))))))))))
    | _ => .done

set_option maxRecDepth 100000 in
theorem ok61 : (codeOk Tryd.f61.ntmps A61 (Tryd.f61.body.getD .skip) 0 && Nat.ble 5 Tryd.f61.ntmps) = true := by kernel_rfl
set_option maxRecDepth 100000 in
theorem lift61 {t0 t1 t2 t3 t4 : Value} {w : World} {R : Ending → World → Prop} (h : S61 t0 t1 t2 t3 t4 w R) : Calls Tryd.prog 61 #[t0, t1, t2, t3, t4] w R :=
  calls_of_cw (fn := Tryd.f61) (c := Tryd.f61.body.getD .skip) A61 mixes Tryd.func61 (by kernel_rfl) ok61
    ((by kernel_rfl : (S61 t0 t1 t2 t3 t4 w R) = cw Tryd.prog A61 (Tryd.f61.body.getD .skip) 0 (bodyQ Tryd.prog Tryd.f61 R) (frOf #[t0, t1, t2, t3, t4]) w).mp h)

def S63 (t0 t1 : Value) (w : World) (R : Ending → World → Prop) : Prop :=
  boxW 58 (.agg #[(.int .i64 0), (.int .i64 0)]) w fun t4 w =>
  callW Tryd.prog (.func (.func 79) #[] #[]) [t0, t1] w fun t8 w =>
  Drew w fun w =>
  binQ Tryd.prog w .quo 3 false t0 t8 fun t11 =>
  binQ Tryd.prog w .quo 3 false t1 t8 fun t14 =>
  bdQ Tryd.prog 58 [(0, t11), (1, t14)] fun t15 =>
  stW Tryd.prog 58 t4 t15 w fun w =>
  ldN 2 w t4 fun r =>
  R (.returned r) w

def A63 : Ann where
  live := fun _ => []
  wr := fun _ _ => false
  sched := fun
    | 2 => (.take 0 (.take 1 (.take 2 (.take 3 (.take 4 (.take 5 (.take 6 (.bar 7 .done))))))))
    | _ => .done

set_option maxRecDepth 100000 in
theorem ok63 : (codeOk Tryd.f63.ntmps A63 (Tryd.f63.body.getD .skip) 0 && Nat.ble 2 Tryd.f63.ntmps) = true := by kernel_rfl
set_option maxRecDepth 100000 in
theorem lift63 {t0 t1 : Value} {w : World} {R : Ending → World → Prop} (h : S63 t0 t1 w R) : Calls Tryd.prog 63 #[t0, t1] w R :=
  calls_of_cw (fn := Tryd.f63) (c := Tryd.f63.body.getD .skip) A63 mixes Tryd.func63 (by kernel_rfl) ok63
    ((by kernel_rfl : (S63 t0 t1 w R) = cw Tryd.prog A63 (Tryd.f63.body.getD .skip) 0 (bodyQ Tryd.prog Tryd.f63 R) (frOf #[t0, t1]) w).mp h)

def S69 (t0 t1 t2 t3 : Value) (w : World) (R : Ending → World → Prop) : Prop :=
  Drew w fun w =>
  iaS 3 t0 t2 fun t11 =>
  fa1 t11 2 fun t12 =>
  ld1 w t12 fun t13 =>
  iaS 3 t0 t3 fun t16 =>
  fa1 t16 2 fun t17 =>
  ld1 w t17 fun t18 =>
  binQ Tryd.prog w .neq 3 false t13 t18 fun t19 =>
  condW t19 (
    Drew w fun w =>
    iaS 3 t0 t2 fun t22 =>
    fa1 t22 2 fun t23 =>
    ld1 w t23 fun t24 =>
    iaS 3 t0 t3 fun t27 =>
    fa1 t27 2 fun t28 =>
    ld1 w t28 fun t29 =>
    binQ Tryd.prog w .lss 3 false t24 t29 fun t30 =>
    R (.returned t30) w
  ) (
    callW Tryd.prog (.func (.func 83) #[] #[]) [t0, t1, t2] w fun t34 w =>
    callW Tryd.prog (.func (.func 83) #[] #[]) [t0, t1, t3] w fun t38 w =>
    binQ Tryd.prog w .lss 3 false t34 t38 fun t39 =>
    R (.returned t39) w
  )

def A69 : Ann where
  live := fun _ => []
  wr := fun _ _ => false
  sched := fun
    | 1 => (.take 0 (.take 1 (.take 2 (.take 3 (.take 4 (.take 5 (.take 6 (.take 7 (.take 8 (.take 9 (.take 10 .done)))))))))))
    | 2 => (.take 0 (.take 1 (.take 2 (.take 3 (.take 4 (.take 5 (.take 6 (.take 7 (.take 8 (.take 9 (.take 10 (.take 11 .done))))))))))))
    | _ => .done

set_option maxRecDepth 100000 in
theorem ok69 : (codeOk Tryd.f69.ntmps A69 (Tryd.f69.body.getD .skip) 0 && Nat.ble 4 Tryd.f69.ntmps) = true := by kernel_rfl
set_option maxRecDepth 100000 in
theorem lift69 {t0 t1 t2 t3 : Value} {w : World} {R : Ending → World → Prop} (h : S69 t0 t1 t2 t3 w R) : Calls Tryd.prog 69 #[t0, t1, t2, t3] w R :=
  calls_of_cw (fn := Tryd.f69) (c := Tryd.f69.body.getD .skip) A69 mixes Tryd.func69 (by kernel_rfl) ok69
    ((by kernel_rfl : (S69 t0 t1 t2 t3 w R) = cw Tryd.prog A69 (Tryd.f69.body.getD .skip) 0 (bodyQ Tryd.prog Tryd.f69 R) (frOf #[t0, t1, t2, t3]) w).mp h)

def S75L0 (t0 : Value) (R : Ending → World → Prop) (w : World) : Prop :=
  Loop2 t0 (.int .i64 0) w fun _ t0_2 t3 w next =>
    binQ Tryd.prog w .gtr 3 true t0_2 (.int .i64 0) fun t5 =>
    condW t5 (
      binQ Tryd.prog w .rem 3 true t0_2 (.int .i64 2) fun t10 =>
      binQ Tryd.prog w .add 3 false t3 t10 fun t11 =>
      binQ Tryd.prog w .quo 3 true t0_2 (.int .i64 2) fun t7 =>
      next t7 t11 w
    ) (
      R (.returned t3) w
    )



def S75 (t0 : Value) (w : World) (R : Ending → World → Prop) : Prop :=
  S75L0 t0 R w

def A75 : Ann where
  live := fun
    | 0 => [0, 3]
    | _ => []
  wr := fun
    | 0 => fun i => Nat.beq i 0 || (Nat.ble 3 i && Nat.ble i 11)
    | _ => fun _ => false
  sched := fun _ => .done

set_option maxRecDepth 100000 in
theorem ok75 : (codeOk Tryd.f75.ntmps A75 (Tryd.f75.body.getD .skip) 0 && Nat.ble 1 Tryd.f75.ntmps) = true := by kernel_rfl
set_option maxRecDepth 100000 in
theorem lift75 {t0 : Value} {w : World} {R : Ending → World → Prop} (h : S75 t0 w R) : Calls Tryd.prog 75 #[t0] w R :=
  calls_of_cw (fn := Tryd.f75) (c := Tryd.f75.body.getD .skip) A75 mixes Tryd.func75 (by kernel_rfl) ok75
    ((by kernel_rfl : (S75 t0 w R) = cw Tryd.prog A75 (Tryd.f75.body.getD .skip) 0 (bodyQ Tryd.prog Tryd.f75 R) (frOf #[t0]) w).mp h)

def S76L1 (t0 t1 t2 t14 : Value) (R : Ending → World → Prop) (w : World) : Prop :=
  Loop2 (.int .i64 0) (.int .i64 0) w fun _ t9 t10 w next_2 =>
    ln1 t1 fun t26 =>
    binQ Tryd.prog w .lss 3 false t10 t26 fun t27 =>
    condW t27 (
      Join (fun (k_2 : Value → World → Prop) =>
        binQ Tryd.prog w .shr 3 false t2 t10 fun t32 =>
        binQ Tryd.prog w .rem 3 true t32 (.int .i64 2) fun t33 =>
        binQ Tryd.prog w .eql 3 true t33 (.int .i64 0) fun t34 =>
        condW t34 (
          k_2 t9 w
        ) (
          Drew w fun w =>
          iaS 2 t1 t10 fun t38 =>
          fa1 t38 0 fun t39 =>
          ld1 w t39 fun t40 =>
          iaS 2 t1 t10 fun t45 =>
          fa1 t45 1 fun t46 =>
          ld1 w t46 fun t47 =>
          callW Tryd.prog (.func (.func 88) #[] #[]) [t14, t40] w <| keepB w fun t41 w =>
          callW Tryd.prog (.func (.func 88) #[] #[]) [t14, t47] w fun t48 w =>
          binQ Tryd.prog w .eql 3 false t41 t48 fun t51 =>
          condW t51 (
            R (.returned (.bool false)) w
          ) (
            iaS 1 t14 t41 fun t55 =>
            stW Tryd.prog 3 t55 t48 w fun w =>
            binQ Tryd.prog w .add 3 true t9 (.int .i64 1) fun t57 =>
            k_2 t57 w
          )
        )
      ) fun t9_2 w =>
      binQ Tryd.prog w .add 3 true t10 (.int .i64 1) fun t29_2 =>
      next_2 t9_2 t29_2 w
    ) (
      binQ Tryd.prog w .sub 3 true t0 (.int .i64 1) fun t60 =>
      binQ Tryd.prog w .eql 3 false t9 t60 fun t61 =>
      R (.returned t61) w
    )

def S76L0 (t0 t1 t2 t14 : Value) (R : Ending → World → Prop) (w : World) : Prop :=
  Loop1 (.int .i64 0) w fun _ t8 w next =>
    binQ Tryd.prog w .lss 3 false t8 t0 fun t17 =>
    condW t17 (
      iaS 1 t14 t8 fun t23 =>
      stW Tryd.prog 3 t23 t8 w fun w =>
      binQ Tryd.prog w .add 3 true t8 (.int .i64 1) fun t19 =>
      next t19 w
    ) (
      S76L1 t0 t1 t2 t14 R w
    )



def S76 (t0 t1 t2 : Value) (w : World) (R : Ending → World → Prop) : Prop :=
  mkW Tryd.prog 34 t0 t0 w fun t14 w =>
  S76L0 t0 t1 t2 t14 R w

def A76 : Ann where
  live := fun
    | 0 => [8]
    | 2 => [9, 10]
    | _ => []
  wr := fun
    | 0 => fun i => Nat.beq i 8 || (Nat.ble 15 i && Nat.ble i 23)
    | 2 => fun i => Nat.beq i 6 || (Nat.ble 9 i && Nat.ble i 12) || (Nat.ble 24 i && Nat.ble i 57)
    | _ => fun _ => false
  sched := fun
    | 11 => (.take 0 (.take 1 (.take 2 (.take 3 (.take 4 (.take 5 (.take 7 (.take 8 (.take 9 (.take 10 (.take 11 (.take 12 (.eff 6 (.bar 13 (.take 14 (.take 15 .done))))))))))))))))
    | _ => .done

set_option maxRecDepth 100000 in
theorem ok76 : (codeOk Tryd.f76.ntmps A76 (Tryd.f76.body.getD .skip) 0 && Nat.ble 3 Tryd.f76.ntmps) = true := by kernel_rfl
set_option maxRecDepth 100000 in
theorem lift76 {t0 t1 t2 : Value} {w : World} {R : Ending → World → Prop} (h : S76 t0 t1 t2 w R) : Calls Tryd.prog 76 #[t0, t1, t2] w R :=
  calls_of_cw (fn := Tryd.f76) (c := Tryd.f76.body.getD .skip) A76 mixes Tryd.func76 (by kernel_rfl) ok76
    ((by kernel_rfl : (S76 t0 t1 t2 w R) = cw Tryd.prog A76 (Tryd.f76.body.getD .skip) 0 (bodyQ Tryd.prog Tryd.f76 R) (frOf #[t0, t1, t2]) w).mp h)

def S77 (t0 t1 t2 t3 : Value) (w : World) (R : Ending → World → Prop) : Prop :=
  binQ Tryd.prog w .eql 3 false t0 t3 fun t11 =>
  Join (fun (k_2 : Value → World → Prop) =>
    condW t11 (
      k_2 t2 w
    ) (
      k_2 t0 w
    )
  ) fun t0_2 w =>
  binQ Tryd.prog w .sub 3 true t1 (.int .i64 1) fun t15_2 =>
  binQ Tryd.prog w .eql 3 false t0_2 t15_2 fun t16_2 =>
  gd t16_2 true (fun k => k t3 w) w fun t18_2 w =>
  gd t16_2 true (fun k => k t1 w) w fun t19_2 w =>
  gd t16_2 true (fun k => binQ Tryd.prog w .sub 3 true t19_2 (.int .i64 1) fun v => k v w) w fun t20_2 w =>
  gd t16_2 true (fun k => binQ Tryd.prog w .neq 3 false t18_2 t20_2 fun v => k v w) w fun t21_2 w =>
  pickQ t16_2 t21_2 (.bool false) fun t22_2 =>
  condW t22_2 (
    R (.returned t3) w
  ) (
    R (.returned t0_2) w
  )

def A77 : Ann where
  live := fun _ => []
  wr := fun _ _ => false
  sched := fun _ => .done

set_option maxRecDepth 100000 in
theorem ok77 : (codeOk Tryd.f77.ntmps A77 (Tryd.f77.body.getD .skip) 0 && Nat.ble 4 Tryd.f77.ntmps) = true := by kernel_rfl
set_option maxRecDepth 100000 in
theorem lift77 {t0 t1 t2 t3 : Value} {w : World} {R : Ending → World → Prop} (h : S77 t0 t1 t2 t3 w R) : Calls Tryd.prog 77 #[t0, t1, t2, t3] w R :=
  calls_of_cw (fn := Tryd.f77) (c := Tryd.f77.body.getD .skip) A77 mixes Tryd.func77 (by kernel_rfl) ok77
    ((by kernel_rfl : (S77 t0 t1 t2 t3 w R) = cw Tryd.prog A77 (Tryd.f77.body.getD .skip) 0 (bodyQ Tryd.prog Tryd.f77 R) (frOf #[t0, t1, t2, t3]) w).mp h)

def S79L0 (t0 t1 : Value) (R : Ending → World → Prop) (w : World) : Prop :=
  Loop2 t0 t1 w fun _ t0_2 t1_2 w next =>
    binQ Tryd.prog w .neq 3 true t1_2 (.int .i64 0) fun t6 =>
    condW t6 (
      Drew w fun w =>
      binQ Tryd.prog w .rem 3 false t0_2 t1_2 fun t10 =>
      next t1_2 t10 w
    ) (
      unQ .neg t0_2 fun t13 =>
      mnQ true [t0_2, t13] fun t14 =>
      R (.returned t14) w
    )



def S79 (t0 t1 : Value) (w : World) (R : Ending → World → Prop) : Prop :=
  S79L0 t0 t1 R w

def A79 : Ann where
  live := fun
    | 0 => [0, 1]
    | _ => []
  wr := fun
    | 0 => fun i => (Nat.ble 0 i && Nat.ble i 1) || (Nat.ble 5 i && Nat.ble i 10)
    | _ => fun _ => false
  sched := fun
    | 2 => (.take 0 (.take 1 (.take 2 (.take 3 (.take 4 (.take 5 .done))))))
    | _ => .done

set_option maxRecDepth 100000 in
theorem ok79 : (codeOk Tryd.f79.ntmps A79 (Tryd.f79.body.getD .skip) 0 && Nat.ble 2 Tryd.f79.ntmps) = true := by kernel_rfl
set_option maxRecDepth 100000 in
theorem lift79 {t0 t1 : Value} {w : World} {R : Ending → World → Prop} (h : S79 t0 t1 w R) : Calls Tryd.prog 79 #[t0, t1] w R :=
  calls_of_cw (fn := Tryd.f79) (c := Tryd.f79.body.getD .skip) A79 mixes Tryd.func79 (by kernel_rfl) ok79
    ((by kernel_rfl : (S79 t0 t1 w R) = cw Tryd.prog A79 (Tryd.f79.body.getD .skip) 0 (bodyQ Tryd.prog Tryd.f79 R) (frOf #[t0, t1]) w).mp h)

def S83L0 (t0 t1 t2 t13 : Value) (R : Ending → World → Prop) (w : World) : Prop :=
  Loop2 t13 (.int .i64 0) w fun _ t7 t8 w next =>
    ln1 t0 fun t16 =>
    binQ Tryd.prog w .lss 3 false t8 t16 fun t17 =>
    condW t17 (
      iaS 1 t1 t8 fun t22 =>
      ld1 w t22 fun t23 =>
      binQ Tryd.prog w .eql 3 false t23 t2 fun t25 =>
      Join (fun (k_2 : Value → World → Prop) =>
        condW t25 (
          iaS 3 t0 t8 fun t29 =>
          fa1 t29 0 fun t30 =>
          ld1 w t30 fun t31 =>
          mnQ false [t7, t31] fun t32 =>
          k_2 t32 w
        ) (
          k_2 t7 w
        )
      ) fun t7_2 w =>
      binQ Tryd.prog w .add 3 true t8 (.int .i64 1) fun t19_2 =>
      next t7_2 t19_2 w
    ) (
      R (.returned t7) w
    )



def S83 (t0 t1 t2 : Value) (w : World) (R : Ending → World → Prop) : Prop :=
  iaS 3 t0 t2 fun t11 =>
  fa1 t11 0 fun t12 =>
  ld1 w t12 fun t13 =>
  S83L0 t0 t1 t2 t13 R w

def A83 : Ann where
  live := fun
    | 0 => [7, 8]
    | _ => []
  wr := fun
    | 0 => fun i => (Nat.ble 7 i && Nat.ble i 8) || (Nat.ble 14 i && Nat.ble i 32)
    | _ => fun _ => false
  sched := fun _ => .done

set_option maxRecDepth 100000 in
theorem ok83 : (codeOk Tryd.f83.ntmps A83 (Tryd.f83.body.getD .skip) 0 && Nat.ble 3 Tryd.f83.ntmps) = true := by kernel_rfl
set_option maxRecDepth 100000 in
theorem lift83 {t0 t1 t2 : Value} {w : World} {R : Ending → World → Prop} (h : S83 t0 t1 t2 w R) : Calls Tryd.prog 83 #[t0, t1, t2] w R :=
  calls_of_cw (fn := Tryd.f83) (c := Tryd.f83.body.getD .skip) A83 mixes Tryd.func83 (by kernel_rfl) ok83
    ((by kernel_rfl : (S83 t0 t1 t2 w R) = cw Tryd.prog A83 (Tryd.f83.body.getD .skip) 0 (bodyQ Tryd.prog Tryd.f83 R) (frOf #[t0, t1, t2]) w).mp h)

def S88L0 (t0 t1 : Value) (R : Ending → World → Prop) (w : World) : Prop :=
  Loop1 t1 w fun _ t1_2 w next =>
    iaS 1 t0 t1_2 fun t7 =>
    ld1 w t7 fun t8 =>
    binQ Tryd.prog w .neq 3 false t8 t1_2 fun t10 =>
    condW t10 (
      iaS 1 t0 t1_2 fun t13 =>
      ld1 w t13 fun t14 =>
      next t14 w
    ) (
      R (.returned t1_2) w
    )



def S88 (t0 t1 : Value) (w : World) (R : Ending → World → Prop) : Prop :=
  S88L0 t0 t1 R w

def A88 : Ann where
  live := fun
    | 0 => [1]
    | _ => []
  wr := fun
    | 0 => fun i => Nat.beq i 1 || (Nat.ble 5 i && Nat.ble i 14)
    | _ => fun _ => false
  sched := fun _ => .done

set_option maxRecDepth 100000 in
theorem ok88 : (codeOk Tryd.f88.ntmps A88 (Tryd.f88.body.getD .skip) 0 && Nat.ble 2 Tryd.f88.ntmps) = true := by kernel_rfl
set_option maxRecDepth 100000 in
theorem lift88 {t0 t1 : Value} {w : World} {R : Ending → World → Prop} (h : S88 t0 t1 w R) : Calls Tryd.prog 88 #[t0, t1] w R :=
  calls_of_cw (fn := Tryd.f88) (c := Tryd.f88.body.getD .skip) A88 mixes Tryd.func88 (by kernel_rfl) ok88
    ((by kernel_rfl : (S88 t0 t1 w R) = cw Tryd.prog A88 (Tryd.f88.body.getD .skip) 0 (bodyQ Tryd.prog Tryd.f88 R) (frOf #[t0, t1]) w).mp h)

theorem fok16 : fnOk Tryd.prog 16 = true := by kernel_rfl
theorem fok18 : fnOk Tryd.prog 18 = true := by kernel_rfl
theorem fok45 : fnOk Tryd.prog 45 = true := by kernel_rfl
theorem fok51 : fnOk Tryd.prog 51 = true := by kernel_rfl
theorem fok52 : fnOk Tryd.prog 52 = true := by kernel_rfl
theorem fok53 : fnOk Tryd.prog 53 = true := by kernel_rfl
theorem fok59 : fnOk Tryd.prog 59 = true := by kernel_rfl
theorem fok60 : fnOk Tryd.prog 60 = true := by kernel_rfl
theorem fok61 : fnOk Tryd.prog 61 = true := by kernel_rfl
theorem fok63 : fnOk Tryd.prog 63 = true := by kernel_rfl
theorem fok69 : fnOk Tryd.prog 69 = true := by kernel_rfl
theorem fok75 : fnOk Tryd.prog 75 = true := by kernel_rfl
theorem fok76 : fnOk Tryd.prog 76 = true := by kernel_rfl
theorem fok77 : fnOk Tryd.prog 77 = true := by kernel_rfl
theorem fok79 : fnOk Tryd.prog 79 = true := by kernel_rfl
theorem fok83 : fnOk Tryd.prog 83 = true := by kernel_rfl
theorem fok88 : fnOk Tryd.prog 88 = true := by kernel_rfl
end Go.Proofs.YtkdcldbedbagjaaDoor

/- Contracts of the reference: root, bits, tree. -/
namespace Go.Proofs.YtkdcldbedbagjaaDoor
open Go.Lf Go.RowKit Go.Dt

def il (part : Nat → Nat) (n : Nat) : List Int := (List.range n).map fun v => (part v : Int)
theorem il_len (part : Nat → Nat) (n : Nat) : (il part n).length = n := by simp [il]
theorem il_get {part : Nat → Nat} {n v : Nat} (h : v < n) : (il part n).getD v 0 = part v := by simp [il, List.getD_eq_getElem?_getD, h]
theorem il_set {part : Nat → Nat} {n a b : Nat} : (il part n).set a (b : Int) = il (link part a b) n := by
  refine List.ext_getElem (by simp [il]) fun i h1 h2 => ?_
  rw [List.getElem_set]
  by_cases h : a = i
  · subst h; simp [il, link]
  · simp [il, link, h, Ne.symm h]

set_option maxRecDepth 100000 in
theorem root_calls {n u : Nat} {part : Nat → Nat} {v : Value} (w : World) (hlt : ∀ v, v < n → part v < n) (hdep : ∃ d : Nat → Nat, ∀ v, v < n → part v ≠ v → d (part v) < d v) (hr : RdInts w v (il part n)) (hu : u < n) :
    Calls Tryd.prog 88 #[v, .int .i64 u] w fun e w' => ∃ r, r < n ∧ RootOf part u r ∧ e = .returned (.int .i64 r) ∧ w = w' := by
  obtain ⟨d, hd⟩ := hdep
  refine lift88 ?_
  unfold S88 S88L0
  refine ⟨fun t wr => ∃ x : Nat, x < n ∧ t = .int .i64 x ∧ (∀ r, RootOf part x r → RootOf part u r) ∧ SameW w wr, fun t _ => d (intOf t).toNat, ⟨u, hu, rfl, fun _ h => h, rfl⟩, ?_⟩
  rintro _ _ wr ⟨x, hx, rfl, hroot, he⟩
  obtain rfl : w = wr := he
  have rd : ∀ K : Value → Prop, (iaS 1 v (.int .i64 x) fun q => ld1 w q K) = K (.int .i64 (part x)) := fun K => by
    rw [ints_ldK hr (by rw [il_len]; exact hx), il_get hx]
  rw [rd, r_neq]
  by_cases h : part x = x
  · have h' : ((part x : Nat) : Int) = (x : Int) := by omega
    rw [decide_eq_true h', Bool.not_true, r_condF]
    exact ⟨x, hx, hroot x (.self h), rfl, rfl⟩
  · have h' : ¬ ((part x : Nat) : Int) = (x : Int) := by omega
    rw [decide_eq_false h', Bool.not_false, r_condT, rd]
    refine ⟨⟨part x, hlt x hx, rfl, fun r hr => hroot r (.step h hr), rfl⟩, ?_⟩
    simp only [intOf]
    exact hd x hx h

theorem ones_more : ∀ {k m : Nat}, m < 2 ^ k → ones (k + 1) m = ones k m
  | 0, m, h => by
    have : m = 0 := by simpa using h
    subst this; rfl
  | k + 1, m, h => by
    have h2 : m / 2 < 2 ^ k := by rw [Nat.pow_succ] at h; omega
    show m % 2 + ones (k + 1) (m / 2) = m % 2 + ones k (m / 2)
    rw [ones_more h2]
theorem ones_to {k m : Nat} (h : m < 2 ^ k) : ∀ j, ones (k + j) m = ones k m
  | 0 => rfl
  | j + 1 => by
    rw [← Nat.add_assoc, ones_more (Nat.lt_of_lt_of_le h (Nat.pow_le_pow_right (by omega) (by omega))), ones_to h j]

theorem ones_le : ∀ k m, ones k m ≤ k
  | 0, _ => Nat.le_refl _
  | k + 1, m => by
    have := ones_le k (m / 2)
    simp only [ones]; omega
theorem ones_zero : ∀ k, ones k 0 = 0
  | 0 => rfl
  | k + 1 => by simp only [ones, Nat.zero_mod, Nat.zero_div, ones_zero k]

set_option maxRecDepth 100000 in
theorem bits_callsB {m K B : Nat} (w : World) (hB : ∀ y, y < B → ones K y = y % 2 + ones K (y / 2)) (hK : m < B) (hm : m ≤ 1000000) (hK2 : K ≤ 16) : Calls Tryd.prog 75 #[.int .i64 m] w fun e w' => e = .returned (.int .i64 (ones K m : Nat)) ∧ w = w' := by
  refine lift75 ?_
  unfold S75 S75L0
  refine ⟨fun t0 t3 wr => ∃ x c : Nat, t0 = .int .i64 x ∧ t3 = .int .i64 c ∧ x < B ∧ x ≤ 1000000 ∧ c + ones K x = ones K m ∧ SameW w wr, fun t0 _ _ => (intOf t0).toNat, ⟨m, 0, rfl, rfl, hK, hm, Nat.zero_add _, rfl⟩, ?_⟩
  rintro _ _ _ wr ⟨x, c, rfl, rfl, hx, hx2, hc, he⟩
  obtain rfl : w = wr := he
  have hob := ones_le K m
  by_cases h : 0 < x
  · have h' : (0 : Int) < (x : Int) := by omega
    rw [r_gtr, decide_eq_true h', r_condT]
    have q1 : ∀ KK : Value → Prop, binQ Tryd.prog w .rem 3 true (.int .i64 (x : Int)) (.int .i64 2) KK = KK (.int .i64 ((x % 2 : Nat) : Int)) := fun KK => r_remN x 2 (by omega)
    have q2 : ∀ KK : Value → Prop, binQ Tryd.prog w .quo 3 true (.int .i64 (x : Int)) (.int .i64 2) KK = KK (.int .i64 ((x / 2 : Nat) : Int)) := fun KK => r_quoN x 2 (by omega) (by omega)
    rw [q1, r_add _ _ (by omega) (by omega), q2]
    have h16 : ones K x = x % 2 + ones K (x / 2) := hB x hx
    exact ⟨⟨x / 2, c + x % 2, rfl, by rw [Int.natCast_add], Nat.lt_of_le_of_lt (Nat.div_le_self x 2) hx, Nat.le_trans (Nat.div_le_self x 2) hx2, by rw [← hc, h16, Nat.add_assoc], rfl⟩, by simp only [intOf]; omega⟩
  · have h' : ¬ (0 : Int) < (x : Int) := by omega
    rw [r_gtr, decide_eq_false h', r_condF]
    have hx0 : x = 0 := by omega
    rw [hx0, ones_zero, Nat.add_zero] at hc
    exact ⟨by rw [hc], by first | rfl | trivial⟩

theorem bits_calls {m K : Nat} (w : World) (hK : m < 2 ^ K) (hm : m ≤ 1000000) (hK2 : K ≤ 16) : Calls Tryd.prog 75 #[.int .i64 m] w fun e w' => e = .returned (.int .i64 (ones K m : Nat)) ∧ w = w' :=
  bits_callsB w (fun _ hy => (ones_more hy).symm) hK hm hK2

end Go.Proofs.YtkdcldbedbagjaaDoor
