/- Texts of my own, merged by program: N10p Sl N3. -/
import Derived.Test.YtgalbokmgffhkaaM12
import Derived.Test.YtgalbokmgffhkaaM17
import Derived.Test.YtgalbokmgffhkaaM18
import Derived.Test.YtgalbokmgffhkaaM03
import Derived.Test.YtgalbokmgffhkaaM16
import Derived.Laws.IdiomCopy
set_option linter.all false
/- What Fill finds is good, plainly. -/
namespace Go.Proofs.Ytgalbokmgffhkaa
open Go.Lf Go.RowKit Go.Wg

theorem r_neB {w : World} {x y : Bool} {lit : Bool} {K : Value → Prop} (h : K (.bool (x != y))) : binQ Try.prog w .neq 4 lit (.bool x) (.bool y) K := by
  cases x <;> cases y <;> exact ⟨_, fun w' _ => by cases lit <;> kernel_rfl, h⟩

/-! ### what Fill finds -/
theorem fill_chain {l : List Tile} (hs : IsSet l) {w : Nat} : ∀ {k : Nat} {c : Int} {B : List (List Nat)}, fillM l w k c = some B → B.length = k ∧ (∀ r ∈ B, r ∈ rowsL l w) ∧ (0 ≤ c → chainR l c B)
  | 0, c, B, h => by
    simp only [fillM, Option.some.injEq] at h
    subst h
    exact ⟨rfl, by simp, fun _ => trivial⟩
  | k + 1, c, B, h => by
    unfold fillM at h
    split at h
    · cases h
    · rename_i r hr
      cases hB : fillM l w k (code (souths l r)) with
      | none => rw [hB] at h; cases h
      | some B' =>
        rw [hB] at h
        simp only [Option.map_some, Option.some.injEq] at h
        subst h
        obtain ⟨h1, h2, h3⟩ := fill_chain hs hB
        have hm := List.mem_of_find?_eq_some hr
        have hp := List.find?_some hr
        obtain ⟨q1, q2, _⟩ := mem_rowsL.1 hm
        have hc := code_bound (cols_norths hs q2).2
        refine ⟨by simp [h1], fun q hq => ?_, fun h0 => ⟨?_, h3 hc.1⟩⟩
        · rcases List.mem_cons.1 hq with rfl | hq
          · exact hm
          · exact h2 q hq
        · simp only [rowP, Bool.and_eq_true, Bool.or_eq_true, decide_eq_true_eq] at hp
          rcases hp.1 with h4 | h4
          · omega
          · exact h4
theorem fill_isB {l : List Tile} (hs : IsSet l) {w h : Nat} (hh : 0 < h) {B : List (List Nat)} (hf : fillM l w h (-1) = some B) : IsB l w h B := by
  obtain ⟨k, rfl⟩ : ∃ k, h = k + 1 := ⟨h - 1, by omega⟩
  refine (mem_ab hs hh).1 ?_
  unfold fillM at hf
  split at hf
  · cases hf
  · rename_i r hr
    cases hB : fillM l w k (code (souths l r)) with
    | none => rw [hB] at hf; cases hf
    | some B' =>
      rw [hB] at hf
      simp only [Option.map_some, Option.some.injEq] at hf
      subst hf
      obtain ⟨h1, h2, h3⟩ := fill_chain hs hB
      have hm := List.mem_of_find?_eq_some hr
      obtain ⟨q1, q2, _⟩ := mem_rowsL.1 hm
      have hc := code_bound (cols_norths hs q2).2
      unfold AB
      exact List.mem_flatMap.2 ⟨r, hm, List.mem_map.2 ⟨B', mem_bsc.2 ⟨h1, h2, h3 hc.1⟩, rfl⟩⟩

theorem at2_ints {l : List Tile} {B : List (List Nat)} {y x : Nat} (hy : y < B.length) (hx : x < (B.getD y []).length) : at2 l (B.map intsR) y x = tl l (atB B y x) := by
  have e1 : (B.map intsR).getD y [] = intsR (B.getD y []) := by
    rw [getD_lt _ _ _ (by simpa using hy), getD_lt _ _ _ hy]; simp
  have e2 : (intsR (B.getD y [])).getD x 0 = ((B.getD y []).getD x 0 : Nat) := by
    rw [getD_lt _ _ _ (by simpa [intsR] using hx), getD_lt _ _ _ hx]; simp [intsR]
  unfold at2 atB
  rw [e1, e2, Int.toNat_natCast]
theorem fold_keep {α : Type} {f : Bool × Bool → α → Bool × Bool} : ∀ {L : List α} {s : Bool × Bool}, (∀ a ∈ L, ∀ s : Bool × Bool, s.1 = true → (f s a).1 = true) → s.1 = true → (L.foldl f s).1 = true
  | [], s, _, h => h
  | a :: L, s, hf, h => by
    rw [List.foldl_cons]
    exact fold_keep (fun b hb => hf b (by simp [hb])) (hf a (by simp) s h)
theorem isB_good {l : List Tile} {w h : Nat} {B : List (List Nat)} (hB : IsB l w h B) (hw : 0 < w) (hh : 0 < h) (hset : setB l = true) (hw4 : w ≤ 4) (hh4 : h ≤ 4) : ∃ c : Bool, goodV l (B.map intsR) = .tuple #[.bool true, .bool c, .int .i64 0] := by
  have hrow : ∀ y, y < h → (B.map intsR).getD y [] = intsR (B.getD y []) := fun y hy => by
    have := hB.len
    rw [getD_lt _ _ _ (by simp; omega), getD_lt _ _ _ (by omega)]; simp
  have hlen : (B.map intsR).length = h := by rw [List.length_map, hB.len]
  have h0 : ((B.map intsR).getD 0 []).length = w := by rw [hrow 0 hh]; simp [intsR]; exact hB.row 0 hh
  have hb : boardB l (B.map intsR) = true := by
    unfold boardB
    rw [hset, h0, hlen]
    have s1 : sideB (h : Int) = true := by unfold sideB; exact decide_eq_true (by omega)
    have s2 : sideB (w : Int) = true := by unfold sideB; exact decide_eq_true (by omega)
    rw [s1, s2]
    simp only [Bool.true_and, List.all_eq_true, List.mem_map]
    rintro _ ⟨r, hr, rfl⟩
    obtain ⟨y, hy, rfl⟩ := List.getElem_of_mem hr
    have hyh : y < h := by have := hB.len; omega
    have hrl := hB.row y hyh
    rw [getD_lt _ _ _ hy] at hrl
    simp only [boardRow, Bool.and_eq_true, decide_eq_true_eq, List.all_eq_true]
    refine ⟨by simp [intsR, hrl], fun n hn => ?_⟩
    simp only [intsR, List.mem_map] at hn
    obtain ⟨i, hi, rfl⟩ := hn
    obtain ⟨x, hx, rfl⟩ := List.getElem_of_mem hi
    have := hB.lt y x hyh (by omega)
    unfold atB at this
    rw [getD_lt _ _ _ hy, getD_lt _ _ _ hx] at this
    simp only [cellOk, Bool.and_eq_true, decide_eq_true_eq]
    omega
  have hj : (judge l (B.map intsR) w h).1 = true := by
    unfold judge
    refine fold_keep (fun y hy s hsv => ?_) rfl
    have hyh := List.mem_range.1 hy
    unfold rowF
    refine fold_keep (fun x hx s hsv => ?_) hsv
    have hxw := List.mem_range.1 hx
    have hBl := hB.len
    have hat : ∀ y x, y < h → x < w → at2 l (B.map intsR) y x = tl l (atB B y x) := fun y x hy hx => at2_ints (by omega) (by have := hB.row y hy; omega)
    have g1 : (stE l (B.map intsR) w y x s).1 = true := by
      unfold stE
      split
      · exact hsv
      · rename_i hne
        by_cases e : x + 1 < w
        · exfalso
          apply hne
          rw [Nat.mod_eq_of_lt e, hat y x hyh hxw, hat y (x + 1) hyh e]
          exact hB.ew y x hyh e
        · simp [hsv]; omega
    unfold cellF stS
    split
    · exact g1
    · rename_i hne
      by_cases e : y + 1 < h
      · exfalso
        apply hne
        rw [Nat.mod_eq_of_lt e, hat y x hyh hxw, hat (y + 1) x e hxw]
        exact hB.sn y x e hxw
      · simp [g1]; omega
  exact ⟨_, by rw [goodV, if_pos hb, h0, hlen, hj]⟩

theorem fillE_pos {l : List Tile} (hs : IsSet l) {W H : Nat} (hW : 0 < W) (hH : 0 < H) (he : ordErr l W H = 0) (hb : 0 < boards (linesL l W) H) : fillE l W H = 0 := by
  rw [fillE, if_pos he]
  have hn := (fill_all hs hW hH).1
  rw [ways_boards hs hW hH] at hn
  simp only [Int.toNat_natCast]
  have hsome : (fillM l W H (-1)).isNone = false := by
    cases hM : fillM l W H (-1) with
    | none => have := hn.2 hM; omega
    | some _ => rfl
  rw [if_neg (by rw [hsome]; decide)]
theorem fillE_zero {l : List Tile} (hs : IsSet l) {W H : Nat} (hW : 0 < W) (hH : 0 < H) (he : ordErr l W H = 0) (hb : boards (linesL l W) H = 0) : fillE l W H = 10 := by
  rw [fillE, if_pos he]
  have hn := (fill_all hs hW hH).1
  rw [ways_boards hs hW hH] at hn
  simp only [Int.toNat_natCast]
  rw [if_pos (by rw [hn.1 hb]; rfl)]
theorem ord_zero {l : List Tile} (hset : setB l = true) {a b : Nat} (ha : 1 ≤ a ∧ a ≤ 4) (hb : 1 ≤ b ∧ b ≤ 4) : ordErr l (a : Int) (b : Int) = 0 := by
  unfold ordErr
  rw [if_pos ⟨hset, by unfold sideB; exact decide_eq_true (by omega), by unfold sideB; exact decide_eq_true (by omega)⟩]


end Go.Proofs.Ytgalbokmgffhkaa

/- Lifted texts, printed by program (gen.py): what each function's code asks. The ties are by the kernel. -/
namespace Go.Proofs.Ytgalbokmgffhkaa
open Go.Lf Go.RowKit

def S111L0 (t0 t1 t10 t15 : Value) (R : Ending → World → Prop) (w : World) : Prop :=
  Loop2 t10 t15 w fun _ t5 t6 w next =>
    ln1 t0 fun t18 =>
    binQ Try.prog w .lss 3 false t6 t18 fun t19 =>
    condW t19 (
      iaS 7 t0 t6 fun t24 =>
      ldN 7 w t24 fun t25 =>
      boxW 78 (.agg #[(.int .i64 0), (.int .i64 0), (.int .i64 0), (.int .i64 0), (.int .i64 0), (.int .i64 0), (.bool false)]) w fun t7 w =>
      stW Try.prog 78 t7 t25 w fun w =>
      ldN 7 w t7 fun t27 =>
      callW Try.prog t1 [t27] w fun t28 w =>
      unQ .not t28 fun t29 =>
      Join (fun (k_2 : Value → World → Prop) =>
        condW t29 (
          ldN 7 w t7 fun t32 =>
          iaS 7 t0 t5 fun t33 =>
          stW Try.prog 78 t33 t32 w fun w =>
          binQ Try.prog w .add 3 true t5 (.int .i64 1) fun t35 =>
          k_2 t35 w
        ) (
          k_2 t5 w
        )
      ) fun t5_2 w =>
      binQ Try.prog w .add 3 true t6 (.int .i64 1) fun t21_2 =>
      next t5_2 t21_2 w
    ) (
      slS 7 t0 (some t5) none fun t38 =>
      semW Try.prog (clS [73] 0 [t38]) w fun _ w =>
      slS 7 t0 none (some t5) fun t41 =>
      R (.returned t41) w
    )

def S111 (t0 t1 : Value) (w : World) (R : Ending → World → Prop) : Prop :=
  callW Try.prog (.func (.func 77) #[] #[]) [t0, t1] w fun t10 w =>
  binQ Try.prog w .eql 3 true t10 (.int .i64 (-1)) fun t12 =>
  condW t12 (
    R (.returned t0) w
  ) (
    binQ Try.prog w .add 3 true t10 (.int .i64 1) fun t15 =>
    S111L0 t0 t1 t10 t15 R w
  )

def A111 : Ann where
  live := fun
    | 0 => [5, 6]
    | _ => []
  wr := fun
    | 0 => fun i => (Nat.ble 5 i && Nat.ble i 7) || (Nat.ble 16 i && Nat.ble i 35)
    | _ => fun _ => false
  sched := fun _ => .done

set_option maxRecDepth 100000 in
theorem ok111 : (codeOk Try.f111.ntmps A111 (Try.f111.body.getD .skip) 0 && Nat.ble 2 Try.f111.ntmps) = true := by kernel_rfl
set_option maxRecDepth 100000 in
theorem lift111 {t0 t1 : Value} {w : World} {R : Ending → World → Prop} (h : S111 t0 t1 w R) : Calls Try.prog 111 #[t0, t1] w R :=
  calls_of_cw (fn := Try.f111) (c := Try.f111.body.getD .skip) A111 mixes Try.func111 (by kernel_rfl) ok111
    ((by kernel_rfl : (S111 t0 t1 w R) = cw Try.prog A111 (Try.f111.body.getD .skip) 0 (bodyQ Try.prog Try.f111 R) (frOf #[t0, t1]) w).mp h)

def S112 (t0 : Value) (w : World) (R : Ending → World → Prop) : Prop :=
  boxW 78 t0 w fun t1 w =>
  fa1 t1 6 fun t3 =>
  ld1 w t3 fun t4 =>
  unQ .not t4 fun t5 =>
  R (.returned t5) w

def A112 : Ann where
  live := fun _ => []
  wr := fun _ _ => false
  sched := fun _ => .done

set_option maxRecDepth 100000 in
theorem ok112 : (codeOk Try.f112.ntmps A112 (Try.f112.body.getD .skip) 0 && Nat.ble 1 Try.f112.ntmps) = true := by kernel_rfl
set_option maxRecDepth 100000 in
theorem lift112 {t0 : Value} {w : World} {R : Ending → World → Prop} (h : S112 t0 w R) : Calls Try.prog 112 #[t0] w R :=
  calls_of_cw (fn := Try.f112) (c := Try.f112.body.getD .skip) A112 mixes Try.func112 (by kernel_rfl) ok112
    ((by kernel_rfl : (S112 t0 w R) = cw Try.prog A112 (Try.f112.body.getD .skip) 0 (bodyQ Try.prog Try.f112 R) (frOf #[t0]) w).mp h)

def S33 (t0 t1 t2 : Value) (w : World) (R : Ending → World → Prop) : Prop :=
  callW Try.prog (.func (.func 53) #[] #[]) [t0, t1, t2] w fun t12 w =>
  binQ Try.prog w .neq 26 true t12 (.int .i64 0) fun t14 =>
  condW t14 (
    R (.returned (.tuple #[(.int .i64 0), t12])) w
  ) (
    callW Try.prog (.func (.func 86) #[] #[]) [t0, t1, t2] w fun t19 w =>
    callW Try.prog (.func (.func 74) #[] #[]) [t19] w fun t20 w =>
    exQ t20 0 fun t21 =>
    exQ t20 1 fun t22 =>
    R (.returned (.tuple #[t21, t22])) w
  )

def A33 : Ann where
  live := fun _ => []
  wr := fun _ _ => false
  sched := fun _ => .done

set_option maxRecDepth 100000 in
theorem ok33 : (codeOk Try.f33.ntmps A33 (Try.f33.body.getD .skip) 0 && Nat.ble 3 Try.f33.ntmps) = true := by kernel_rfl
set_option maxRecDepth 100000 in
theorem lift33 {t0 t1 t2 : Value} {w : World} {R : Ending → World → Prop} (h : S33 t0 t1 t2 w R) : Calls Try.prog 33 #[t0, t1, t2] w R :=
  calls_of_cw (fn := Try.f33) (c := Try.f33.body.getD .skip) A33 mixes Try.func33 (by kernel_rfl) ok33
    ((by kernel_rfl : (S33 t0 t1 t2 w R) = cw Try.prog A33 (Try.f33.body.getD .skip) 0 (bodyQ Try.prog Try.f33 R) (frOf #[t0, t1, t2]) w).mp h)

def S86L1 (t1 t2 t19 t22 t36 t38 : Value) (R : Ending → World → Prop) (w : World) : Prop :=
  Loop2 (.int .i64 0) (.int .i64 0) w fun _ t11 t39 w next_2 =>
    binQ Try.prog w .lss 3 false t39 t38 fun t40 =>
    condW t40 (
      Join (fun (k_2 : Value → World → Prop) =>
        iaS 7 t19 t39 fun t41 =>
        ldN 7 w t41 fun t42 =>
        boxW 78 (.agg #[(.int .i64 0), (.int .i64 0), (.int .i64 0), (.int .i64 0), (.int .i64 0), (.int .i64 0), (.bool false)]) w fun t14 w =>
        stW Try.prog 78 t14 t42 w fun w =>
        fa1 t14 4 fun t44 =>
        ld1 w t44 fun t45 =>
        iaS 1 t36 t45 fun t46 =>
        ld1 w t46 fun t47 =>
        gd t47 false (fun k => k t22 w) w fun t49 w =>
        gd t47 false (fun k => fa1 t14 4 fun v => k v w) w fun t50 w =>
        gd t47 false (fun k => ld1 w t50 fun v => k v w) w fun t51 w =>
        gd t47 false (fun k => iaS 1 t49 t51 fun v => k v w) w fun t52 w =>
        gd t47 false (fun k => ld1 w t52 fun v => k v w) w fun t53 w =>
        gd t47 false (fun k => unQ .not t53 fun v => k v w) w fun t54 w =>
        pickQ t47 (.bool true) t54 fun t55 =>
        condW t55 (
          k_2 t11 w
        ) (
          fa1 t14 4 fun t57 =>
          ld1 w t57 fun t58 =>
          iaS 1 t36 t58 fun t59 =>
          stW Try.prog 4 t59 (.bool true) w fun w =>
          callW Try.prog (.func (.func 73) #[] #[]) [t1] w fun t61 w =>
          mkW Try.prog 30 t61 t61 w fun t62 w =>
          fa1 t14 4 fun t64 =>
          ld1 w t64 fun t65 =>
          iaS 1 t62 t65 fun t66 =>
          stW Try.prog 3 t66 (.int .i64 1) w fun w =>
          Drew w fun w =>
          fa1 t14 4 fun t72 =>
          ld1 w t72 fun t73 =>
          callW Try.prog (.func (.func 71) #[] #[]) [t19, t62, t2] w <| keepB w fun t71 w =>
          iaS 1 t71 t73 fun t74 =>
          ld1 w t74 fun t75 =>
          binQ Try.prog w .add 3 false t11 t75 fun t76 =>
          mnQ false [t76, (.int .i64 1099511627777)] fun t77 =>
          k_2 t77 w
        )
      ) fun t11_2 w =>
      binQ Try.prog w .add 3 true t39 (.int .i64 1) fun t78_2 =>
      next_2 t11_2 t78_2 w
    ) (
      R (.returned t11) w
    )

def S86L0 (t1 t2 t19 t22 t24 : Value) (R : Ending → World → Prop) (w : World) : Prop :=
  Loop1 (.int .i64 0) w fun _ t25 w next =>
    binQ Try.prog w .lss 3 false t25 t24 fun t26 =>
    condW t26 (
      iaS 7 t19 t25 fun t27 =>
      ldN 7 w t27 fun t28 =>
      boxW 78 (.agg #[(.int .i64 0), (.int .i64 0), (.int .i64 0), (.int .i64 0), (.int .i64 0), (.int .i64 0), (.bool false)]) w fun t10 w =>
      stW Try.prog 78 t10 t28 w fun w =>
      fa1 t10 5 fun t30 =>
      ld1 w t30 fun t31 =>
      iaS 1 t22 t31 fun t32 =>
      stW Try.prog 4 t32 (.bool true) w fun w =>
      binQ Try.prog w .add 3 true t25 (.int .i64 1) fun t33 =>
      next t33 w
    ) (
      Drew w fun w =>
      callW Try.prog (.func (.func 73) #[] #[]) [t1] w fun t35 w =>
      mkW Try.prog 91 t35 t35 w <| keepB w fun t36 w =>
      ln1 t19 fun t38 =>
      S86L1 t1 t2 t19 t22 t36 t38 R w
    )



def S86 (t0 t1 t2 : Value) (w : World) (R : Ending → World → Prop) : Prop :=
  callW Try.prog (.func (.func 59) #[] #[]) [t0, t1] w fun t18 w =>
  callW Try.prog (.func (.func 111) #[] #[]) [t18, (.func (.func 112) #[] #[])] w fun t19 w =>
  callW Try.prog (.func (.func 73) #[] #[]) [t1] w fun t21 w =>
  mkW Try.prog 91 t21 t21 w fun t22 w =>
  ln1 t19 fun t24 =>
  S86L0 t1 t2 t19 t22 t24 R w

def A86 : Ann where
  live := fun
    | 0 => [25]
    | 2 => [11, 39]
    | _ => []
  wr := fun
    | 0 => fun i => Nat.beq i 10 || (Nat.ble 25 i && Nat.ble i 33)
    | 2 => fun i => Nat.beq i 11 || (Nat.ble 14 i && Nat.ble i 15) || (Nat.ble 39 i && Nat.ble i 78)
    | _ => fun _ => false
  sched := fun
    | 8 => (.take 0 (.bar 1 (.take 3 (.eff 2 (.take 4 .done)))))
    | 16 => (.take 0 (.take 1 (.take 2 (.take 3 (.take 5 (.take 6 (.eff 4 (.take 7 (.take 8 (.take 9 (.take 10 (.take 11 .done))))))))))))
    | _ => .done

set_option maxRecDepth 100000 in
theorem ok86 : (codeOk Try.f86.ntmps A86 (Try.f86.body.getD .skip) 0 && Nat.ble 3 Try.f86.ntmps) = true := by kernel_rfl
set_option maxRecDepth 100000 in
theorem lift86 {t0 t1 t2 : Value} {w : World} {R : Ending → World → Prop} (h : S86 t0 t1 t2 w R) : Calls Try.prog 86 #[t0, t1, t2] w R :=
  calls_of_cw (fn := Try.f86) (c := Try.f86.body.getD .skip) A86 mixes Try.func86 (by kernel_rfl) ok86
    ((by kernel_rfl : (S86 t0 t1 t2 w R) = cw Try.prog A86 (Try.f86.body.getD .skip) 0 (bodyQ Try.prog Try.f86 R) (frOf #[t0, t1, t2]) w).mp h)

def S87L1 (t0 t1 t7 t8 t12 t23 : Value) (next : Value → Value → World → Prop) (w : World) : Prop :=
  Loop1 (.int .i64 0) w fun _ t10 w next_2 =>
    binQ Try.prog w .leq 3 true t10 (.int .i64 7) fun t25 =>
    condW t25 (
      callW Try.prog (.func (.func 113) #[] #[]) [t0, t12, t1, (.int .i64 0), t8, (.int .i64 0), t10, t10, t23] w fun t35 w =>
      binQ Try.prog w .add 3 true t10 (.int .i64 1) fun t27 =>
      next_2 t27 w
    ) (
      bsW Try.prog 23 1 [(0, t23)] w fun t38 w =>
      semW Try.prog (apS [23, 23] 23 [t7, t38]) w fun t39 w =>
      binQ Try.prog w .add 3 true t8 (.int .i64 1) fun t21 =>
      next t39 t21 w
    )

def S87L0 (t0 t1 t12 t16 : Value) (R : Ending → World → Prop) (w : World) : Prop :=
  Loop2 (.slice none 0 0) (.int .i64 0) w fun _ t7 t8 w next =>
    binQ Try.prog w .lss 3 false t8 t16 fun t19 =>
    condW t19 (
      mkW Try.prog 30 t16 t16 w fun t23 w =>
      S87L1 t0 t1 t7 t8 t12 t23 next w
    ) (
      R (.returned t7) w
    )



def S87 (t0 t1 : Value) (w : World) (R : Ending → World → Prop) : Prop :=
  callW Try.prog (.func (.func 70) #[] #[]) [t0] w fun t12 w =>
  ln1 t12 fun t14 =>
  callW Try.prog (.func (.func 69) #[] #[]) [t14, t1] w fun t16 w =>
  S87L0 t0 t1 t12 t16 R w

def A87 : Ann where
  live := fun
    | 0 => [7, 8]
    | 2 => [10]
    | _ => []
  wr := fun
    | 0 => fun i => (Nat.ble 7 i && Nat.ble i 10) || (Nat.ble 17 i && Nat.ble i 39)
    | 2 => fun i => Nat.beq i 10 || (Nat.ble 24 i && Nat.ble i 35)
    | _ => fun _ => false
  sched := fun _ => .done

set_option maxRecDepth 100000 in
theorem ok87 : (codeOk Try.f87.ntmps A87 (Try.f87.body.getD .skip) 0 && Nat.ble 2 Try.f87.ntmps) = true := by kernel_rfl
set_option maxRecDepth 100000 in
theorem lift87 {t0 t1 : Value} {w : World} {R : Ending → World → Prop} (h : S87 t0 t1 w R) : Calls Try.prog 87 #[t0, t1] w R :=
  calls_of_cw (fn := Try.f87) (c := Try.f87.body.getD .skip) A87 mixes Try.func87 (by kernel_rfl) ok87
    ((by kernel_rfl : (S87 t0 t1 w R) = cw Try.prog A87 (Try.f87.body.getD .skip) 0 (bodyQ Try.prog Try.f87 R) (frOf #[t0, t1]) w).mp h)

def S113L0 (t0 t1 t2 t3 t4 t5 t6 t7 t8 t35 : Value) (R : Ending → World → Prop) (w : World) : Prop :=
  Loop1 (.int .i64 0) w fun _ t19 w next =>
    ln1 t0 fun t38 =>
    binQ Try.prog w .lss 3 false t19 t38 fun t39 =>
    condW t39 (
      Drew w fun w =>
      iaS 4 t0 t19 fun t44 =>
      fa1 t44 3 fun t45 =>
      ld1 w t45 fun t46 =>
      binQ Try.prog w .eql 3 false t46 t6 fun t48 =>
      gdQ t48 true (fun k => k t0) fun t50 =>
      gdQ t48 true (fun k => k t19) fun t51 =>
      gdQ t48 true (fun k => iaS 4 t50 t51 k) fun t52 =>
      gdQ t48 true (fun k => fa1 t52 0 k) fun t53 =>
      gdQ t48 true (fun k => ld1 w t53 k) fun t54 =>
      gdQ t48 true (fun k => k t1) fun t55 =>
      gdQ t48 true (fun k => k t4) fun t56 =>
      gdQ t48 true (fun k => k t35) fun t57 =>
      gdQ t48 true (fun k => binQ Try.prog w .quo 3 false t56 t57 k) fun t58 =>
      gdQ t48 true (fun k => k t1) fun t59 =>
      gdQ t48 true (fun k => ln1 t59 k) fun t60 =>
      gdQ t48 true (fun k => binQ Try.prog w .rem 3 false t58 t60 k) fun t61 =>
      gdQ t48 true (fun k => iaS 1 t55 t61 k) fun t62 =>
      gdQ t48 true (fun k => ld1 w t62 k) fun t63 =>
      gdQ t48 true (fun k => binQ Try.prog w .eql 3 false t54 t63 k) fun t64 =>
      pickQ t48 t64 (.bool false) fun t65 =>
      Join (fun (k_2 : World → Prop) =>
        condW t65 (
          Drew w fun w =>
          binQ Try.prog w .add 3 true t3 (.int .i64 1) fun t70 =>
          iaS 4 t0 t19 fun t76 =>
          fa1 t76 2 fun t77 =>
          ld1 w t77 fun t78 =>
          iaS 4 t0 t19 fun t85 =>
          fa1 t85 1 fun t86 =>
          ld1 w t86 fun t87 =>
          callW Try.prog (.func (.func 107) #[] #[]) [t1, t78] w <| keepB w fun t79 w =>
          binQ Try.prog w .mul 3 false t79 t35 fun t81 =>
          binQ Try.prog w .add 3 false t5 t81 fun t82 =>
          callW Try.prog (.func (.func 113) #[] #[]) [t0, t1, t2, t70, t4, t82, t87, t7, t8] w fun t90 w =>
          k_2 w
        ) (
          k_2 w
        )
      ) fun w =>
      binQ Try.prog w .add 3 true t19 (.int .i64 1) fun t41_2 =>
      next t41_2 w
    ) (
      R (.returned (.tuple #[])) w
    )

def S113 (t0 t1 t2 t3 t4 t5 t6 t7 t8 : Value) (w : World) (R : Ending → World → Prop) : Prop :=
  binQ Try.prog w .eql 3 false t3 t2 fun t22 =>
  condW t22 (
    binQ Try.prog w .eql 3 false t6 t7 fun t25 =>
    condW t25 (
      iaS 1 t8 t5 fun t28 =>
      ld1 w t28 fun t29 =>
      binQ Try.prog w .add 3 true t29 (.int .i64 1) fun t30 =>
      iaS 1 t8 t5 fun t31 =>
      stW Try.prog 3 t31 t30 w fun w =>
      R (.returned (.tuple #[])) w
    ) (
      R (.returned (.tuple #[])) w
    )
  ) (
    ln1 t1 fun t33 =>
    callW Try.prog (.func (.func 69) #[] #[]) [t33, t3] w fun t35 w =>
    S113L0 t0 t1 t2 t3 t4 t5 t6 t7 t8 t35 R w
  )

def A113 : Ann where
  live := fun
    | 0 => [19]
    | _ => []
  wr := fun
    | 0 => fun i => Nat.beq i 19 || (Nat.ble 36 i && Nat.ble i 90)
    | _ => fun _ => false
  sched := fun
    | 7 => (.take 0 (.take 1 (.take 2 (.take 3 (.take 4 (.take 5 (.take 6 (.take 7 (.take 8 (.take 9 (.take 10 (.take 11 (.take 12 (.take 13 (.take 14 (.take 15 (.take 16 (.take 17 (.take 18 (.take 19 (.take 20 (.take 21 (.take 22 (.take 23 .done))))))))))))))))))))))))
    | 8 => (.take 0 (.take 1 (.take 2 (.take 3 (.take 4 (.take 5 (.take 6 (.take 7 (.take 8 (.take 9 (.take 10 (.take 11 (.take 12 (.take 14 (.take 17 (.take 18 (.take 19 (.take 20 (.take 21 (.take 22 (.take 23 (.eff 13 (.take 15 (.take 16 (.bar 24 .done)))))))))))))))))))))))))
    | _ => .done

set_option maxRecDepth 100000 in
theorem ok113 : (codeOk Try.f113.ntmps A113 (Try.f113.body.getD .skip) 0 && Nat.ble 9 Try.f113.ntmps) = true := by kernel_rfl
set_option maxRecDepth 100000 in
theorem lift113 {t0 t1 t2 t3 t4 t5 t6 t7 t8 : Value} {w : World} {R : Ending → World → Prop} (h : S113 t0 t1 t2 t3 t4 t5 t6 t7 t8 w R) : Calls Try.prog 113 #[t0, t1, t2, t3, t4, t5, t6, t7, t8] w R :=
  calls_of_cw (fn := Try.f113) (c := Try.f113.body.getD .skip) A113 mixes Try.func113 (by kernel_rfl) ok113
    ((by kernel_rfl : (S113 t0 t1 t2 t3 t4 t5 t6 t7 t8 w R) = cw Try.prog A113 (Try.f113.body.getD .skip) 0 (bodyQ Try.prog Try.f113 R) (frOf #[t0, t1, t2, t3, t4, t5, t6, t7, t8]) w).mp h)

def S34L3 (t12 t15 t26 t46 : Value) (next_3 : Value → World → Prop) (w : World) : Prop :=
  Loop1 (.int .i64 0) w fun _ t16 w next_4 =>
    ln1 t26 fun t55 =>
    binQ Try.prog w .lss 3 false t16 t55 fun t56 =>
    gd t56 true (fun k => k t12 w) w fun t58 w =>
    gd t56 true (fun k => k t15 w) w fun t59 w =>
    gd t56 true (fun k => iaS 1 t58 t59 fun v => k v w) w fun t60 w =>
    gd t56 true (fun k => ld1 w t60 fun v => k v w) w fun t61 w =>
    gd t56 true (fun k => binQ Try.prog w .gtr 3 true t61 (.int .i64 0) fun v => k v w) w fun t62 w =>
    pickQ t56 t62 (.bool false) fun t63 =>
    condW t63 (
      Drew w fun w =>
      iaS 1 t46 t16 fun t70 =>
      ld1 w t70 fun t71 =>
      iaS 1 t12 t15 fun t74 =>
      ld1 w t74 fun t75 =>
      iaS 1 t26 t15 fun t78 =>
      ld1 w t78 fun t79 =>
      iaS 1 t79 t16 fun t81 =>
      ld1 w t81 fun t82 =>
      mnQ false [t82, (.int .i64 1048576)] fun t83 =>
      binQ Try.prog w .mul 3 false t75 t83 fun t84 =>
      callW Try.prog (.func (.func 88) #[] #[]) [t84] w <| keepB w fun t85 w =>
      binQ Try.prog w .add 3 false t71 t85 fun t86 =>
      callW Try.prog (.func (.func 88) #[] #[]) [t86] w <| keepB w fun t87 w =>
      iaS 1 t46 t16 fun t88 =>
      stW Try.prog 3 t88 t87 w fun w =>
      binQ Try.prog w .add 3 true t16 (.int .i64 1) fun t65 =>
      next_4 t65 w
    ) (
      binQ Try.prog w .add 3 true t15 (.int .i64 1) fun t52 =>
      next_3 t52 w
    )

def S34L2 (t12 t13 t26 t46 : Value) (next_2 : Value → Value → World → Prop) (w : World) : Prop :=
  Loop1 (.int .i64 0) w fun _ t15 w next_3 =>
    ln1 t26 fun t49 =>
    binQ Try.prog w .lss 3 false t15 t49 fun t50 =>
    condW t50 (
      S34L3 t12 t15 t26 t46 next_3 w
    ) (
      binQ Try.prog w .add 3 true t13 (.int .i64 1) fun t43 =>
      next_2 t46 t43 w
    )

def S34L1 (t2 t10 t11 t26 t35 : Value) (next : Value → Value → World → Prop) (w : World) : Prop :=
  Loop2 t35 (.int .i64 0) w fun _ t12 t13 w next_2 =>
    binQ Try.prog w .lss 3 false t13 t2 fun t41 =>
    condW t41 (
      ln1 t26 fun t45 =>
      mkW Try.prog 30 t45 t45 w fun t46 w =>
      S34L2 t12 t13 t26 t46 next_2 w
    ) (
      iaS 1 t12 t11 fun t93 =>
      ld1 w t93 fun t94 =>
      binQ Try.prog w .add 3 false t10 t94 fun t95 =>
      callW Try.prog (.func (.func 88) #[] #[]) [t95] w fun t96 w =>
      binQ Try.prog w .add 3 true t11 (.int .i64 1) fun t32 =>
      next t96 t32 w
    )

def S34L0 (t2 t26 : Value) (R : Ending → World → Prop) (w : World) : Prop :=
  Loop2 (.int .i64 0) (.int .i64 0) w fun _ t10 t11 w next =>
    ln1 t26 fun t29 =>
    binQ Try.prog w .lss 3 false t11 t29 fun t30 =>
    condW t30 (
      ln1 t26 fun t34 =>
      mkW Try.prog 30 t34 t34 w fun t35 w =>
      iaS 1 t35 t11 fun t38 =>
      stW Try.prog 3 t38 (.int .i64 1) w fun w =>
      S34L1 t2 t10 t11 t26 t35 next w
    ) (
      binQ Try.prog w .gtr 3 true t10 (.int .i64 1099511627776) fun t98 =>
      condW t98 (
        R (.returned (.tuple #[(.int .i64 0), (.int .i64 8)])) w
      ) (
        R (.returned (.tuple #[t10, (.int .i64 0)])) w
      )
    )

def S34 (t0 t1 t2 : Value) (w : World) (R : Ending → World → Prop) : Prop :=
  callW Try.prog (.func (.func 23) #[] #[]) [t0, t1, t2] w fun t20 w =>
  binQ Try.prog w .neq 26 true t20 (.int .i64 0) fun t22 =>
  condW t22 (
    R (.returned (.tuple #[(.int .i64 0), t20])) w
  ) (
    callW Try.prog (.func (.func 87) #[] #[]) [t0, t1] w fun t26 w =>
    S34L0 t2 t26 R w
  )

def A34 : Ann where
  live := fun
    | 0 => [10, 11]
    | 2 => [12, 13]
    | 4 => [15]
    | 6 => [16]
    | _ => []
  wr := fun
    | 0 => fun i => (Nat.ble 10 i && Nat.ble i 16) || (Nat.ble 27 i && Nat.ble i 96)
    | 2 => fun i => (Nat.ble 12 i && Nat.ble i 16) || (Nat.ble 39 i && Nat.ble i 89)
    | 4 => fun i => (Nat.ble 15 i && Nat.ble i 16) || (Nat.ble 47 i && Nat.ble i 88)
    | 6 => fun i => Nat.beq i 16 || (Nat.ble 53 i && Nat.ble i 88)
    | _ => fun _ => false
  sched := fun
    | 21 => (.take 0 (.take 1 (.take 2 (.take 3 (.take 4 (.take 5 (.take 6 (.take 7 (.take 8 (.take 9 (.take 10 (.take 11 (.take 12 (.take 13 (.take 14 (.take 15 (.take 16 (.take 17 (.take 18 (.eff 19 (.take 20 (.eff 21 (.take 22 (.bar 23 .done))))))))))))))))))))))))
    | _ => .done

set_option maxRecDepth 100000 in
theorem ok34 : (codeOk Try.f34.ntmps A34 (Try.f34.body.getD .skip) 0 && Nat.ble 3 Try.f34.ntmps) = true := by kernel_rfl
set_option maxRecDepth 100000 in
theorem lift34 {t0 t1 t2 : Value} {w : World} {R : Ending → World → Prop} (h : S34 t0 t1 t2 w R) : Calls Try.prog 34 #[t0, t1, t2] w R :=
  calls_of_cw (fn := Try.f34) (c := Try.f34.body.getD .skip) A34 mixes Try.func34 (by kernel_rfl) ok34
    ((by kernel_rfl : (S34 t0 t1 t2 w R) = cw Try.prog A34 (Try.f34.body.getD .skip) 0 (bodyQ Try.prog Try.f34 R) (frOf #[t0, t1, t2]) w).mp h)

theorem fok111 : fnOk Try.prog 111 = true := by kernel_rfl
theorem fok112 : fnOk Try.prog 112 = true := by kernel_rfl
theorem fok33 : fnOk Try.prog 33 = true := by kernel_rfl
theorem fok86 : fnOk Try.prog 86 = true := by kernel_rfl
theorem fok87 : fnOk Try.prog 87 = true := by kernel_rfl
theorem fok113 : fnOk Try.prog 113 = true := by kernel_rfl
theorem fok34 : fnOk Try.prog 34 = true := by kernel_rfl
end Go.Proofs.Ytgalbokmgffhkaa

/- Contract: slices.DeleteFunc at lines. -/
namespace Go.Proofs.Ytgalbokmgffhkaa
open Go.Lf Go.RowKit Go.Wg

theorem chg_setCells {b : Nat} : ∀ (vs : List Value) (o : Nat) (w : World), Chg (fun k => k = b) w (w.setCells b o vs)
  | [], _, w => Chg.refl _ w
  | v :: vs, o, w => (Chg.setCell (S := fun k => k = b) w (p := ⟨b, o, none⟩) v rfl).trans (chg_setCells vs (o + 1) _)

set_option maxRecDepth 100000 in
/-- clear(s) -/
theorem r_clear {t e ty ty' : TypeId} {m b o n c : Nat} {z : Value} {cur : Array Value} {w : World} {K : Value → World → Prop} (ht : Try.prog.underlying t = some (.slice e)) (hv : ∀ w, (zeroValue e).run Try.prog w = .ok z w) (hz : z.cells.size = m)
    (h1 : ∀ u ∈ (Builtin.zeroCells z.cells n).toList, u.oneCell' = true) (hn : 0 < n) (hb : w.heap[b]? = some (.cells cur ty' (0, 0))) (hfit : o + n * m ≤ cur.size)
    (hk : ∀ w', Chg (fun k => k = b) w w' → (∀ k, k < o → w'.cell? ⟨b, k, none⟩ = w.cell? ⟨b, k, none⟩) → K (.tuple #[]) w') : semW Try.prog (clS [t] ty [.slice (some ⟨b, o, none⟩) n c]) w K := by
  have hl : (Builtin.zeroCells z.cells n).toList.length = n * m := by simp [Builtin.zeroCells, hz]
  generalize hvs : (Builtin.zeroCells z.cells n).toList = vs at *
  have hst := run_storeCells_cells (P := Try.prog) b o vs 0 w (fun j hj => by rw [cell_row hb]; simp; omega) (fun j hj => frozen_row hb) h1
  simp only [Nat.add_zero] at hst
  obtain ⟨k, rfl⟩ : ∃ k, n = k + 1 := ⟨n - 1, by omega⟩
  refine semW_of_run (v := .tuple #[]) (w' := w.setCells b o vs) ?_ (hk _ (chg_setCells vs o w) fun k hk => World.cell?_setCells_out b vs o w _ fun _ _ => .inl hk)
  simp [clS, Builtin.clear_, run_underlying ht, hv, hvs, hst]

section
variable {α : Type} {m : Nat} {enc : α → List Value}
theorem recCells_put (he : ∀ x, (enc x).length = m) (x : α) : ∀ (P : List α) (q : Nat), q < P.length → recCells enc (P.set q x) = (recCells enc P).take (q * m) ++ enc x ++ (recCells enc P).drop (q * m + m)
  | p :: P, 0, _ => by
    simp only [recCells, List.flatMap_cons, List.set_cons_zero, Nat.zero_mul, Nat.zero_add, List.take_zero, List.nil_append]
    rw [List.drop_append_of_le_length (by rw [he]; exact Nat.le_refl _), List.drop_of_length_le (by rw [he]; exact Nat.le_refl _), List.nil_append]
  | p :: P, q + 1, h => by
    have ih := recCells_put he x P q (by simpa using h)
    simp only [recCells, List.flatMap_cons, List.set_cons_succ] at ih ⊢
    rw [ih, Nat.add_mul, Nat.one_mul, Nat.add_comm (q * m) m, ← he p, List.take_length_add_append, Nat.add_assoc, List.drop_length_add_append]
    simp only [List.append_assoc, Nat.add_comm (enc p).length]
/-- A store of a whole record. -/
theorem RecAt.putRec {e : TypeId} {base : Nat} {w : World} {v : Value} {P : List α} (he : ∀ x, (enc x).length = m) (h : RecAt e m enc base w v P) {q : Nat} (hq : q < P.length) (x : α) :
    ∃ g cap cur, v = .slice (some ⟨g, 0, none⟩) P.length cap ∧ base ≤ g ∧ w.heap[g]? = some (.cells cur e (0, 0)) ∧ q * m + m ≤ cur.size ∧
      ∀ w', w'.heap[g]? = some (.cells (cur.toList.take (q * m) ++ enc x ++ cur.toList.drop (q * m + m)).toArray e (0, 0)) → RecAt e m enc base w' v (P.set q x) := by
  obtain ⟨g, cap, cur, e1, hb, hg, hle, hm, hs, ht⟩ := h.blk (by omega)
  have h1 : q * m + m ≤ P.length * m := by
    have : (q + 1) * m ≤ P.length * m := Nat.mul_le_mul_right m hq
    rwa [Nat.add_mul, Nat.one_mul] at this
  have h2 : P.length * m ≤ cur.size := by rw [hs]; exact Nat.mul_le_mul_right m hle
  refine ⟨g, cap, cur, e1, hb, hg, by omega, fun w' hw' => ⟨by rw [recCells_length he], .inr ⟨g, cap, _, by rw [List.length_set]; exact e1, hb, hw', by rw [List.length_set]; exact hle, hm, ?_, ?_⟩⟩⟩
  · rw [← hs]
    have := he x
    simp
    omega
  · rw [recCells_put he x P q hq, ← ht, List.length_set, List.take_take, Nat.min_eq_left (by omega), List.drop_take]
    have hA : (cur.toList.take (q * m) ++ enc x).length = q * m + m := by
      rw [List.length_append, List.length_take, he]
      have : cur.toList.length = cur.size := by simp
      omega
    show (cur.toList.take (q * m) ++ enc x ++ cur.toList.drop (q * m + m)).take (P.length * m) = _
    rw [List.take_append, hA, List.take_of_length_le (by rw [hA]; exact h1)]
end

set_option maxRecDepth 100000 in
/-- slices.IndexFunc at lines: the first. -/
theorem indexFst_calls {v fv : Value} {L : List Line} (p : Line → Bool) (w : World) (hr : RdL w v L) (hl : L.length ≤ 1000000)
    (hc : ∀ x ∈ L, ∀ (w' : World) (K : Value → World → Prop), Kp w w' → (∀ w'', Kp w' w'' → K (.bool (p x)) w'') → callW Try.prog fv [lnV x] w' K) :
    Calls Try.prog 77 #[v, fv] w fun e w' => Kp w w' ∧ (((∀ x ∈ L, p x = false) ∧ e = .returned (.int .i64 (-1))) ∨ ∃ (i : Nat) (x : Line), L[i]? = some x ∧ p x = true ∧ (∀ y ∈ L.take i, p y = false) ∧ e = .returned (.int .i64 i)) := by
  have hr' := hr
  obtain ⟨a, cap, rfl, hcap⟩ := hr.len
  refine lift77 ?_
  unfold S77
  simp only [r_ln]
  unfold S77L0
  refine ⟨fun t8 wr => ∃ i : Nat, i ≤ L.length ∧ t8 = .int .i64 i ∧ (∀ x ∈ L.take i, p x = false) ∧ Kp w wr, fun t8 _ => L.length - (intOf t8).toNat, ⟨0, by omega, rfl, by simp, Kp.refl _⟩, ?_⟩
  rintro _ _ wr ⟨i, hi, rfl, hn, kr⟩
  by_cases hlt : i < L.length
  case neg =>
    have hlt' : ¬ (i : Int) < (L.length : Int) := by omega
    rw [List.take_of_length_le (by omega)] at hn
    simp (disch := omega) only [r_ln, r_pick, r_pickT, r_pickF, r_condT, r_condF, r_gdTT, r_gdFF, r_gdTF, r_gdFT, r_gqTT, r_gqFF, r_gqTF, r_gqFT, r_not, r_lss, r_leq, r_gtr, r_geq, r_eql, r_neq, r_add, r_sub, r_min2, r_max2, r_min3, r_max3, r_fa, r_iaS, r_iaA, r_ex2a, r_ex2b, r_ex3a, r_ex3b, r_ex3c, r_nc, r_keepE, Nat.zero_add, Nat.add_zero, Nat.mul_one, Int.toNat_natCast, toNat_sub1, toNat_add1, decide_true, decide_false, Bool.not_true, Bool.not_false, if_true, if_false, Bool.false_eq_true, reduceCtorEq, hlt']
    exact ⟨kr, .inl ⟨hn, by first | rfl | trivial⟩⟩
  have hlt' : (i : Int) < (L.length : Int) := by omega
  obtain ⟨x, hx⟩ : ∃ x, L[i]? = some x := ⟨_, List.getElem?_eq_getElem hlt⟩
  obtain ⟨b, off, _, e, _, hld⟩ := RdL.line (hr'.kp kr) hx
  cases e
  have hii : (i : Int).toNat = i := by omega
  simp (disch := omega) only [r_ln, r_pick, r_pickT, r_pickF, r_condT, r_condF, r_gdTT, r_gdFF, r_gdTF, r_gdFT, r_gqTT, r_gqFF, r_gqTF, r_gqFT, r_not, r_lss, r_leq, r_gtr, r_geq, r_eql, r_neq, r_add, r_sub, r_min2, r_max2, r_min3, r_max3, r_fa, r_iaS, r_iaA, r_ex2a, r_ex2b, r_ex3a, r_ex3b, r_ex3c, r_nc, r_keepE, Nat.zero_add, Nat.add_zero, Nat.mul_one, Int.toNat_natCast, toNat_sub1, toNat_add1, decide_true, decide_false, Bool.not_true, Bool.not_false, if_true, if_false, Bool.false_eq_true, reduceCtorEq, decide_eq_true hlt', hii, hld]
  refine hc x (List.mem_of_getElem? hx) wr _ kr fun w2 k2 => ?_
  cases hp : p x with
  | true =>
    simp (disch := omega) only [r_ln, r_pick, r_pickT, r_pickF, r_condT, r_condF, r_gdTT, r_gdFF, r_gdTF, r_gdFT, r_gqTT, r_gqFF, r_gqTF, r_gqFT, r_not, r_lss, r_leq, r_gtr, r_geq, r_eql, r_neq, r_add, r_sub, r_min2, r_max2, r_min3, r_max3, r_fa, r_iaS, r_iaA, r_ex2a, r_ex2b, r_ex3a, r_ex3b, r_ex3c, r_nc, r_keepE, Nat.zero_add, Nat.add_zero, Nat.mul_one, Int.toNat_natCast, toNat_sub1, toNat_add1, decide_true, decide_false, Bool.not_true, Bool.not_false, if_true, if_false, Bool.false_eq_true, reduceCtorEq]
    exact ⟨Kp.trans kr k2, .inr ⟨i, x, hx, hp, hn, by first | rfl | trivial⟩⟩
  | false =>
    simp (disch := omega) only [r_ln, r_pick, r_pickT, r_pickF, r_condT, r_condF, r_gdTT, r_gdFF, r_gdTF, r_gdFT, r_gqTT, r_gqFF, r_gqTF, r_gqFT, r_not, r_lss, r_leq, r_gtr, r_geq, r_eql, r_neq, r_add, r_sub, r_min2, r_max2, r_min3, r_max3, r_fa, r_iaS, r_iaA, r_ex2a, r_ex2b, r_ex3a, r_ex3b, r_ex3c, r_nc, r_keepE, Nat.zero_add, Nat.add_zero, Nat.mul_one, Int.toNat_natCast, toNat_sub1, toNat_add1, decide_true, decide_false, Bool.not_true, Bool.not_false, if_true, if_false, Bool.false_eq_true, reduceCtorEq]
    refine ⟨⟨i + 1, by omega, by go_num, fun y hy => ?_, Kp.trans kr k2⟩, by simp only [intOf]; omega⟩
    rw [List.take_add_one, hx] at hy
    rcases List.mem_append.1 hy with h | h
    · exact hn y h
    · simp at h
      rw [h]; exact hp

set_option maxRecDepth 100000 in
theorem open_call (x : Line) (w : World) (K : Value → World → Prop) (hK : ∀ w', Kp w w' → K (.bool (!x.2.2.2)) w') : callW Try.prog (.func (.func 112) #[] #[]) [lnV x] w K := by
  have hc : Calls Try.prog 112 #[lnV x] w fun r w' => r = .returned (.bool (!x.2.2.2)) ∧ Kp w w' := by
    refine lift112 ?_
    unfold S112
    refine r_box fun b w1 e1 s1 h1 k1 => ?_
    have c6 : w1.cell? ⟨b, 6, none⟩ = some (.bool x.2.2.2) := by rw [cell_row h1]; rfl
    simp (disch := omega) only [r_ln, r_pick, r_pickT, r_pickF, r_condT, r_condF, r_gdTT, r_gdFF, r_gdTF, r_gdFT, r_gqTT, r_gqFF, r_gqTF, r_gqFT, r_not, r_lss, r_leq, r_gtr, r_geq, r_eql, r_neq, r_add, r_sub, r_min2, r_max2, r_min3, r_max3, r_fa, r_iaS, r_iaA, r_ex2a, r_ex2b, r_ex3a, r_ex3b, r_ex3c, r_nc, r_keepE, Nat.zero_add, Nat.add_zero, Nat.mul_one, Int.toNat_natCast, toNat_sub1, toNat_add1, decide_true, decide_false, Bool.not_true, Bool.not_false, if_true, if_false, Bool.false_eq_true, reduceCtorEq, r_ld c6]
    exact ⟨by first | rfl | trivial, k1⟩
  refine r_use fok112 hc rfl ?_
  rintro _ w2 ⟨rfl, k2⟩
  exact ⟨_, rfl, hK w2 k2⟩

theorem lnV_cells (x : Line) : (lnV x).cells = (lnC x).toArray := rfl
theorem zero78 (w : World) : (zeroValue 78).run Try.prog w = .ok (lnV ([0, 0, 0, 0], 0, 0, false)) w := by kernel_rfl
theorem zero78_one (n : Nat) : ∀ u ∈ (Builtin.zeroCells (lnV ([0, 0, 0, 0], 0, 0, false)).cells n).toList, u.oneCell' = true := by
  intro u hu
  simp only [Builtin.zeroCells, Array.toList_map, List.mem_map] at hu
  obtain ⟨i, _, rfl⟩ := hu
  have h7 : i % (lnV ([0, 0, 0, 0], 0, 0, false)).cells.size < 7 := Nat.mod_lt _ (by decide)
  generalize i % (lnV ([0, 0, 0, 0], 0, 0, false)).cells.size = k at *
  have : k = 0 ∨ k = 1 ∨ k = 2 ∨ k = 3 ∨ k = 4 ∨ k = 5 ∨ k = 6 := by omega
  rcases this with rfl | rfl | rfl | rfl | rfl | rfl | rfl <;> rfl

set_option maxRecDepth 100000 in
set_option maxHeartbeats 1000000 in
/-- slices.DeleteFunc: the lines that close stay. -/
theorem delete_calls {v : Value} {L : List Line} (w0 w : World) (h : LnAt w0.heap.size w v L) (hk : Kp w0 w) (hl : L.length ≤ 1000000) :
    Calls Try.prog 111 #[v, .func (.func 112) #[] #[]] w fun e w' => ∃ v', e = .returned v' ∧ Kp w0 w' ∧ RdL w' v' (closedL L) := by
  refine lift111 ?_
  unfold S111
  refine r_use fok77 (indexFst_calls (fun x : Line => !x.2.2.2) w (h.rd lnC_len) hl fun x _ w' K _ hK => open_call x w' K hK) rfl ?_
  rintro e w1 ⟨k1, h1⟩
  rcases h1 with ⟨hall, rfl⟩ | ⟨i, x, hx, hpx, hn, rfl⟩
  · refine ⟨_, rfl, ?_⟩
    simp (disch := omega) only [r_ln, r_pick, r_pickT, r_pickF, r_condT, r_condF, r_gdTT, r_gdFF, r_gdTF, r_gdFT, r_gqTT, r_gqFF, r_gqTF, r_gqFT, r_not, r_lss, r_leq, r_gtr, r_geq, r_eql, r_neq, r_add, r_sub, r_min2, r_max2, r_min3, r_max3, r_fa, r_iaS, r_iaA, r_ex2a, r_ex2b, r_ex3a, r_ex3b, r_ex3c, r_nc, r_keepE, Nat.zero_add, Nat.add_zero, Nat.mul_one, Int.toNat_natCast, toNat_sub1, toNat_add1, decide_true, decide_false, Bool.not_true, Bool.not_false, if_true, if_false, Bool.false_eq_true, reduceCtorEq]
    refine ⟨_, rfl, Kp.trans hk k1, ?_⟩
    have e : closedL L = L := List.filter_eq_self.2 fun x hx => by have := hall x hx; simpa using this
    rw [e]
    exact (h.kp k1).rd lnC_len
  refine ⟨_, rfl, ?_⟩
  have hil : i < L.length := (List.getElem?_eq_some_iff.1 hx).1
  have hm1 : ¬ (i : Int) = -1 := by omega
  simp (disch := omega) only [r_ln, r_pick, r_pickT, r_pickF, r_condT, r_condF, r_gdTT, r_gdFF, r_gdTF, r_gdFT, r_gqTT, r_gqFF, r_gqTF, r_gqFT, r_not, r_lss, r_leq, r_gtr, r_geq, r_eql, r_neq, r_add, r_sub, r_min2, r_max2, r_min3, r_max3, r_fa, r_iaS, r_iaA, r_ex2a, r_ex2b, r_ex3a, r_ex3b, r_ex3c, r_nc, r_keepE, Nat.zero_add, Nat.add_zero, Nat.mul_one, Int.toNat_natCast, toNat_sub1, toNat_add1, decide_true, decide_false, Bool.not_true, Bool.not_false, if_true, if_false, Bool.false_eq_true, reduceCtorEq, hm1]
  unfold S111L0
  have hLp : 0 < L.length := by omega
  obtain ⟨g, cap, cur0, ev, hbg, _, hcap, _⟩ := h.blk hLp
  subst ev
  refine ⟨fun t5 t6 wr => ∃ (j a : Nat) (X : List Line), t6 = .int .i64 j ∧ t5 = .int .i64 a ∧ j ≤ L.length ∧ a < j ∧ X.length = L.length ∧ X.take a = (L.take j).filter (fun x => x.2.2.2) ∧ X.drop j = L.drop j ∧ LnAt w0.heap.size wr (.slice (some ⟨g, 0, none⟩) L.length cap) X ∧ Kp w0 wr, fun _ t6 _ => L.length - (intOf t6).toNat,
    ⟨i + 1, i, L, by go_num, rfl, by omega, by omega, rfl, ?_, rfl, h.kp k1, Kp.trans hk k1⟩, ?_⟩
  · rw [List.take_add_one, hx, List.filter_append]
    have e1 : (L.take i).filter (fun x => x.2.2.2) = L.take i := List.filter_eq_self.2 fun y hy => by have := hn y hy; simpa using this
    have e2 : x.2.2.2 = false := by simpa using hpx
    rw [e1]
    simp [e2]
  rintro _ _ _ wr ⟨j, a, X, rfl, rfl, hj, haj, hXl, hXt, hXd, hX, kr⟩
  by_cases hlt : j < L.length
  case neg =>
    have hlt' : ¬ (j : Int) < (L.length : Int) := by omega
    have ej : j = L.length := by omega
    simp only [r_ln, r_lss, hlt', decide_false, r_condF]
    rw [r_slFrom (by omega) (by omega)]
    have haa : (a : Int).toNat = a := by omega
    rw [haa, if_neg (by omega)]
    simp only [Option.map_some]
    rw [r_addr, Nat.zero_add]
    obtain ⟨g', cap', cur, e1, _, hg, _, _, hcs, _⟩ := hX.blk (by omega)
    rw [hXl] at e1
    cases e1
    refine r_clear (m := 7) (z := lnV ([0, 0, 0, 0], 0, 0, false)) slt73.und zero78 rfl (zero78_one _) (by omega) hg ?_ fun w2 c2 hout => ?_
    · rw [hcs]
      have : (a + (L.length - a)) * 7 ≤ cap * 7 := Nat.mul_le_mul_right 7 (by omega)
      rw [Nat.add_mul] at this
      exact this
    rw [r_slTo (by omega) (by omega), haa]
    refine ⟨_, rfl, Kp.of_chg kr c2 fun k e => by rw [e]; exact hbg, ?_⟩
    have hfin : X.take a = closedL L := by
      rw [hXt, List.take_of_length_le (by omega)]; rfl
    rw [← hfin]
    have hta : (X.take a).length = a := by rw [List.length_take]; omega
    obtain ⟨_, _, e3, _, hh⟩ := Rd.take (l := X) (n := L.length) (hX.rd lnC_len) (i := a) (by omega)
    rw [hta] at e3
    cases e3
    refine ⟨_, cap, by rw [hta], by omega, fun h0 => ?_⟩
    obtain ⟨b2, off2, e4, hcell⟩ := hh h0
    cases e4
    refine ⟨g, 0, rfl, fun k y hky q u hu => ?_⟩
    rw [hout _ ?_]
    · exact hcell k y hky q u hu
    · have hk' : k < a := by rw [← hta]; exact (List.getElem?_eq_some_iff.1 hky).1
      have hq : q < 7 := (List.getElem?_eq_some_iff.1 hu).1
      omega
  have hlt' : (j : Int) < (L.length : Int) := by omega
  have hxj : X[j]? = some L[j] := by
    have e1 : X[j]? = (X.drop j)[0]? := by rw [List.getElem?_drop, Nat.add_zero]
    rw [e1, hXd, List.getElem?_drop, Nat.add_zero, List.getElem?_eq_getElem hlt]
  have htake : L.take (j + 1) = L.take j ++ [L[j]] := take_succ' _ _ hlt
  have hdrop : X.drop (j + 1) = L.drop (j + 1) := by
    have e1 : X.drop (j + 1) = (X.drop j).drop 1 := by rw [List.drop_drop]
    rw [e1, hXd, List.drop_drop]
  generalize L[j] = y at *
  have hjj : (j : Int).toNat = j := by omega
  obtain ⟨b, off, _, e, _, hld⟩ := RdL.line (hX.rd lnC_len) hxj
  rw [hXl] at e
  cases e
  simp only [r_ln, r_lss, decide_eq_true hlt', r_condT]
  rw [r_iaS _ _ _ _ _ _ _ (by omega) (by omega), hjj, hld]
  refine r_box fun b7 w2 e7 s7 h7 k7 => ?_
  refine r_stAll (n := 7) (ty := 78) (by kernel_rfl) rfl (by intro u hu; simp [Value.cells] at hu; rcases hu with rfl | rfl | rfl | rfl | rfl | rfl | rfl <;> rfl) h7 rfl fun w3 cg3 s3 h73 => ?_
  have k03 : Kp wr w3 := Kp.of_chg k7 cg3 fun i e => by omega
  have ld3 : ∀ K : Value → Prop, ldN 7 w3 (.pointer (some ⟨b7, 0, none⟩)) K = K (lnV y) := fun K => r_ldRow h73 rfl
  rw [ld3]
  refine open_call y w3 _ fun w4 k4 => ?_
  have k04 := Kp.trans k03 k4
  have h74 := block_below h73 k4
  simp only [r_not, Bool.not_not]
  refine r_join1 (fun v w' => ∃ (a' : Nat) (X' : List Line), v = .int .i64 a' ∧ a' < j + 1 ∧ X'.length = L.length ∧ X'.take a' = (L.take (j + 1)).filter (fun x => x.2.2.2) ∧ X'.drop (j + 1) = L.drop (j + 1) ∧ LnAt w0.heap.size w' (.slice (some ⟨g, 0, none⟩) L.length cap) X' ∧ Kp w0 w') ?_ fun k' hk' => ?_
  · rintro v' w' ⟨a', X', rfl, q1, q2, q3, q4, q5, q6⟩
    rw [r_add _ _ (by omega) (by omega)]
    exact ⟨⟨j + 1, a', X', by go_num, rfl, by omega, q1, q2, q3, q4, q5, q6⟩, by simp only [intOf]; omega⟩
  cases hy : y.2.2.2 with
  | false =>
    simp only [r_condF]
    refine hk' _ _ ⟨a, X, rfl, by omega, hXl, ?_, hdrop, hX.kp k04, Kp.trans kr k04⟩
    rw [htake, List.filter_append, hXt]
    simp [hy]
  | true =>
    simp only [r_condT]
    have ld4 : ∀ K : Value → Prop, ldN 7 w4 (.pointer (some ⟨b7, 0, none⟩)) K = K (lnV y) := fun K => r_ldRow h74 rfl
    rw [ld4]
    have haa : (a : Int).toNat = a := by omega
    obtain ⟨g', cap', cur, e1, _, hg, hfit, hput⟩ := RecAt.putRec lnC_len (hX.kp k04) (q := a) (by omega) y
    rw [hXl] at e1
    cases e1
    rw [r_iaS _ _ _ _ _ _ _ (by omega) (by omega), haa, Nat.zero_add]
    refine r_stAt (n := 7) (ty := 78) (by kernel_rfl) rfl (by intro u hu; simp [Value.cells] at hu; rcases hu with rfl | rfl | rfl | rfl | rfl | rfl | rfl <;> rfl) hg hfit fun w5 c5 s5 h5 => ?_
    rw [r_add _ _ (by omega) (by omega)]
    refine hk' _ _ ⟨a + 1, X.set a y, by go_num, by omega, by rw [List.length_set]; exact hXl, ?_, ?_, hput w5 h5, Kp.of_chg (Kp.trans kr k04) c5 fun k e => by rw [e]; exact hbg⟩
    · rw [List.take_add_one, List.getElem?_set_self (by omega), List.take_set_of_le (Nat.le_refl _), hXt, htake, List.filter_append]
      simp [hy]
    · rw [List.drop_set_of_lt (by omega)]; exact hdrop

end Go.Proofs.Ytgalbokmgffhkaa
