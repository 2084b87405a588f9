/- Texts of my own, merged by program: B7 B7n B8. -/
import Derived.Test.YtgalbokmgffhkaaM13
import Derived.Shelf.SlSortCmp.Whole1
import Derived.Shelf.SlSortCmp.NoneTotal
set_option linter.all false
/- Contract: the program's sort of lists of numbers, by the shelf's contract of slices.SortFunc. -/
namespace Go.Proofs.Ytgalbokmgffhkaa
open Go.Lf Go.RowKit Go.Wg Go.Shelf Go.Proofs

def sortR_ren : Go.Shelf.Ren := ⟨fun | 6 => 84 | 15 => 110 | 14 => 109 | 28 => 129 | 29 => 130 | 20 => 121 | 21 => 122 | 22 => 123 | 23 => 124 | 24 => 125 | 25 => 126 | 26 => 127 | 27 => 128 | 46 => 141 | 47 => 142 | 48 => 143 | 49 => 144 | 50 => 145 | 57 => 149 | n => n, fun | 22 => 23 | 24 => 30 | 25 => 71 | 3 => 3 | 39 => 109 | 0 => 0 | 53 => 122 | 55 => 125 | 4 => 4 | 46 => 130 | 45 => 129 | 50 => 134 | 5 => 5 | 9 => 9 | 66 => 145 | 70 => 149 | 76 => 153 | 77 => 154 | n => n, fun | n => n⟩
set_option maxRecDepth 100000 in
theorem sortR : SlLaysF.n6 Try.prog sortR_ren :=
  { mixed := by kernel_rfl,
    f6 := ⟨Try.f84.name, by decide, Try.func84.trans (congrArg some (by kernel_rfl))⟩,
    f14 := ⟨Try.f109.name, by decide, Try.func109.trans (congrArg some (by kernel_rfl))⟩,
    f15 := Try.func110.trans (congrArg some (by kernel_rfl)),
    f20 := ⟨Try.f121.name, by decide, Try.func121.trans (congrArg some (by kernel_rfl))⟩,
    f21 := ⟨Try.f122.name, by decide, Try.func122.trans (congrArg some (by kernel_rfl))⟩,
    f22 := ⟨Try.f123.name, by decide, Try.func123.trans (congrArg some (by kernel_rfl))⟩,
    f23 := ⟨Try.f124.name, by decide, Try.func124.trans (congrArg some (by kernel_rfl))⟩,
    f24 := ⟨Try.f125.name, by decide, Try.func125.trans (congrArg some (by kernel_rfl))⟩,
    f25 := ⟨Try.f126.name, by decide, Try.func126.trans (congrArg some (by kernel_rfl))⟩,
    f26 := ⟨Try.f127.name, by decide, Try.func127.trans (congrArg some (by kernel_rfl))⟩,
    f27 := ⟨Try.f128.name, by decide, Try.func128.trans (congrArg some (by kernel_rfl))⟩,
    f28 := Try.func129.trans (congrArg some (by kernel_rfl)),
    f29 := Try.func130.trans (congrArg some (by kernel_rfl)),
    f46 := ⟨Try.f141.name, by decide, Try.func141.trans (congrArg some (by kernel_rfl))⟩,
    f47 := Try.func142.trans (congrArg some (by kernel_rfl)),
    f48 := Try.func143.trans (congrArg some (by kernel_rfl)),
    f49 := ⟨Try.f144.name, by decide, Try.func144.trans (congrArg some (by kernel_rfl))⟩,
    f50 := ⟨Try.f145.name, by decide, Try.func145.trans (congrArg some (by kernel_rfl))⟩,
    f57 := ⟨Try.f149.name, by decide, Try.func149.trans (congrArg some (by kernel_rfl))⟩,
    t0 := Try.underlying0,
    a0 := Try.isAgg0,
    z0 := Try.sizeOf0,
    v0 := Try.zeroValue0,
    t3 := Try.underlying3,
    a3 := Try.isAgg3,
    z3 := Try.sizeOf3,
    v3 := Try.zeroValue3,
    t4 := Try.underlying4,
    a4 := Try.isAgg4,
    z4 := Try.sizeOf4,
    v4 := Try.zeroValue4,
    t5 := Try.underlying5,
    a5 := Try.isAgg5,
    z5 := Try.sizeOf5,
    v5 := Try.zeroValue5,
    t9 := Try.underlying9,
    a9 := Try.isAgg9,
    z9 := Try.sizeOf9,
    v9 := Try.zeroValue9,
    t22 := Try.underlying23,
    a22 := Try.isAgg23,
    z22 := Try.sizeOf23,
    v22 := Try.zeroValue23,
    a24 := Try.isAgg30,
    z24 := Try.sizeOf30,
    t25 := Try.underlying71,
    a25 := Try.isAgg71,
    z25 := Try.sizeOf71,
    v25 := Try.zeroValue71,
    t39 := Try.underlying109,
    a39 := Try.isAgg109,
    z39 := Try.sizeOf109,
    v39 := Try.zeroValue109,
    t45 := Try.underlying129,
    a45 := Try.isAgg129,
    z45 := Try.sizeOf129,
    v45 := Try.zeroValue129,
    t46 := Try.underlying130,
    a46 := Try.isAgg130,
    z46 := Try.sizeOf130,
    v46 := Try.zeroValue130,
    t50 := Try.underlying134,
    a50 := Try.isAgg134,
    z50 := Try.sizeOf134,
    v50 := Try.zeroValue134,
    t53 := Try.underlying122,
    a53 := Try.isAgg122,
    z53 := Try.sizeOf122,
    v53 := Try.zeroValue122,
    t55 := Try.underlying125,
    a55 := Try.isAgg125,
    z55 := Try.sizeOf125,
    v55 := Try.zeroValue125,
    t66 := Try.underlying145,
    a66 := Try.isAgg145,
    z66 := Try.sizeOf145,
    v66 := Try.zeroValue145,
    t70 := Try.underlying149,
    a70 := Try.isAgg149,
    z70 := Try.sizeOf149,
    v70 := Try.zeroValue149,
    t76 := Try.underlying153,
    a76 := Try.isAgg153,
    z76 := Try.sizeOf153,
    v76 := Try.zeroValue153,
    t77 := Try.underlying154,
    a77 := Try.isAgg154,
    z77 := Try.sizeOf154,
    v77 := Try.zeroValue154 }

theorem cmpL_self : ∀ a, cmpL a a = 0
  | [] => rfl
  | x :: a => by simp [cmpL, cmpL_self a]
theorem cmpL_trans : ∀ a b c, cmpL a b < 0 → cmpL b c < 0 → cmpL a c < 0
  | [], b, [], h1, h2 => by cases b <;> simp [cmpL] at h1 h2
  | [], _, _ :: _, _, _ => by simp [cmpL]
  | _ :: _, [], _, h1, _ => by simp [cmpL] at h1
  | _ :: _, _ :: _, [], _, h2 => by simp [cmpL] at h2
  | x :: a, y :: b, z :: c, h1, h2 => by
    simp only [cmpL] at h1 h2 ⊢
    have ih := cmpL_trans a b c
    by_cases e1 : x < y
    · by_cases e2 : y < z
      · rw [if_pos (by omega)]; decide
      · by_cases e3 : z < y
        · rw [if_neg e2, if_pos e3] at h2; exact absurd h2 (by decide)
        · rw [if_pos (by omega)]; decide
    · by_cases e1' : y < x
      · rw [if_neg e1, if_pos e1'] at h1; exact absurd h1 (by decide)
      · rw [if_neg e1, if_neg e1'] at h1
        have exy : x = y := by omega
        subst exy
        by_cases e2 : x < z
        · rw [if_pos e2]; decide
        · by_cases e3 : z < x
          · rw [if_neg e2, if_pos e3] at h2; exact absurd h2 (by decide)
          · rw [if_neg e2, if_neg e3] at h2 ⊢
            exact ih h1 h2
theorem cmpL_ntrans : ∀ a b c, ¬ cmpL a b < 0 → ¬ cmpL b c < 0 → ¬ cmpL a c < 0
  | [], [], c, _, h2 => h2
  | [], _ :: _, _, h1, _ => by simp [cmpL] at h1
  | _ :: _, _, [], _, _ => by simp [cmpL]
  | _ :: _, [], _ :: _, _, h2 => by simp [cmpL] at h2
  | x :: a, y :: b, z :: c, h1, h2 => by
    simp only [cmpL] at h1 h2 ⊢
    have ih := cmpL_ntrans a b c
    by_cases e1 : x < y
    · rw [if_pos e1] at h1; exact absurd (by decide) h1
    · by_cases e2 : y < z
      · rw [if_pos e2] at h2; exact absurd (by decide) h2
      · by_cases e3 : z < x
        · rw [if_neg (by omega), if_pos e3]; decide
        · have e4 : x = y := by omega
          have e5 : y = z := by omega
          subst e4; subst e5
          rw [if_neg e1, if_neg e1] at h1
          rw [if_neg e1, if_neg e1] at h2
          rw [if_neg e1, if_neg e1]
          exact ih h1 h2

theorem chg_sort {α : Type} [Inhabited α] (enc : α → Value) (w : World) (g m : Nat) (d : Array α) (os : Array Obj) : Chg (fun k => k = g) w (sortWorld enc w g 0 m d os) := by
  refine ⟨rfl, rfl, rfl, ?_, fun k hk hn => ?_⟩
  · show _ ≤ ((w.heap.modify g _) ++ os).size
    simp
  · show ((w.heap.modify g _) ++ os)[k]? = _
    rw [Array.getElem?_append_left (by simpa using hk), Array.getElem?_modify, if_neg (fun e => hn e.symm)]

/-- The slice at a place, whatever the place. -/
def encR (vs : List Value) (i : Nat) : Value := if (vs.getD i nilS).oneCell' = true then vs.getD i nilS else nilS
def cfR (out : List (List Int)) (x y : Nat) : Int := cmpL (out.getD x []) (out.getD y [])

theorem swoR (out : List (List Int)) : Go.Sort.SWO (ltOf (cfR out)) := by
  refine ⟨fun x => ?_, fun x y z h1 h2 => ?_, fun x y z h1 h2 => ?_⟩
  · exact decide_eq_false (by rw [cfR, cmpL_self]; decide)
  · exact decide_eq_true (cmpL_trans _ _ _ (of_decide_eq_true h1) (of_decide_eq_true h2))
  · exact decide_eq_false (cmpL_ntrans _ _ _ (of_decide_eq_false h1) (of_decide_eq_false h2))

theorem ints_one {base : Nat} {w : World} {u : Value} {r : List Int} (h : IntsAt base w u r) : u.oneCell' = true := by
  obtain ⟨a, c, rfl, _⟩ := h.len
  rfl

set_option maxRecDepth 100000 in
set_option maxHeartbeats 800000 in
theorem sortR_calls {base : Nat} {v : Value} {out : List (List Int)} {w : World} (h : IRows base w v out) (h0 : 0 < out.length) (hn : out.length ≤ 100000) (hrow : ∀ r ∈ out, r.length ≤ 1000000) :
    Calls Try.prog 84 #[v, .func (.func 85) #[] #[]] w fun e w' => e = .returned (.tuple #[]) ∧ ∃ out', IRows base w' v out' ∧ out'.Perm out ∧ out'.Pairwise (fun x y => ¬ cmpL y x < 0) ∧ Chg (fun k => v.ownBlock = some k) w w' := by
  obtain ⟨vs, o1, o2, o3⟩ := h
  obtain ⟨g, cap, cur, rfl, hb, hg, hle, hm, hs, ht⟩ := o1.blk (by omega)
  have hvs : ∀ i, i < out.length → ∃ u, vs[i]? = some u ∧ encR vs i = u ∧ IntsAt base w u (out.getD i []) := fun i hi => by
    have e1 : vs[i]? = some (vs[i]'(by omega)) := List.getElem?_eq_getElem (by omega)
    have e2 : out[i]? = some (out.getD i []) := by rw [List.getElem?_eq_getElem hi, getD_lt _ _ _ hi]
    have hI := o3 i _ _ e1 e2
    refine ⟨_, e1, ?_, hI⟩
    unfold encR
    rw [getD_lt vs i nilS (by omega), if_pos (ints_one hI)]
  have hvs2 : ∀ i, ¬ i < out.length → encR vs i = nilS ∧ out.getD i [] = [] := fun i hi => by
    unfold encR
    rw [List.getD_eq_getElem?_getD, List.getElem?_eq_none (by omega), List.getD_eq_getElem?_getD, List.getElem?_eq_none (by omega)]
    exact ⟨rfl, rfl⟩
  have eg : ∀ args w, (callFunc 85 args).run Try.prog w = .ok (.enter 85 args) w := enters_of Try.func85 (by kernel_rfl) rfl
  have hrv : recCells vE vs = vs := by simp [recCells]
  have hcur : ∀ i, i < out.length → cur[i]? = some (encR vs i) := fun i hi => by
    obtain ⟨u, q1, q2, _⟩ := hvs i hi
    rw [← Array.getElem?_toList]
    have : cur.toList[i]? = vs[i]? := by
      rw [hrv, Nat.mul_one] at ht
      conv => rhs; rw [← ht]
      rw [List.getElem?_take, if_pos (by omega)]
    rw [this, q1, q2]
  have hd : ∀ j, j < (List.range out.length).toArray.size → (List.range out.length).toArray[j]! = j := fun j hj => by
    have hj' : j < out.length := by simpa using hj
    simp [hj']
  have hH : Go.Sort.Holds (encR vs) w g 0 (List.range out.length).toArray := by
    intro j hj
    have hj' : j < out.length := by simpa using hj
    rw [hd j hj, Nat.zero_add, cell_row hg, hcur j hj']
    exact ⟨rfl, frozen_row hg⟩
  have hsz : (List.range out.length).toArray.size = out.length := by simp
  have later : ∀ (m : Nat) (dk : Array Nat) (os : Array Obj) (i : Nat), RdInts (sortWorld (encR vs) w g 0 m dk os) (encR vs i) (out.getD i []) := fun m dk os i => by
    by_cases hi : i < out.length
    · obtain ⟨u, q1, q2, q3⟩ := hvs i hi
      rw [q2]
      have hne : ∀ k, u.ownBlock = some k → ¬ k = g := fun k hk e => rec_ne q3 o1 (by decide) k hk (by rw [e]; rfl)
      exact ((q3.chg (chg_sort _ _ _ _ _ _) hne).rd iC_len).ints (hrow _ (getD_mem hi))
    · obtain ⟨e1, e2⟩ := hvs2 i hi
      rw [e1, e2]
      exact ⟨none, 0, rfl, by simp, fun h => absurd h (by simp)⟩
  have hcmp : CmpLays1 Try.prog 85 #[] (encR vs) (cfR out) g 0 (List.range out.length).toArray.size w := by
    intro m os dk hdk x y
    have hc : Calls Try.prog 85 #[encR vs x, encR vs y] (sortWorld (encR vs) w g 0 m dk os) fun e w' => e = .returned (.int .i64 (cfR out x y)) ∧ sortWorld (encR vs) w g 0 m dk os = w' := by
      refine lift85 ?_
      unfold S85
      refine r_use fok57 (compare_calls _ (later m dk os x) (later m dk os y)) rfl ?_
      rintro _ _ ⟨rfl, rfl⟩
      exact ⟨_, rfl, rfl, rfl⟩
    refine Calls.mono (by simpa using hc) ?_
    rintro e w' ⟨rfl, rfl⟩
    exact ⟨rfl, 0, #[], by simp [Go.Sort.grow, World.drewN]⟩
  have hcon := Any.slices_SortFunc sortR (encR vs) (fun i => by unfold encR; split <;> first | assumption | rfl) (cfR out) (swoR out) 85 #[] g 0 cap (List.range out.length).toArray w eg hcmp hH (block_lt hg) (by simp; omega)
  rw [hsz] at hcon
  change Calls Try.prog 84 _ _ _ at hcon
  rw [o2]
  refine hcon.mono ?_
  rintro e w' ⟨rfl, d', n, os, hp, hso, rfl⟩
  have hvl : vs.length = out.length := o2
  have hdl : d'.size = out.length := by have := hp.1; simpa using this
  have hperm : d'.toList.Perm (List.range out.length) := by
    have := hp.2.2
    have e1 : d'.extract 0 out.length = d' := by rw [← hdl]; simp
    have e2 : (List.range out.length).toArray.extract 0 out.length = (List.range out.length).toArray := by
      have := Array.extract_size (xs := (List.range out.length).toArray)
      rw [hsz] at this
      exact this
    rw [e1, e2] at this
    simpa using this
  have hHd := holds_sortWorld (encR vs) w g 0 n (List.range out.length).toArray d' os (block_lt hg) hH (by rw [hdl]; simp)
  have hblk : (sortWorld (encR vs) w g 0 n d' os).heap[g]? = some (.cells (Go.Sort.putCells (encR vs) 0 d' cur) 30 (0, 0)) := by
    have hgl := block_lt hg
    show ((w.heap.modify g _) ++ os)[g]? = _
    rw [Array.getElem?_append_left (by simpa using hgl), Array.getElem?_modify, if_pos rfl, hg]
    rfl
  have hmem : ∀ i, i < d'.size → d'[i]! < out.length := fun i hi => by
    have : d'[i]! ∈ d'.toList := by rw [getElem!_pos d' i hi]; simp
    have := (hperm.mem_iff).1 this
    simpa using this
  have hcs := chg_sort (encR vs) w g n d' os
  refine ⟨rfl, d'.toList.map (fun i => out.getD i []), ⟨d'.toList.map (encR vs), ⟨?_, .inr ⟨g, cap, _, ?_, hb, hblk, ?_, hm, by simp [Go.Sort.putCells, hs], ?_⟩⟩, by simp, fun i u r hu hr => ?_⟩, ?_, ?_, hcs.mono fun k _ e => by rw [e]; rfl⟩
  · simp [recCells]
  · simp [hdl]
  · simp [hdl]; omega
  · have e1 : recCells vE (d'.toList.map (encR vs)) = d'.toList.map (encR vs) := by simp [recCells]
    rw [e1]
    apply List.ext_getElem?
    intro t
    rw [List.getElem?_take]
    by_cases hlt : t < d'.size
    · rw [if_pos (by simpa using hlt)]
      have := (hHd t hlt).1
      rw [Nat.zero_add, cell_row hblk] at this
      rw [Array.getElem?_toList, this]
      simp [hlt]
    · rw [if_neg (by simpa using hlt)]
      simp [Nat.le_of_not_lt hlt]
  · rw [List.getElem?_map] at hu hr
    cases hd' : d'.toList[i]? with
    | none => rw [hd'] at hu; cases hu
    | some k =>
      rw [hd'] at hu hr
      cases hu
      cases hr
      have hi : i < d'.size := by simpa using (List.getElem?_eq_some_iff.1 hd').1
      have hk : k = d'[i]! := by
        rw [getElem!_pos d' i hi]
        have := (List.getElem?_eq_some_iff.1 hd').2
        simpa using this.symm
      obtain ⟨u, q1, q2, q3⟩ := hvs k (by rw [hk]; exact hmem i hi)
      rw [q2]
      exact q3.chg hcs fun k' hk' e => rec_ne q3 o1 (by decide) k' hk' (by rw [e]; rfl)
  · have h1 := hperm.map (fun i => out.getD i [])
    have h2 : (List.range out.length).map (fun i => out.getD i []) = out := by
      refine List.ext_getElem (by simp) fun i h1 h2 => ?_
      simp [List.getD_eq_getElem?_getD, h2]
    rw [h2] at h1
    exact h1
  · rw [List.pairwise_map, List.pairwise_iff_getElem]
    intro i j hi hj hij
    have hi' : i < d'.size := by simpa using hi
    have hj' : j < d'.size := by simpa using hj
    have := of_decide_eq_false (hso i j (by omega) hij (by rw [← hdl]; exact hj'))
    unfold cfR at this
    rw [getElem!_pos d' i hi', getElem!_pos d' j hj'] at this
    simpa using this

end Go.Proofs.Ytgalbokmgffhkaa

/- The program's sort of lists, where there are none. -/
namespace Go.Proofs.Ytgalbokmgffhkaa
open Go.Lf Go.RowKit Go.Wg Go.Shelf Go.Proofs

theorem sortR0_calls {base : Nat} {v : Value} {w : World} (fv : Value) (h : IRows base w v []) : Calls Try.prog 84 #[v, fv] w fun e w' => e = .returned (.tuple #[]) ∧ w' = w := by
  obtain ⟨vs, h1, h2, _⟩ := h
  obtain ⟨a, cap, e, _⟩ := h1.len
  rw [h2] at e
  subst e
  have hcon := AnyF.slices_SortFunc_none (ρ := sortR_ren) { sortR with } a cap fv w
  change Calls Try.prog 84 _ _ _ at hcon
  exact hcon

/-- Reading stays while other blocks turn (none at all are read where there is nothing). -/
theorem Rd.chg0 {α : Type} {m : Nat} {enc : α → List Value} {S : Nat → Prop} {w w' : World} {v : Value} {l : List α} (h : Rd m enc w v l) (hc : Chg S w w') (hs : 0 < l.length → ∀ b off n cap, v = .slice (some ⟨b, off, none⟩) n cap → ¬ S b) : Rd m enc w' v l := by
  obtain ⟨a, cap, rfl, hl, hh⟩ := h
  refine ⟨a, cap, rfl, hl, fun h0 => ?_⟩
  obtain ⟨b, off, rfl, hcell⟩ := hh h0
  exact ⟨b, off, rfl, fun i x hi j u hu => hc.cell (hcell i x hi j u hu) (hs h0 _ _ _ _ rfl)⟩

end Go.Proofs.Ytgalbokmgffhkaa

/- Contract: Refute of the program. -/
namespace Go.Proofs.Ytgalbokmgffhkaa
open Go.Lf Go.RowKit Go.Wg

/-- The list that Refute returns, where nothing is alive. -/
def RefuteOut (L : List Line) (a h : Nat) (out : List (List Int)) : Prop :=
  ∃ (kO : Nat → Nat) (new : List Nat), (∀ i, i < 8 ^ a → 1 ≤ kO i ∧ kO i ≤ h ∧ (alvL L (8 ^ a) (kO i)).getD i false = false ∧ ∀ j, 1 ≤ j → j < kO i → (alvL L (8 ^ a) j).getD i false = true) ∧
    out.Perm (new.map (rowOf kO a)) ∧ out.Pairwise (fun x y => ¬ cmpL y x < 0) ∧ new.Nodup ∧ (∀ x ∈ L, x.2.2.1.toNat ∈ new) ∧ (∀ i ∈ new, ∀ s ∈ grpL L (i : Nat), s.toNat ∈ new) ∧ ∀ i ∈ new, ∃ x ∈ L, x.2.2.1 = (i : Nat)

def RefutePost (l : List Tile) (a b : Int) (base : Nat) (w' : World) (e : Ending) : Prop :=
  (ordErr l a b ≠ 0 ∧ e = .returned (.tuple #[nilS, .int .i64 2])) ∨ (ordErr l a b = 0 ∧ (alvL (linesL l a.toNat) (8 ^ a.toNat) b.toNat).any id = true ∧ e = .returned (.tuple #[nilS, .int .i64 10])) ∨
    (ordErr l a b = 0 ∧ (alvL (linesL l a.toNat) (8 ^ a.toNat) b.toNat).any id = false ∧ ∃ ov out, e = .returned (.tuple #[ov, .int .i64 0]) ∧ IRows base w' ov out ∧ RefuteOut (linesL l a.toNat) a.toNat b.toNat out)

theorem height_of {L : List Line} {N h i : Nat} (hi : i < N) (hd : (alvL L N h).any id = false) : ∃ k, 1 ≤ k ∧ k ≤ h ∧ (alvL L N k).getD i false = false ∧ ∀ j, 1 ≤ j → j < k → (alvL L N j).getD i false = true := by
  have hh : (alvL L N h).getD i false = false := by
    cases hg : (alvL L N h).getD i false with
    | false => rfl
    | true =>
      have hl := alvL_len L N h
      have : (alvL L N h).any id = true := List.any_eq_true.2 ⟨true, by rw [← hg]; exact getD_mem (by omega), rfl⟩
      rw [this] at hd; cases hd
  have h1 : 1 ≤ h := by
    refine Nat.pos_of_ne_zero fun e => ?_
    subst e
    simp [alvL, List.getD_eq_getElem?_getD, hi] at hh
  -- the least one
  have key : ∀ d, d < h → (∀ j, 1 ≤ j → j < d + 1 → (alvL L N j).getD i false = true) ∨ ∃ k, 1 ≤ k ∧ k ≤ h ∧ (alvL L N k).getD i false = false ∧ ∀ j, 1 ≤ j → j < k → (alvL L N j).getD i false = true := by
    intro d
    induction d with
    | zero => intro _; exact .inl fun j h1 h2 => absurd h1 (by omega)
    | succ d ih =>
      intro hd'
      rcases ih (by omega) with h | h
      · cases hg : (alvL L N (d + 1)).getD i false with
        | true =>
          refine .inl fun j h1 h2 => ?_
          by_cases e : j = d + 1
          · rw [e]; exact hg
          · exact h j h1 (by omega)
        | false => exact .inr ⟨d + 1, by omega, by omega, hg, h⟩
      · exact .inr h
  rcases key (h - 1) (by omega) with hk | hk
  · exact ⟨h, h1, Nat.le_refl _, hh, fun j h1 h2 => hk j h1 (by omega)⟩
  · exact hk

theorem fok84' : fnOk Try.prog 84 = true := by kernel_rfl
theorem IRows.down {base base' : Nat} {w : World} {v : Value} {R : List (List Int)} (h : IRows base w v R) (hb : base' ≤ base) : IRows base' w v R :=
  let ⟨vs, h1, h2, h3⟩ := h; ⟨vs, h1.down hb, h2, fun i u r hu hr => (h3 i u r hu hr).down hb⟩

theorem BRows.chg' {S : Nat → Prop} {base : Nat} {w w' : World} {v : Value} {R : List (List Bool)} (h : BRows base w v R) (hc : Chg S w w') (hs : ∀ k, (∃ e cur, w.heap[k]? = some (.cells cur e (0, 0))) → ¬ S k) : BRows base w' v R :=
  let ⟨vs, h1, h2, h3⟩ := h; ⟨vs, h1.chg hc fun k hk => hs k (let ⟨cur, hcur⟩ := own_type h1 hk; ⟨_, cur, hcur⟩), h2, fun i u r hu hr => (h3 i u r hu hr).chg hc fun k hk => hs k (let ⟨cur, hcur⟩ := own_type (h3 i u r hu hr) hk; ⟨_, cur, hcur⟩)⟩

set_option maxRecDepth 100000 in
set_option maxHeartbeats 1000000 in
theorem refute_calls {v : Value} {l : List Tile} (a b : Int) (w : World) (hr : RdT w v l) : Calls Try.prog 32 #[v, .int .i64 a, .int .i64 b] w fun e w' => Kp w w' ∧ RefutePost l a b w.heap.size w' e := by
  refine lift32 ?_
  unfold S32
  refine r_box fun b4 w1 e4 s4 h4 k1 => ?_
  have c4 : w1.cell? ⟨b4, 0, none⟩ = some (.int .i64 a) := by rw [cell_row h4]; rfl
  rw [r_ld c4]
  refine r_use fok53 (board_calls a b w1 (hr.kp k1)) rfl ?_
  rintro _ w2 ⟨rfl, k2⟩
  refine ⟨_, rfl, ?_⟩
  have k02 := Kp.trans k1 k2
  have h20 : ¬ ((2 : Int) = 0) := by decide
  rcases ordErr_cases l a b with he | he
  rotate_left
  · simp (disch := omega) only [r_ln, r_pick, r_pickT, r_pickF, r_condT, r_condF, r_gdTT, r_gdFF, r_gdTF, r_gdFT, r_gqTT, r_gqFF, r_gqTF, r_gqFT, r_not, r_lss, r_leq, r_gtr, r_geq, r_eql, r_neq, r_add, r_sub, r_min2, r_max2, r_min3, r_max3, r_fa, r_iaS, r_iaA, r_ex2a, r_ex2b, r_ex3a, r_ex3b, r_ex3c, r_nc, r_keepE, Nat.zero_add, Nat.add_zero, Nat.mul_one, Int.toNat_natCast, toNat_sub1, toNat_add1, decide_true, decide_false, Bool.not_true, Bool.not_false, if_true, if_false, Bool.false_eq_true, reduceCtorEq, he, h20]
    exact ⟨k02, .inl ⟨by rw [he]; decide, rfl⟩⟩
  obtain ⟨hs, W, H, rfl, rfl, hW, hH⟩ := ord_ok he
  have h42 := block_below h4 k2
  have c42 := cell_later k2 c4
  simp (disch := omega) only [r_ln, r_pick, r_pickT, r_pickF, r_condT, r_condF, r_gdTT, r_gdFF, r_gdTF, r_gdFT, r_gqTT, r_gqFF, r_gqTF, r_gqFT, r_not, r_lss, r_leq, r_gtr, r_geq, r_eql, r_neq, r_add, r_sub, r_min2, r_max2, r_min3, r_max3, r_fa, r_iaS, r_iaA, r_ex2a, r_ex2b, r_ex3a, r_ex3b, r_ex3c, r_nc, r_keepE, Nat.zero_add, Nat.add_zero, Nat.mul_one, Int.toNat_natCast, toNat_sub1, toNat_add1, decide_true, decide_false, Bool.not_true, Bool.not_false, if_true, if_false, Bool.false_eq_true, reduceCtorEq, he, decide_eq_true (rfl : (0 : Int) = 0), r_ld c42]
  refine r_use fok59 (rows_calls hs hW w2 (hr.kp k02)) rfl ?_
  rintro _ w3 ⟨lv, rfl, k3, hL⟩
  refine ⟨_, rfl, ?_⟩
  change LnAt _ _ _ (linesL l W) at hL
  have hlo := lines_ok hs hW.2
  have hll := lines_len hs hW.2
  have hrdL := hL.rd lnC_len
  have c43 := cell_later k3 c42
  rw [r_ld c43]
  refine r_use fok76 (alive_calls (h := H) w3 hW (by omega) hrdL hlo (by omega)) rfl ?_
  rintro _ w4 ⟨av, rfl, k4, hA⟩
  refine ⟨_, rfl, ?_⟩
  obtain ⟨aa, acap, rfl, hac⟩ := hA.len
  refine r_box fun b10 w5 e10 s10 h10 k5 => ?_
  refine r_stAll (n := 1) (ty := 88) (cs := #[nilS]) (by kernel_rfl) rfl (by intro u hu; simp [Value.cells] at hu; subst hu; rfl) h10 rfl fun w6 c6 s6 h106 => ?_
  have k46 : Kp w4 w6 := Kp.of_chg k5 c6 fun i e => by omega
  have k06 := Kp.trans k02 (Kp.trans k3 (Kp.trans k4 k46))
  have hpl := alvL_len (linesL l W) (8 ^ W) H
  obtain ⟨ob, oo, _, u, eo, ocell, hu⟩ := (hA.kp k46).row (i := H) (r := alvL (linesL l W) (8 ^ W) H) (by rw [List.getElem?_map, List.getElem?_range (by omega)]; rfl)
  cases eo
  have c10 : w6.cell? ⟨b10, 0, none⟩ = some (.slice (some ⟨ob, oo, none⟩) ((List.range (H + 1)).map (alvL (linesL l W) (8 ^ W))).length acap) := by rw [cell_row h106]; rfl
  have hrl : ((List.range (H + 1)).map (alvL (linesL l W) (8 ^ W))).length = H + 1 := by simp
  rw [hrl] at c10
  have h8 := pow8N_le hW.2
  simp (disch := omega) only [r_ln, r_pick, r_pickT, r_pickF, r_condT, r_condF, r_gdTT, r_gdFF, r_gdTF, r_gdFT, r_gqTT, r_gqFF, r_gqTF, r_gqFT, r_not, r_lss, r_leq, r_gtr, r_geq, r_eql, r_neq, r_add, r_sub, r_min2, r_max2, r_min3, r_max3, r_fa, r_iaS, r_iaA, r_ex2a, r_ex2b, r_ex3a, r_ex3b, r_ex3c, r_nc, r_keepE, Nat.zero_add, Nat.add_zero, Nat.mul_one, Int.toNat_natCast, toNat_sub1, toNat_add1, decide_true, decide_false, Bool.not_true, Bool.not_false, if_true, if_false, Bool.false_eq_true, reduceCtorEq, r_ld c10, r_ld ocell]
  refine r_use fok81 (containsB_calls w6 (hu.rd bC_len) (by omega)) rfl ?_
  rintro _ w7 ⟨rfl, k7⟩
  refine ⟨_, rfl, ?_⟩
  have k07 := Kp.trans k06 k7
  cases hany : (alvL (linesL l W) (8 ^ W) H).any id with
  | true =>
    simp (disch := omega) only [r_ln, r_pick, r_pickT, r_pickF, r_condT, r_condF, r_gdTT, r_gdFF, r_gdTF, r_gdFT, r_gqTT, r_gqFF, r_gqTF, r_gqFT, r_not, r_lss, r_leq, r_gtr, r_geq, r_eql, r_neq, r_add, r_sub, r_min2, r_max2, r_min3, r_max3, r_fa, r_iaS, r_iaA, r_ex2a, r_ex2b, r_ex3a, r_ex3b, r_ex3c, r_nc, r_keepE, Nat.zero_add, Nat.add_zero, Nat.mul_one, Int.toNat_natCast, toNat_sub1, toNat_add1, decide_true, decide_false, Bool.not_true, Bool.not_false, if_true, if_false, Bool.false_eq_true, reduceCtorEq]
    exact ⟨k07, .inr (.inl ⟨he, hany, rfl⟩)⟩
  | false =>
  have hkO : ∃ kO : Nat → Nat, ∀ i, i < 8 ^ W → 1 ≤ kO i ∧ kO i ≤ H ∧ (alvL (linesL l W) (8 ^ W) (kO i)).getD i false = false ∧ ∀ j, 1 ≤ j → j < kO i → (alvL (linesL l W) (8 ^ W) j).getD i false = true :=
    ⟨fun i => if hi : i < 8 ^ W then Classical.choose (height_of hi hany) else 0, fun i hi => by
      simp only [hi, dif_pos]
      exact Classical.choose_spec (height_of hi hany)⟩
  obtain ⟨kO, hkO⟩ := hkO
  have outP : ∀ (w' : World) (ov : Value) (out : List (List Int)), IRows w.heap.size w' ov out → RefuteOut (linesL l W) W H out → RefutePost l W H w.heap.size w' (.returned (.tuple #[ov, .int .i64 0])) := fun w' ov out q1 q2 => .inr (.inr ⟨he, hany, ov, out, rfl, q1, q2⟩)
  simp (disch := omega) only [r_ln, r_pick, r_pickT, r_pickF, r_condT, r_condF, r_gdTT, r_gdFF, r_gdTF, r_gdFT, r_gqTT, r_gqFF, r_gqTF, r_gqFT, r_not, r_lss, r_leq, r_gtr, r_geq, r_eql, r_neq, r_add, r_sub, r_min2, r_max2, r_min3, r_max3, r_fa, r_iaS, r_iaA, r_ex2a, r_ex2b, r_ex3a, r_ex3b, r_ex3c, r_nc, r_keepE, Nat.zero_add, Nat.add_zero, Nat.mul_one, Int.toNat_natCast, toNat_sub1, toNat_add1, decide_true, decide_false, Bool.not_true, Bool.not_false, if_true, if_false, Bool.false_eq_true, reduceCtorEq]
  have h107 := block_below h106 k7
  have h47 := block_below h42 (Kp.trans k3 (Kp.trans k4 (Kp.trans k46 k7)))
  have hrd7 := hrdL.kp (Kp.trans k4 (Kp.trans k46 k7))
  have hA7 := hA.kp (Kp.trans k46 k7)
  generalize linesL l W = L at *
  refine r_box fun b11 w8 e11 s11 h11 k8 => ?_
  simp only [mmW]
  have mg := map_new w8 nilS
  have kg : Kp w8 (w8.alloc (.map #[] 0)) := below_alloc _
  have sg : (w8.alloc (.map #[] 0)).heap.size = w8.heap.size + 1 := by show (w8.heap.push _).size = _; simp
  generalize hbm : w8.heap.size = bm at *
  generalize w8.alloc (.map #[] 0) = w9 at *
  refine r_box fun b12 x1 e12 s12 h12 y1 => ?_
  refine r_stAll (n := 1) (ty := 75) (cs := #[.map none]) (by kernel_rfl) rfl (by intro u hu; simp [Value.cells] at hu; subst hu; rfl) h12 rfl fun x2 d2 s2 h122 => ?_
  have y2 : Kp w9 x2 := Kp.of_chg y1 d2 fun i e => by omega
  have k79 : Kp w7 x2 := Kp.trans k8 (Kp.trans kg y2)
  obtain ⟨la, lcap, rfl, hlc⟩ := hrdL.len
  have ikey : ∀ x ∈ L, IKey x.2.1 ∧ IKey x.2.2.1 := fun x hx => by
    obtain ⟨⟨x1, x2⟩, x3, x4⟩ := hlo x hx
    have e8 : ((8 ^ W : Nat) : Int) ≤ 4096 := by exact_mod_cast h8
    exact ⟨⟨by omega, by omega⟩, by omega, by omega⟩
  have sx2 := y2.size
  simp only [r_ln, r_pick, r_pickT, r_pickF, r_condT, r_condF, r_gdTT, r_gdFF, r_gdTF, r_gdFT, r_gqTT, r_gqFF, r_gqTF, r_gqFT, r_not, r_lss, r_leq, r_gtr, r_geq, r_eql, r_neq, r_add, r_sub, r_min2, r_max2, r_min3, r_max3, r_fa, r_iaS, r_iaA, r_ex2a, r_ex2b, r_ex3a, r_ex3b, r_ex3c, r_nc, r_keepE, Nat.zero_add, Nat.add_zero, Nat.mul_one, Int.toNat_natCast, toNat_sub1, toNat_add1, decide_true, decide_false, Bool.not_true, Bool.not_false, if_true, if_false, Bool.false_eq_true, reduceCtorEq]
  refine ⟨fun t41 wq => ∃ q : Nat, q ≤ L.length ∧ t41 = .int .i64 q ∧ GrpAt x2.heap.size wq bm (grpL (L.take q)) ∧ Chg (fun k => k = bm) x2 wq, fun t41 _ => L.length - (intOf t41).toNat,
    ⟨0, by omega, rfl, ⟨_, mg.kp y2, fun c => by simp only [grpL, List.take_zero, List.filter_nil, List.map_nil]; exact RecAt.nil, fun c c' _ k h => by cases h⟩, Chg.refl _ _⟩, ?_⟩
  rintro _ _ wq ⟨q, hq, rfl, hgq, cq⟩
  have sq := cq.size
  have kwq : Kp w wq := Kp.of_chg (Kp.trans k07 k79) cq fun k e => by have := k07.size; have := k8.size; omega
  have h12q : wq.heap[b12]? = some (.cells #[.map (some bm)] 75 (0, 0)) := cq.at h122 (by omega)
  have hrdq : RdL wq (.slice la L.length lcap) L := (hrd7.kp k79).chg0 cq fun hL0 b off n cap e => by
    have := (hrd7.kp (Kp.trans k8 kg)).block (fun x => by rw [lnC_len]; omega) e hL0
    have hb7 := hrd7.block (fun x => by rw [lnC_len]; omega) e hL0
    have := k8.size
    omega
  by_cases hql : q < L.length
  case neg =>
    have hql' : ¬ (q : Int) < (L.length : Int) := by omega
    rw [List.take_of_length_le (by omega)] at hgq
    have h4q : wq.heap[b4]? = some (.cells #[.int .i64 W] 3 (0, 0)) := cq.at (block_below h47 k79) (by have := block_lt h47; have := k8.size; omega)
    have h10q : wq.heap[b10]? = some (.cells #[.slice (some ⟨ob, oo, none⟩) ((List.range (H + 1)).map (alvL L (8 ^ W))).length acap] 88 (0, 0)) := cq.at (block_below h107 k79) (by have := block_lt h107; have := k8.size; omega)
    have h11q : wq.heap[b11]? = some (.cells #[nilS] 23 (0, 0)) := cq.at (block_below h11 (Kp.trans kg y2)) (by omega)
    have c4q : wq.cell? ⟨b4, 0, none⟩ = some (.int .i64 W) := by rw [cell_row h4q]; rfl
    have hAq := BRows.chg' (hA7.kp k79) cq fun k hk e => by
      obtain ⟨e', cur, hcur⟩ := hk
      obtain ⟨_, _, hbk, _⟩ := mg.kp y2
      rw [e, hbk] at hcur
      cases hcur
    have hmq : GrpAt x2.heap.size wq bm (grpL L) := hgq
    simp (disch := omega) only [r_ln, r_pick, r_pickT, r_pickF, r_condT, r_condF, r_gdTT, r_gdFF, r_gdTF, r_gdFT, r_gqTT, r_gqFF, r_gqTF, r_gqFT, r_not, r_lss, r_leq, r_gtr, r_geq, r_eql, r_neq, r_add, r_sub, r_min2, r_max2, r_min3, r_max3, r_fa, r_iaS, r_iaA, r_ex2a, r_ex2b, r_ex3a, r_ex3b, r_ex3c, r_nc, r_keepE, Nat.zero_add, Nat.add_zero, Nat.mul_one, Int.toNat_natCast, toNat_sub1, toNat_add1, decide_true, decide_false, Bool.not_true, Bool.not_false, if_true, if_false, Bool.false_eq_true, reduceCtorEq, hql', r_ld c4q]
    refine r_use fok73 (codes_calls wq hW.2) rfl ?_
    rintro _ _ ⟨rfl, rfl⟩
    refine ⟨_, rfl, ?_⟩
    refine mk91 (by omega) fun nv z1 hnv kz1 hnvb => ?_
    obtain ⟨na, ncap, rfl, _⟩ := hnv.len
    refine r_box fun b15 z2 e15 s15 h15 kz2 => ?_
    refine r_stAll (n := 1) (ty := 91) (cs := #[nilS]) (by kernel_rfl) rfl (by intro u hu; simp [Value.cells] at hu; subst hu; rfl) h15 rfl fun z3 d3 t3 h153 => ?_
    have kz3 : Kp z1 z3 := Kp.of_chg kz2 d3 fun i e => by omega
    refine r_box fun b16 z4 e16 s16 h16 kz4 => ?_
    refine r_stAll (n := 1) (ty := 96) (cs := #[.nilFunc]) (by kernel_rfl) rfl (by intro u hu; simp [Value.cells] at hu; subst hu; rfl) h16 rfl fun z5 d5 t5 h165 => ?_
    have kz5 : Kp z3 z5 := Kp.of_chg kz4 d5 fun i e => by omega
    have kq5 : Kp wq z5 := Kp.trans kz1 (Kp.trans kz3 kz5)
    have sz1 := kz1.size
    have szz3 := kz3.size
    have b11q := block_lt h11q
    have sk8 := k8.size
    have C : NmCtx L W H (8 ^ W) kO wq b15 b10 b11 b4 b12 b16 bm w3.heap.size (.slice na (List.replicate (8 ^ W) false).length ncap) (.slice (some ⟨ob, oo, none⟩) ((List.range (H + 1)).map (alvL L (8 ^ W))).length acap) :=
      ⟨hW, rfl, hlo, hll, by omega, h4q, h10q, hAq, h12q, ⟨_, hmq⟩, by have := block_lt h47; omega, by have := block_lt h107; omega, by omega, by omega, ⟨_, h11q⟩, hkO⟩
    have hrepl : ∀ i, (List.replicate (8 ^ W) false).getD i false = false := fun i => by
      rw [List.getD_eq_getElem?_getD, List.getElem?_replicate]
      split <;> rfl
    have S0 : NmSt L W (8 ^ W) kO wq b15 b10 b11 b4 b12 b16 (.slice na (List.replicate (8 ^ W) false).length ncap) z5 (List.replicate (8 ^ W) false) nilS [] :=
      ⟨Chg.of_kp kq5, d5.at (block_below h153 kz4) (by have := block_lt h153; omega), h165, hnv.kp (Kp.trans kz3 kz5), List.length_replicate, block_below h11q kq5, ⟨[], RecAt.nil, rfl, fun i u r h => by simp at h⟩, by omega, by have := kz3.size; omega⟩
    try simp only [r_ln, r_pick, r_pickT, r_pickF, r_condT, r_condF, r_gdTT, r_gdFF, r_gdTF, r_gdFT, r_gqTT, r_gqFF, r_gqTF, r_gqFT, r_not, r_lss, r_leq, r_gtr, r_geq, r_eql, r_neq, r_add, r_sub, r_min2, r_max2, r_min3, r_max3, r_fa, r_iaS, r_iaA, r_ex2a, r_ex2b, r_ex3a, r_ex3b, r_ex3c, r_nc, r_keepE, Nat.zero_add, Nat.add_zero, Nat.mul_one, Int.toNat_natCast, toNat_sub1, toNat_add1, decide_true, decide_false, Bool.not_true, Bool.not_false, if_true, if_false, Bool.false_eq_true, reduceCtorEq]
    have hnF0 : nF (List.replicate (8 ^ W) false) = 8 ^ W := by
      unfold nF
      rw [List.countP_eq_length.2 (fun b hb => by rw [List.eq_of_mem_replicate hb]; rfl), List.length_replicate]
    refine ⟨fun t63 wr => ∃ (i : Nat) (nm : List Bool) (ov : Value) (new : List Nat), i ≤ L.length ∧ t63 = .int .i64 i ∧ NmSt L W (8 ^ W) kO wq b15 b10 b11 b4 b12 b16 (.slice na (List.replicate (8 ^ W) false).length ncap) wr nm ov (new.map (rowOf kO W)) ∧
        new.Nodup ∧ (∀ j, j ∈ new ↔ nm.getD j false = true) ∧ (∀ j ∈ new, ∃ x ∈ L, x.2.2.1 = (j : Nat)) ∧ (∀ j ∈ new, ∀ s ∈ grpL L (j : Nat), nm.getD s.toNat false = true) ∧ (∀ x ∈ L.take i, nm.getD x.2.2.1.toNat false = true) ∧ new.length + nF nm ≤ 8 ^ W, fun t63 _ => L.length - (intOf t63).toNat,
      ⟨0, _, nilS, [], by omega, rfl, S0, List.nodup_nil, fun j => by rw [hrepl]; simp, by simp, by simp, by simp, by rw [hnF0]; simp⟩, ?_⟩
    rintro _ _ wr ⟨i, nm, ov, new, hi, rfl, S, hnd, hiff, hsrc, hsucc, hfst, hcnt⟩
    have kwr : Kp w wr := Kp.of_chg kwq S.c0 fun k e => by have := k07.size; omega
    by_cases hil : i < L.length
    case neg =>
      have hil' : ¬ (i : Int) < (L.length : Int) := by omega
      rw [List.take_of_length_le (by omega)] at hfst
      have c11 : wr.cell? ⟨b11, 0, none⟩ = some ov := by rw [cell_row S.h11]; rfl
      have hall : ∀ x ∈ L, x.2.2.1.toNat ∈ new := fun x hx => (hiff _).2 (hfst x hx)
      by_cases hL0 : 0 < L.length
      case neg =>
        have hnew : new = [] := by
          cases new with
          | nil => rfl
          | cons j js =>
            obtain ⟨x, hx, _⟩ := hsrc j (by simp)
            exact absurd (List.length_pos_of_mem hx) hL0
        have hout0 : IRows wq.heap.size wr ov [] := by
          have := S.outs
          rw [hnew] at this
          exact this
        simp (disch := omega) only [r_ln, r_pick, r_pickT, r_pickF, r_condT, r_condF, r_gdTT, r_gdFF, r_gdTF, r_gdFT, r_gqTT, r_gqFF, r_gqTF, r_gqFT, r_not, r_lss, r_leq, r_gtr, r_geq, r_eql, r_neq, r_add, r_sub, r_min2, r_max2, r_min3, r_max3, r_fa, r_iaS, r_iaA, r_ex2a, r_ex2b, r_ex3a, r_ex3b, r_ex3c, r_nc, r_keepE, Nat.zero_add, Nat.add_zero, Nat.mul_one, Int.toNat_natCast, toNat_sub1, toNat_add1, decide_true, decide_false, Bool.not_true, Bool.not_false, if_true, if_false, Bool.false_eq_true, reduceCtorEq, hil', r_ld c11]
        refine r_use fok84' (sortR0_calls _ hout0) rfl ?_
        rintro _ w'' ⟨rfl, rfl⟩
        refine ⟨_, rfl, ?_⟩
        rw [r_ld c11]
        have swq := kwq.size
        exact ⟨kwr, outP _ ov [] (hout0.down swq) ⟨kO, [], hkO, List.Perm.refl _, List.Pairwise.nil, List.nodup_nil, fun x hx => absurd (List.length_pos_of_mem hx) hL0, by simp, by simp⟩⟩
      have hpos : 0 < (new.map (rowOf kO W)).length := by
        obtain ⟨x, hx⟩ : ∃ x, x ∈ L := ⟨L[0], List.getElem_mem hL0⟩
        rw [List.length_map]
        exact List.length_pos_of_mem (hall x hx)
      simp (disch := omega) only [r_ln, r_pick, r_pickT, r_pickF, r_condT, r_condF, r_gdTT, r_gdFF, r_gdTF, r_gdFT, r_gqTT, r_gqFF, r_gqTF, r_gqFT, r_not, r_lss, r_leq, r_gtr, r_geq, r_eql, r_neq, r_add, r_sub, r_min2, r_max2, r_min3, r_max3, r_fa, r_iaS, r_iaA, r_ex2a, r_ex2b, r_ex3a, r_ex3b, r_ex3c, r_nc, r_keepE, Nat.zero_add, Nat.add_zero, Nat.mul_one, Int.toNat_natCast, toNat_sub1, toNat_add1, decide_true, decide_false, Bool.not_true, Bool.not_false, if_true, if_false, Bool.false_eq_true, reduceCtorEq, hil', r_ld c11]
      refine r_use fok84' (sortR_calls S.outs hpos (by rw [List.length_map]; omega) fun r hr => by
        obtain ⟨j, _, rfl⟩ := List.mem_map.1 hr
        simp [rowOf, colsL_len]
        omega) rfl ?_
      rintro _ w'' ⟨rfl, out', hI, hperm, hsort, hch⟩
      refine ⟨_, rfl, ?_⟩
      obtain ⟨vs, o1, _, _⟩ := S.outs
      have h11'' : w''.heap[b11]? = some (.cells #[ov] 23 (0, 0)) := hch.at S.h11 fun hk => by
        obtain ⟨cur, hcur⟩ := own_type o1 hk
        rw [S.h11] at hcur
        cases hcur
      have c11'' : w''.cell? ⟨b11, 0, none⟩ = some ov := by rw [cell_row h11'']; rfl
      rw [r_ld c11'']
      have swq := kwq.size
      refine ⟨Kp.of_chg kwr hch fun k e => by have := (o1.lt e).1; omega, outP w'' ov out' (hI.down swq) ⟨kO, new, hkO, hperm, hsort, hnd, hall, fun j hj s hs => (hiff _).2 (hsucc j hj s hs), hsrc⟩⟩
    have hil' : (i : Int) < (L.length : Int) := by omega
    obtain ⟨x, hx⟩ : ∃ x, L[i]? = some x := ⟨_, List.getElem?_eq_getElem hil⟩
    have hxm := List.mem_of_getElem? hx
    have hL0 : 0 < L.length := by omega
    have hrdr : RdL wr (.slice la L.length lcap) L := hrdq.chg S.c0 fun b off n cap e => by
      have hb7 := hrd7.block (fun x => by rw [lnC_len]; omega) e hL0
      omega
    obtain ⟨lb, lo, lc, el, _, hld⟩ := RdL.line hrdr hx
    cases el
    simp (disch := omega) only [r_ln, r_pick, r_pickT, r_pickF, r_condT, r_condF, r_gdTT, r_gdFF, r_gdTF, r_gdFT, r_gqTT, r_gqFF, r_gqTF, r_gqFT, r_not, r_lss, r_leq, r_gtr, r_geq, r_eql, r_neq, r_add, r_sub, r_min2, r_max2, r_min3, r_max3, r_fa, r_iaS, r_iaA, r_ex2a, r_ex2b, r_ex3a, r_ex3b, r_ex3c, r_nc, r_keepE, Nat.zero_add, Nat.add_zero, Nat.mul_one, Int.toNat_natCast, toNat_sub1, toNat_add1, decide_true, decide_false, Bool.not_true, Bool.not_false, if_true, if_false, Bool.false_eq_true, reduceCtorEq, decide_eq_true hil', hld]
    refine r_box fun b18 u2 e18 s18 h18 v2 => ?_
    refine r_stAll (n := 7) (ty := 78) (by kernel_rfl) rfl (by intro u hu; simp [Value.cells] at hu; rcases hu with rfl | rfl | rfl | rfl | rfl | rfl | rfl <;> rfl) h18 rfl fun u3 c18 s18' h183 => ?_
    have v3 : Kp wr u3 := Kp.of_chg v2 c18 fun i e => by omega
    have S3 := S.kp v3
    have c16 : u3.cell? ⟨b16, 0, none⟩ = some (nameF b15 b10 b11 b4 b12 b16) := by rw [cell_row S3.h16]; rfl
    have c5 : u3.cell? ⟨b18, 5, none⟩ = some (.int .i64 x.2.2.1) := by rw [cell_row h183]; rfl
    obtain ⟨_, x3, x4⟩ := hlo x hxm
    have exs : x.2.2.1 = ((x.2.2.1.toNat : Nat) : Int) := by omega
    rw [exs] at c5
    simp only [r_ln, r_pick, r_pickT, r_pickF, r_condT, r_condF, r_gdTT, r_gdFF, r_gdTF, r_gdFT, r_gqTT, r_gqFF, r_gqTF, r_gqFT, r_not, r_lss, r_leq, r_gtr, r_geq, r_eql, r_neq, r_add, r_sub, r_min2, r_max2, r_min3, r_max3, r_fa, r_iaS, r_iaA, r_ex2a, r_ex2b, r_ex3a, r_ex3b, r_ex3c, r_nc, r_keepE, Nat.zero_add, Nat.add_zero, Nat.mul_one, Int.toNat_natCast, toNat_sub1, toNat_add1, decide_true, decide_false, Bool.not_true, Bool.not_false, if_true, if_false, Bool.false_eq_true, reduceCtorEq, r_ld c16, r_ld c5]
    refine r_use fok82 (name_calls C (nF nm) x.2.2.1.toNat u3 nm ov _ (Nat.le_refl _) (by omega) S3 (by rw [List.length_map]; omega)) rfl ?_
    rintro _ u4 ⟨rfl, nm9, ov9, new9, S9, m9, d9, nd9, if9, src9, suc9, cnt9⟩
    refine ⟨_, rfl, ?_⟩
    try simp (disch := omega) only [r_ln, r_pick, r_pickT, r_pickF, r_condT, r_condF, r_gdTT, r_gdFF, r_gdTF, r_gdFT, r_gqTT, r_gqFF, r_gqTF, r_gqFT, r_not, r_lss, r_leq, r_gtr, r_geq, r_eql, r_neq, r_add, r_sub, r_min2, r_max2, r_min3, r_max3, r_fa, r_iaS, r_iaA, r_ex2a, r_ex2b, r_ex3a, r_ex3b, r_ex3c, r_nc, r_keepE, Nat.zero_add, Nat.add_zero, Nat.mul_one, Int.toNat_natCast, toNat_sub1, toNat_add1, decide_true, decide_false, Bool.not_true, Bool.not_false, if_true, if_false, Bool.false_eq_true, reduceCtorEq]
    refine ⟨⟨i + 1, nm9, ov9, new ++ new9, by omega, by go_num, by rw [List.map_append]; exact S9, ?_, fun j => ?_, fun j hj => ?_, fun j hj => ?_, fun y hy => ?_, by simp; omega⟩, by simp only [intOf]; omega⟩
    · rw [List.nodup_append]
      refine ⟨hnd, nd9, fun j hj k hk e => ?_⟩
      subst e
      have h1 := (hiff j).1 hj
      have h2 := ((if9 j).1 hk).2
      rw [h1] at h2; cases h2
    · rw [List.mem_append, hiff j, if9 j]
      constructor
      · rintro (h | h)
        · exact m9 j h
        · exact h.1
      · intro h
        cases hn : nm.getD j false with
        | true => exact .inl rfl
        | false => exact .inr ⟨h, rfl⟩
    · rcases List.mem_append.1 hj with h | h
      · exact hsrc j h
      · rcases src9 j h with h | h
        · exact ⟨x, hxm, by rw [exs, h]⟩
        · exact h
    · rcases List.mem_append.1 hj with h | h
      · exact fun s hs => m9 _ (hsucc j h s hs)
      · exact suc9 j h
    · rw [List.take_add_one, hx] at hy
      rcases List.mem_append.1 hy with h | h
      · exact m9 _ (hfst y h)
      · simp at h
        rw [h]; exact d9
  have hql' : (q : Int) < (L.length : Int) := by omega
  obtain ⟨x, hx⟩ : ∃ x, L[q]? = some x := ⟨_, List.getElem?_eq_getElem hql⟩
  have hxm := List.mem_of_getElem? hx
  obtain ⟨lb, lo, lc, el, _, hld⟩ := RdL.line hrdq hx
  cases el
  simp (disch := omega) only [r_ln, r_pick, r_pickT, r_pickF, r_condT, r_condF, r_gdTT, r_gdFF, r_gdTF, r_gdFT, r_gqTT, r_gqFF, r_gqTF, r_gqFT, r_not, r_lss, r_leq, r_gtr, r_geq, r_eql, r_neq, r_add, r_sub, r_min2, r_max2, r_min3, r_max3, r_fa, r_iaS, r_iaA, r_ex2a, r_ex2b, r_ex3a, r_ex3b, r_ex3c, r_nc, r_keepE, Nat.zero_add, Nat.add_zero, Nat.mul_one, Int.toNat_natCast, toNat_sub1, toNat_add1, decide_true, decide_false, Bool.not_true, Bool.not_false, if_true, if_false, Bool.false_eq_true, reduceCtorEq, decide_eq_true hql', hld]
  refine r_box fun b14 z2 e14 s14 h14 v2 => ?_
  refine r_stAll (n := 7) (ty := 78) (by kernel_rfl) rfl (by intro u hu; simp [Value.cells] at hu; rcases hu with rfl | rfl | rfl | rfl | rfl | rfl | rfl <;> rfl) h14 rfl fun z3 c14 s14' h143 => ?_
  have v3 : Kp wq z3 := Kp.of_chg v2 c14 fun i e => by omega
  obtain ⟨ik1, ik2⟩ := ikey x hxm
  refine r_drew fun z4 v4 _ => ?_
  have v04 := Kp.trans v3 v4
  have h144 := block_below h143 v4
  have c4' : z4.cell? ⟨b14, 4, none⟩ = some (.int .i64 x.2.1) := by rw [cell_row h144]; rfl
  have c5' : z4.cell? ⟨b14, 5, none⟩ = some (.int .i64 x.2.2.1) := by rw [cell_row h144]; rfl
  have c12' : z4.cell? ⟨b12, 0, none⟩ = some (.map (some bm)) := by rw [cell_row (block_below h12q v04)]; rfl
  obtain ⟨f, hf1, hf2, hf3⟩ := hgq.kp v04
  have hfc := hf2 x.2.1
  have sv := v04.size
  have sz3 := v3.size
  have fb : ∀ c k, (f c).ownBlock = some k → x2.heap.size ≤ k ∧ k ≠ b14 := fun c k hk => by
    refine ⟨((hf2 c).lt hk).1, fun e => ?_⟩
    subst e
    obtain ⟨cur, hcur⟩ := own_type (hf2 c) hk
    rw [h144] at hcur
    injection hcur with hcur
    injection hcur with _ h3 _
    exact absurd h3 (by decide)
  have nb14 : ¬ (fun k => (f x.2.1).ownBlock = some k) b14 := fun h => (fb _ _ h).2 rfl
  have nbn : ¬ (fun k => (f x.2.1).ownBlock = some k) bm := fun h => by have := (fb _ _ h).1; omega
  have nb12 : ¬ (fun k => (f x.2.1).ownBlock = some k) b12 := fun h => by have := (fb _ _ h).1; have := block_lt h122; omega
  refine ⟨fun k => (f x.2.1).ownBlock = some k, ?_⟩
  simp only [r_ln, r_pick, r_pickT, r_pickF, r_condT, r_condF, r_gdTT, r_gdFF, r_gdTF, r_gdFT, r_gqTT, r_gqFF, r_gqTF, r_gqFT, r_not, r_lss, r_leq, r_gtr, r_geq, r_eql, r_neq, r_add, r_sub, r_min2, r_max2, r_min3, r_max3, r_fa, r_iaS, r_iaA, r_ex2a, r_ex2b, r_ex3a, r_ex3b, r_ex3c, r_nc, r_keepE, Nat.zero_add, Nat.add_zero, Nat.mul_one, Int.toNat_natCast, toNat_sub1, toNat_add1, decide_true, decide_false, Bool.not_true, Bool.not_false, if_true, if_false, Bool.false_eq_true, reduceCtorEq, r_tx, r_txl (X := fun k => (f x.2.1).ownBlock = some k) c12' nb12, r_txl (X := fun k => (f x.2.1).ownBlock = some k) c4' nb14]
  refine r_txG und75 zero30 hf1 ik1 nbn ?_
  simp only [r_ln, r_pick, r_pickT, r_pickF, r_condT, r_condF, r_gdTT, r_gdFF, r_gdTF, r_gdFT, r_gqTT, r_gqFF, r_gqTF, r_gqFT, r_not, r_lss, r_leq, r_gtr, r_geq, r_eql, r_neq, r_add, r_sub, r_min2, r_max2, r_min3, r_max3, r_fa, r_iaS, r_iaA, r_ex2a, r_ex2b, r_ex3a, r_ex3b, r_ex3c, r_nc, r_keepE, Nat.zero_add, Nat.add_zero, Nat.mul_one, Int.toNat_natCast, toNat_sub1, toNat_add1, decide_true, decide_false, Bool.not_true, Bool.not_false, if_true, if_false, Bool.false_eq_true, reduceCtorEq, r_tx, r_txl (X := fun k => (f x.2.1).ownBlock = some k) c5' nb14]
  rw [bs30]
  refine ⟨BX.of_below (below_alloc _), ?_⟩
  have y5 : Kp z4 (z4.alloc (.cells #[.int .i64 x.2.2.1] 3)) := below_alloc _
  have n5 := heap_alloc_new z4 (.cells #[.int .i64 x.2.2.1] 3)
  generalize z4.alloc (.cells #[.int .i64 x.2.2.1] 3) = z5 at *
  have sz5 := y5.size
  have hglen := grp_len (L.take q) x.2.1
  rw [List.length_take] at hglen
  dsimp only
  refine r_apAt (news := [.int .i64 x.2.2.1]) slt30 (owns_kp hfc y5) rfl (cells_at_row n5) (by intro u hu; simp at hu; subst hu; rfl) (by omega) (by omega) (by omega) fun v' z6 ho6 c6' hv6 => ?_
  refine ⟨BX.of_chg c6', ?_⟩
  have hm6 : MapF z6 bm nilS f := (hf1.kp y5).chg c6' nbn
  have hv6n : v' ≠ nilS := fun e => by
    rcases ho6.2 with ⟨_, h⟩ | ⟨g, cap, cur, h, _⟩
    · omega
    · rw [e] at h; cases h
  refine r_muF und75 zero30 hm6 ik1 hv6n fun z7 hm7 c7 s7 => ?_
  have s6' := c6'.size
  have fne : ∀ c k, c ≠ x.2.1 → (f c).ownBlock = some k → (f x.2.1).ownBlock ≠ some k := fun c k hc hk h => hf3 c x.2.1 hc k hk h
  try simp (disch := omega) only [r_ln, r_pick, r_pickT, r_pickF, r_condT, r_condF, r_gdTT, r_gdFF, r_gdTF, r_gdFT, r_gqTT, r_gqFF, r_gqTF, r_gqFT, r_not, r_lss, r_leq, r_gtr, r_geq, r_eql, r_neq, r_add, r_sub, r_min2, r_max2, r_min3, r_max3, r_fa, r_iaS, r_iaA, r_ex2a, r_ex2b, r_ex3a, r_ex3b, r_ex3c, r_nc, r_keepE, Nat.zero_add, Nat.add_zero, Nat.mul_one, Int.toNat_natCast, toNat_sub1, toNat_add1, decide_true, decide_false, Bool.not_true, Bool.not_false, if_true, if_false, Bool.false_eq_true, reduceCtorEq]
  refine ⟨⟨q + 1, by omega, by go_num, ⟨_, hm7, fun c => ?_, fun c c' hcc k hk hk' => ?_⟩, ?_⟩, by simp only [intOf]; omega⟩
  · rw [grp_take hx]
    by_cases hc : c = x.2.1
    · subst hc
      rw [upd_same, if_pos rfl]
      have : IntsAt x2.heap.size z6 v' (grpL (L.take q) x.2.1 ++ [x.2.2.1]) := by
        unfold IntsAt RecAt
        rw [recCells_append, List.length_append]
        exact ho6
      refine this.chg c7 fun k hk e => ?_
      rcases hv6 k hk with h | h
      · have := (fb _ _ h).1; omega
      · omega
    · rw [upd_ne hc, if_neg (fun e => hc e.symm), List.append_nil]
      refine (((hf2 c).kp y5).chg c6' fun k hk e => fne c k hc hk e).chg c7 fun k hk e => ?_
      have := (fb _ _ hk).1; omega
  · by_cases hc : c = x.2.1
    · subst hc
      have hc' : c' ≠ x.2.1 := fun e => hcc e.symm
      rw [upd_same] at hk
      rw [upd_ne hc'] at hk'
      rcases hv6 k hk with h | h
      · exact fne c' k hc' hk' h
      · have := ((hf2 c').lt hk').2; omega
    · rw [upd_ne hc] at hk
      by_cases hc' : c' = x.2.1
      · subst hc'
        rw [upd_same] at hk'
        rcases hv6 k hk' with h | h
        · exact fne c k hc hk h
        · have := ((hf2 c).lt hk).2; omega
      · rw [upd_ne hc'] at hk'
        exact hf3 c c' hcc k hk hk'
  · have t : Chg (fun k => k = bm ∨ x2.heap.size ≤ k) x2 z7 := (((cq.mono fun k _ e => .inl e).trans (Chg.of_kp (Kp.trans v04 y5))).trans (c6'.mono fun k _ e => .inr (fb _ _ e).1)).trans (c7.mono fun k _ e => .inl e)
    exact t.mono fun k hk e => by
      rcases e with e | e
      · exact e
      · omega

end Go.Proofs.Ytgalbokmgffhkaa
