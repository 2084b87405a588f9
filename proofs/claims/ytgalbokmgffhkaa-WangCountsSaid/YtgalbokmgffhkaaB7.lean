/- Contract: the program's sort of lists of numbers, by the shelf's contract of slices.SortFunc. -/
import Derived.Test.YtgalbokmgffhkaaB6
import Derived.Shelf.SlSortCmp.Whole1
set_option linter.all false
namespace Go.Proofs.Ytgalbokmgffhkaa
open Go.Lf Go.RowKit Go.Wg Go.Shelf Go.Proofs

def sortR_ren : Go.Shelf.Ren := ⟨fun | 6 => 84 | 15 => 110 | 14 => 109 | 28 => 129 | 29 => 130 | 20 => 121 | 21 => 122 | 22 => 123 | 23 => 124 | 24 => 125 | 25 => 126 | 26 => 127 | 27 => 128 | 46 => 141 | 47 => 142 | 48 => 143 | 49 => 144 | 50 => 145 | 57 => 149 | n => n, fun | 22 => 23 | 24 => 30 | 25 => 71 | 3 => 3 | 39 => 109 | 0 => 0 | 53 => 122 | 55 => 125 | 4 => 4 | 46 => 130 | 45 => 129 | 50 => 134 | 5 => 5 | 9 => 9 | 66 => 145 | 70 => 149 | 76 => 153 | 77 => 154 | n => n, fun | n => n⟩
set_option maxRecDepth 100000 in
theorem sortR : SlLaysF.n6 Try.prog sortR_ren :=
  { mixed := by kernel_rfl,
    f6 := ⟨Try.f84.name, by decide, Try.func84.trans (congrArg some (by kernel_rfl))⟩,
    f14 := ⟨Try.f109.name, by decide, Try.func109.trans (congrArg some (by kernel_rfl))⟩,
    f15 := Try.func110.trans (congrArg some (by kernel_rfl)),
    f20 := ⟨Try.f121.name, by decide, Try.func121.trans (congrArg some (by kernel_rfl))⟩,
    f21 := ⟨Try.f122.name, by decide, Try.func122.trans (congrArg some (by kernel_rfl))⟩,
    f22 := ⟨Try.f123.name, by decide, Try.func123.trans (congrArg some (by kernel_rfl))⟩,
    f23 := ⟨Try.f124.name, by decide, Try.func124.trans (congrArg some (by kernel_rfl))⟩,
    f24 := ⟨Try.f125.name, by decide, Try.func125.trans (congrArg some (by kernel_rfl))⟩,
    f25 := ⟨Try.f126.name, by decide, Try.func126.trans (congrArg some (by kernel_rfl))⟩,
    f26 := ⟨Try.f127.name, by decide, Try.func127.trans (congrArg some (by kernel_rfl))⟩,
    f27 := ⟨Try.f128.name, by decide, Try.func128.trans (congrArg some (by kernel_rfl))⟩,
    f28 := Try.func129.trans (congrArg some (by kernel_rfl)),
    f29 := Try.func130.trans (congrArg some (by kernel_rfl)),
    f46 := ⟨Try.f141.name, by decide, Try.func141.trans (congrArg some (by kernel_rfl))⟩,
    f47 := Try.func142.trans (congrArg some (by kernel_rfl)),
    f48 := Try.func143.trans (congrArg some (by kernel_rfl)),
    f49 := ⟨Try.f144.name, by decide, Try.func144.trans (congrArg some (by kernel_rfl))⟩,
    f50 := ⟨Try.f145.name, by decide, Try.func145.trans (congrArg some (by kernel_rfl))⟩,
    f57 := ⟨Try.f149.name, by decide, Try.func149.trans (congrArg some (by kernel_rfl))⟩,
    t0 := Try.underlying0,
    a0 := Try.isAgg0,
    z0 := Try.sizeOf0,
    v0 := Try.zeroValue0,
    t3 := Try.underlying3,
    a3 := Try.isAgg3,
    z3 := Try.sizeOf3,
    v3 := Try.zeroValue3,
    t4 := Try.underlying4,
    a4 := Try.isAgg4,
    z4 := Try.sizeOf4,
    v4 := Try.zeroValue4,
    t5 := Try.underlying5,
    a5 := Try.isAgg5,
    z5 := Try.sizeOf5,
    v5 := Try.zeroValue5,
    t9 := Try.underlying9,
    a9 := Try.isAgg9,
    z9 := Try.sizeOf9,
    v9 := Try.zeroValue9,
    t22 := Try.underlying23,
    a22 := Try.isAgg23,
    z22 := Try.sizeOf23,
    v22 := Try.zeroValue23,
    a24 := Try.isAgg30,
    z24 := Try.sizeOf30,
    t25 := Try.underlying71,
    a25 := Try.isAgg71,
    z25 := Try.sizeOf71,
    v25 := Try.zeroValue71,
    t39 := Try.underlying109,
    a39 := Try.isAgg109,
    z39 := Try.sizeOf109,
    v39 := Try.zeroValue109,
    t45 := Try.underlying129,
    a45 := Try.isAgg129,
    z45 := Try.sizeOf129,
    v45 := Try.zeroValue129,
    t46 := Try.underlying130,
    a46 := Try.isAgg130,
    z46 := Try.sizeOf130,
    v46 := Try.zeroValue130,
    t50 := Try.underlying134,
    a50 := Try.isAgg134,
    z50 := Try.sizeOf134,
    v50 := Try.zeroValue134,
    t53 := Try.underlying122,
    a53 := Try.isAgg122,
    z53 := Try.sizeOf122,
    v53 := Try.zeroValue122,
    t55 := Try.underlying125,
    a55 := Try.isAgg125,
    z55 := Try.sizeOf125,
    v55 := Try.zeroValue125,
    t66 := Try.underlying145,
    a66 := Try.isAgg145,
    z66 := Try.sizeOf145,
    v66 := Try.zeroValue145,
    t70 := Try.underlying149,
    a70 := Try.isAgg149,
    z70 := Try.sizeOf149,
    v70 := Try.zeroValue149,
    t76 := Try.underlying153,
    a76 := Try.isAgg153,
    z76 := Try.sizeOf153,
    v76 := Try.zeroValue153,
    t77 := Try.underlying154,
    a77 := Try.isAgg154,
    z77 := Try.sizeOf154,
    v77 := Try.zeroValue154 }

theorem cmpL_self : ∀ a, cmpL a a = 0
  | [] => rfl
  | x :: a => by simp [cmpL, cmpL_self a]
theorem cmpL_trans : ∀ a b c, cmpL a b < 0 → cmpL b c < 0 → cmpL a c < 0
  | [], b, [], h1, h2 => by cases b <;> simp [cmpL] at h1 h2
  | [], _, _ :: _, _, _ => by simp [cmpL]
  | _ :: _, [], _, h1, _ => by simp [cmpL] at h1
  | _ :: _, _ :: _, [], _, h2 => by simp [cmpL] at h2
  | x :: a, y :: b, z :: c, h1, h2 => by
    simp only [cmpL] at h1 h2 ⊢
    have ih := cmpL_trans a b c
    by_cases e1 : x < y
    · by_cases e2 : y < z
      · rw [if_pos (by omega)]; decide
      · by_cases e3 : z < y
        · rw [if_neg e2, if_pos e3] at h2; exact absurd h2 (by decide)
        · rw [if_pos (by omega)]; decide
    · by_cases e1' : y < x
      · rw [if_neg e1, if_pos e1'] at h1; exact absurd h1 (by decide)
      · rw [if_neg e1, if_neg e1'] at h1
        have exy : x = y := by omega
        subst exy
        by_cases e2 : x < z
        · rw [if_pos e2]; decide
        · by_cases e3 : z < x
          · rw [if_neg e2, if_pos e3] at h2; exact absurd h2 (by decide)
          · rw [if_neg e2, if_neg e3] at h2 ⊢
            exact ih h1 h2
theorem cmpL_ntrans : ∀ a b c, ¬ cmpL a b < 0 → ¬ cmpL b c < 0 → ¬ cmpL a c < 0
  | [], [], c, _, h2 => h2
  | [], _ :: _, _, h1, _ => by simp [cmpL] at h1
  | _ :: _, _, [], _, _ => by simp [cmpL]
  | _ :: _, [], _ :: _, _, h2 => by simp [cmpL] at h2
  | x :: a, y :: b, z :: c, h1, h2 => by
    simp only [cmpL] at h1 h2 ⊢
    have ih := cmpL_ntrans a b c
    by_cases e1 : x < y
    · rw [if_pos e1] at h1; exact absurd (by decide) h1
    · by_cases e2 : y < z
      · rw [if_pos e2] at h2; exact absurd (by decide) h2
      · by_cases e3 : z < x
        · rw [if_neg (by omega), if_pos e3]; decide
        · have e4 : x = y := by omega
          have e5 : y = z := by omega
          subst e4; subst e5
          rw [if_neg e1, if_neg e1] at h1
          rw [if_neg e1, if_neg e1] at h2
          rw [if_neg e1, if_neg e1]
          exact ih h1 h2

theorem chg_sort {α : Type} [Inhabited α] (enc : α → Value) (w : World) (g m : Nat) (d : Array α) (os : Array Obj) : Chg (fun k => k = g) w (sortWorld enc w g 0 m d os) := by
  refine ⟨rfl, rfl, rfl, ?_, fun k hk hn => ?_⟩
  · show _ ≤ ((w.heap.modify g _) ++ os).size
    simp
  · show ((w.heap.modify g _) ++ os)[k]? = _
    rw [Array.getElem?_append_left (by simpa using hk), Array.getElem?_modify, if_neg (fun e => hn e.symm)]

/-- The slice at a place, whatever the place. -/
def encR (vs : List Value) (i : Nat) : Value := if (vs.getD i nilS).oneCell' = true then vs.getD i nilS else nilS
def cfR (out : List (List Int)) (x y : Nat) : Int := cmpL (out.getD x []) (out.getD y [])

theorem swoR (out : List (List Int)) : Go.Sort.SWO (ltOf (cfR out)) := by
  refine ⟨fun x => ?_, fun x y z h1 h2 => ?_, fun x y z h1 h2 => ?_⟩
  · exact decide_eq_false (by rw [cfR, cmpL_self]; decide)
  · exact decide_eq_true (cmpL_trans _ _ _ (of_decide_eq_true h1) (of_decide_eq_true h2))
  · exact decide_eq_false (cmpL_ntrans _ _ _ (of_decide_eq_false h1) (of_decide_eq_false h2))

theorem ints_one {base : Nat} {w : World} {u : Value} {r : List Int} (h : IntsAt base w u r) : u.oneCell' = true := by
  obtain ⟨a, c, rfl, _⟩ := h.len
  rfl

set_option maxRecDepth 100000 in
set_option maxHeartbeats 800000 in
theorem sortR_calls {base : Nat} {v : Value} {out : List (List Int)} {w : World} (h : IRows base w v out) (h0 : 0 < out.length) (hn : out.length ≤ 100000) (hrow : ∀ r ∈ out, r.length ≤ 1000000) :
    Calls Try.prog 84 #[v, .func (.func 85) #[] #[]] w fun e w' => e = .returned (.tuple #[]) ∧ ∃ out', IRows base w' v out' ∧ out'.Perm out ∧ out'.Pairwise (fun x y => ¬ cmpL y x < 0) ∧ Chg (fun k => v.ownBlock = some k) w w' := by
  obtain ⟨vs, o1, o2, o3⟩ := h
  obtain ⟨g, cap, cur, rfl, hb, hg, hle, hm, hs, ht⟩ := o1.blk (by omega)
  have hvs : ∀ i, i < out.length → ∃ u, vs[i]? = some u ∧ encR vs i = u ∧ IntsAt base w u (out.getD i []) := fun i hi => by
    have e1 : vs[i]? = some (vs[i]'(by omega)) := List.getElem?_eq_getElem (by omega)
    have e2 : out[i]? = some (out.getD i []) := by rw [List.getElem?_eq_getElem hi, getD_lt _ _ _ hi]
    have hI := o3 i _ _ e1 e2
    refine ⟨_, e1, ?_, hI⟩
    unfold encR
    rw [getD_lt vs i nilS (by omega), if_pos (ints_one hI)]
  have hvs2 : ∀ i, ¬ i < out.length → encR vs i = nilS ∧ out.getD i [] = [] := fun i hi => by
    unfold encR
    rw [List.getD_eq_getElem?_getD, List.getElem?_eq_none (by omega), List.getD_eq_getElem?_getD, List.getElem?_eq_none (by omega)]
    exact ⟨rfl, rfl⟩
  have eg : ∀ args w, (callFunc 85 args).run Try.prog w = .ok (.enter 85 args) w := enters_of Try.func85 (by kernel_rfl) rfl
  have hrv : recCells vE vs = vs := by simp [recCells]
  have hcur : ∀ i, i < out.length → cur[i]? = some (encR vs i) := fun i hi => by
    obtain ⟨u, q1, q2, _⟩ := hvs i hi
    rw [← Array.getElem?_toList]
    have : cur.toList[i]? = vs[i]? := by
      rw [hrv, Nat.mul_one] at ht
      conv => rhs; rw [← ht]
      rw [List.getElem?_take, if_pos (by omega)]
    rw [this, q1, q2]
  have hd : ∀ j, j < (List.range out.length).toArray.size → (List.range out.length).toArray[j]! = j := fun j hj => by
    have hj' : j < out.length := by simpa using hj
    simp [hj']
  have hH : Go.Sort.Holds (encR vs) w g 0 (List.range out.length).toArray := by
    intro j hj
    have hj' : j < out.length := by simpa using hj
    rw [hd j hj, Nat.zero_add, cell_row hg, hcur j hj']
    exact ⟨rfl, frozen_row hg⟩
  have hsz : (List.range out.length).toArray.size = out.length := by simp
  have later : ∀ (m : Nat) (dk : Array Nat) (os : Array Obj) (i : Nat), RdInts (sortWorld (encR vs) w g 0 m dk os) (encR vs i) (out.getD i []) := fun m dk os i => by
    by_cases hi : i < out.length
    · obtain ⟨u, q1, q2, q3⟩ := hvs i hi
      rw [q2]
      have hne : ∀ k, u.ownBlock = some k → ¬ k = g := fun k hk e => rec_ne q3 o1 (by decide) k hk (by rw [e]; rfl)
      exact ((q3.chg (chg_sort _ _ _ _ _ _) hne).rd iC_len).ints (hrow _ (getD_mem hi))
    · obtain ⟨e1, e2⟩ := hvs2 i hi
      rw [e1, e2]
      exact ⟨none, 0, rfl, by simp, fun h => absurd h (by simp)⟩
  have hcmp : CmpLays1 Try.prog 85 #[] (encR vs) (cfR out) g 0 (List.range out.length).toArray.size w := by
    intro m os dk hdk x y
    have hc : Calls Try.prog 85 #[encR vs x, encR vs y] (sortWorld (encR vs) w g 0 m dk os) fun e w' => e = .returned (.int .i64 (cfR out x y)) ∧ sortWorld (encR vs) w g 0 m dk os = w' := by
      refine lift85 ?_
      unfold S85
      refine r_use fok57 (compare_calls _ (later m dk os x) (later m dk os y)) rfl ?_
      rintro _ _ ⟨rfl, rfl⟩
      exact ⟨_, rfl, rfl, rfl⟩
    refine Calls.mono (by simpa using hc) ?_
    rintro e w' ⟨rfl, rfl⟩
    exact ⟨rfl, 0, #[], by simp [Go.Sort.grow, World.drewN]⟩
  have hcon := Any.slices_SortFunc sortR (encR vs) (fun i => by unfold encR; split <;> first | assumption | rfl) (cfR out) (swoR out) 85 #[] g 0 cap (List.range out.length).toArray w eg hcmp hH (block_lt hg) (by simp; omega)
  rw [hsz] at hcon
  change Calls Try.prog 84 _ _ _ at hcon
  rw [o2]
  refine hcon.mono ?_
  rintro e w' ⟨rfl, d', n, os, hp, hso, rfl⟩
  have hvl : vs.length = out.length := o2
  have hdl : d'.size = out.length := by have := hp.1; simpa using this
  have hperm : d'.toList.Perm (List.range out.length) := by
    have := hp.2.2
    have e1 : d'.extract 0 out.length = d' := by rw [← hdl]; simp
    have e2 : (List.range out.length).toArray.extract 0 out.length = (List.range out.length).toArray := by
      have := Array.extract_size (xs := (List.range out.length).toArray)
      rw [hsz] at this
      exact this
    rw [e1, e2] at this
    simpa using this
  have hHd := holds_sortWorld (encR vs) w g 0 n (List.range out.length).toArray d' os (block_lt hg) hH (by rw [hdl]; simp)
  have hblk : (sortWorld (encR vs) w g 0 n d' os).heap[g]? = some (.cells (Go.Sort.putCells (encR vs) 0 d' cur) 30 (0, 0)) := by
    have hgl := block_lt hg
    show ((w.heap.modify g _) ++ os)[g]? = _
    rw [Array.getElem?_append_left (by simpa using hgl), Array.getElem?_modify, if_pos rfl, hg]
    rfl
  have hmem : ∀ i, i < d'.size → d'[i]! < out.length := fun i hi => by
    have : d'[i]! ∈ d'.toList := by rw [getElem!_pos d' i hi]; simp
    have := (hperm.mem_iff).1 this
    simpa using this
  have hcs := chg_sort (encR vs) w g n d' os
  refine ⟨rfl, d'.toList.map (fun i => out.getD i []), ⟨d'.toList.map (encR vs), ⟨?_, .inr ⟨g, cap, _, ?_, hb, hblk, ?_, hm, by simp [Go.Sort.putCells, hs], ?_⟩⟩, by simp, fun i u r hu hr => ?_⟩, ?_, ?_, hcs.mono fun k _ e => by rw [e]; rfl⟩
  · simp [recCells]
  · simp [hdl]
  · simp [hdl]; omega
  · have e1 : recCells vE (d'.toList.map (encR vs)) = d'.toList.map (encR vs) := by simp [recCells]
    rw [e1]
    apply List.ext_getElem?
    intro t
    rw [List.getElem?_take]
    by_cases hlt : t < d'.size
    · rw [if_pos (by simpa using hlt)]
      have := (hHd t hlt).1
      rw [Nat.zero_add, cell_row hblk] at this
      rw [Array.getElem?_toList, this]
      simp [hlt]
    · rw [if_neg (by simpa using hlt)]
      simp [Nat.le_of_not_lt hlt]
  · rw [List.getElem?_map] at hu hr
    cases hd' : d'.toList[i]? with
    | none => rw [hd'] at hu; cases hu
    | some k =>
      rw [hd'] at hu hr
      cases hu
      cases hr
      have hi : i < d'.size := by simpa using (List.getElem?_eq_some_iff.1 hd').1
      have hk : k = d'[i]! := by
        rw [getElem!_pos d' i hi]
        have := (List.getElem?_eq_some_iff.1 hd').2
        simpa using this.symm
      obtain ⟨u, q1, q2, q3⟩ := hvs k (by rw [hk]; exact hmem i hi)
      rw [q2]
      exact q3.chg hcs fun k' hk' e => rec_ne q3 o1 (by decide) k' hk' (by rw [e]; rfl)
  · have h1 := hperm.map (fun i => out.getD i [])
    have h2 : (List.range out.length).map (fun i => out.getD i []) = out := by
      refine List.ext_getElem (by simp) fun i h1 h2 => ?_
      simp [List.getD_eq_getElem?_getD, h2]
    rw [h2] at h1
    exact h1
  · rw [List.pairwise_map, List.pairwise_iff_getElem]
    intro i j hi hj hij
    have hi' : i < d'.size := by simpa using hi
    have hj' : j < d'.size := by simpa using hj
    have := of_decide_eq_false (hso i j (by omega) hij (by rw [← hdl]; exact hj'))
    unfold cfR at this
    rw [getElem!_pos d' i hi', getElem!_pos d' j hj'] at this
    simpa using this

end Go.Proofs.Ytgalbokmgffhkaa
