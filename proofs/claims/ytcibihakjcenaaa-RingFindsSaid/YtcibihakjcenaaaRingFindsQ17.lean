/- RingFinds: the words and contracts, part 17. -/
import Derived.Test.YtcibihakjcenaaaRingFindsQ1
import Derived.Test.YtcibihakjcenaaaRingFindsQ2
import Derived.Test.YtcibihakjcenaaaRingFindsQ3
import Derived.Test.YtcibihakjcenaaaRingFindsQ4
import Derived.Test.YtcibihakjcenaaaRingFindsQ5
import Derived.Test.YtcibihakjcenaaaRingFindsQ6
import Derived.Test.YtcibihakjcenaaaRingFindsQ7
import Derived.Test.YtcibihakjcenaaaRingFindsQ8
import Derived.Test.YtcibihakjcenaaaRingFindsQ9
import Derived.Test.YtcibihakjcenaaaRingFindsQ10
import Derived.Test.YtcibihakjcenaaaRingFindsQ11
import Derived.Test.YtcibihakjcenaaaRingFindsQ12
import Derived.Test.YtcibihakjcenaaaRingFindsQ13
import Derived.Test.YtcibihakjcenaaaRingFindsQ15
import Derived.WalkKit
import Derived.WalkLawsBesides
import Derived.WalkSpells
import Derived.Lib.Hide
import Derived.Laws.Rows
import Derived.Laws.AppendOwnNone
import Derived.Maps.AppendAt
import Derived.ProofKit
import Derived.Deep.Slices
import Derived.WideShapes
import Derived.RangeFuncNested
import Derived.RangeFuncBound
import Derived.RangeFuncCalls
import Derived.RangeFuncLeaves
import Derived.RangeFuncBox
import Derived.Shelf.Abstract
import Derived.Shelf.RegionOpen
import Derived.OwnWalkIn
import Derived.TacticsInMore
import Derived.LoopNIn
import Derived.LoopIn
import Derived.Lib.AppendZerosOnto
import Derived.Lib.SliceRun
import Derived.Lib.Walk
import Derived.Deep.LoopGhost
import Derived.Laws.CopyOwn
import Derived.Laws.CopyRow
import Derived.OrdersHeld
import Derived.Deep.QuietTactic
import Derived.BigQuiet
import Derived.StillTailTactics
import Derived.OpenShut
import Derived.Deep.DeepCutAuto
import Derived.Deep.RegionHeld
import Derived.Laws.MakeOwn
import Derived.KernelRfl
import Derived.BigFrameIn
import Derived.ShutString
import Derived.ChangeOld
import Derived.Below
import Derived.Shelf.SlSortCmp.SmallK
import Derived.Shelf.Small.Bits
namespace Go.Proofs.Ytcibihakjcenaaa
open Go.RowKit

/-- What stands in a slot. -/
def atU (d : DiskL) (p : Nat) : Option SupL := if errUr (readB d (p : Nat)) = 0 ∧ slotU (readU (readB d (p : Nat))).gen = p then some (readU (readB d (p : Nat))) else none
/-- All that stand, by their slots. -/
def standU (d : DiskL) (k : Nat) : List SupL := (List.range k).filterMap (atU d)
theorem atU_slot {d : DiskL} {p : Nat} {s : SupL} (h : atU d p = some s) : slotU s.gen = p := by
  unfold atU at h
  split at h
  · rename_i hc
    cases h
    exact hc.2
  · cases h
theorem standU_succ (d : DiskL) (k : Nat) : standU d (k + 1) = standU d k ++ (atU d k).toList := by
  unfold standU
  rw [List.range_succ, List.filterMap_append]
  cases h : atU d k <;> simp [h]
theorem standU_mem {d : DiskL} {k : Nat} {s : SupL} (h : s ∈ standU d k) : ∃ p, p < k ∧ atU d p = some s := by
  unfold standU at h
  obtain ⟨p, hp, he⟩ := List.mem_filterMap.1 h
  exact ⟨p, List.mem_range.1 hp, he⟩
theorem standU_ne (d : DiskL) : ∀ k, (standU d k).Pairwise fun a b => a.gen ≠ b.gen
  | 0 => List.Pairwise.nil
  | k + 1 => by
    rw [standU_succ]
    refine List.pairwise_append.2 ⟨standU_ne d k, ?_, fun a ha b hb e => ?_⟩
    · cases atU d k <;> simp
    · obtain ⟨p, hp, he⟩ := standU_mem ha
      have hb2 : atU d k = some b := by simpa using hb
      have h1 := atU_slot he
      have h2 := atU_slot hb2
      rw [e] at h1
      omega
/-- The newest first. -/
def newU (a b : SupL) : Bool := decide (b.gen.toNat ≤ a.gen.toNat)
def findU (d : DiskL) : List SupL := (standU d 4).mergeSort newU
theorem findU_perm (d : DiskL) : (findU d).Perm (standU d 4) := List.mergeSort_perm _ _
theorem findU_sorted (d : DiskL) : (findU d).Pairwise fun a b => newU a b = true := by
  refine List.pairwise_mergeSort ?_ ?_ _
  · intro a b c h1 h2
    unfold newU at *
    simp only [decide_eq_true_eq] at *
    omega
  · intro a b
    unfold newU
    simp only [Bool.or_eq_true, decide_eq_true_eq]
    omega
/-- Two lists of the same superblocks, the newest first, no two of one generation, are the same. -/
theorem new_unique {l m : List SupL} (hp : l.Perm m) (hl : l.Pairwise fun a b => newU a b = true) (hm : m.Pairwise fun a b => newU a b = true) (hn : m.Pairwise fun a b => a.gen ≠ b.gen) : l = m := by
  refine List.Perm.eq_of_pairwise (le := fun a b => newU a b = true) (fun a b ha hb h1 h2 => ?_) hl hm hp
  unfold newU at h1 h2
  simp only [decide_eq_true_eq] at h1 h2
  have hg : a.gen = b.gen := UInt32.toNat_inj.1 (by omega)
  obtain ⟨i, hi, rfl⟩ := List.mem_iff_getElem.1 (hp.mem_iff.1 ha)
  obtain ⟨j, hj, rfl⟩ := List.mem_iff_getElem.1 hb
  rcases Nat.lt_trichotomy i j with h | h | h
  · exact absurd hg (List.pairwise_iff_getElem.1 hn i j hi hj h)
  · subst h; rfl
  · exact absurd hg.symm (List.pairwise_iff_getElem.1 hn j i hj hi h)
end Go.Proofs.Ytcibihakjcenaaa

namespace Go.Proofs.Ytcibihakjcenaaa
open Go.RowKit Go.Shelf

def sortU_ren : Go.Shelf.Ren := ⟨fun | 6 => 94 | 15 => 131 | 14 => 130 | 28 => 155 | 29 => 156 | 20 => 147 | 21 => 148 | 22 => 149 | 23 => 150 | 24 => 151 | 25 => 152 | 26 => 153 | 27 => 154 | 46 => 164 | 47 => 165 | 48 => 166 | 49 => 167 | 50 => 168 | 57 => 171 | n => n, fun | 22 => 83 | 24 => 25 | 25 => 148 | 3 => 3 | 39 => 152 | 0 => 0 | 53 => 22 | 55 => 209 | 4 => 4 | 46 => 203 | 45 => 202 | 50 => 126 | 5 => 5 | 9 => 9 | 66 => 218 | 70 => 222 | 76 => 226 | 77 => 53 | n => n, fun | n => n⟩
theorem sortU : Go.Proofs.SlLaysF0.n6 Try.prog sortU_ren := {
  mixed := by kernel_rfl
  f6 := ⟨Try.f94.name, by decide, Try.func94.trans (congrArg some (by kernel_rfl))⟩
  f14 := ⟨Try.f130.name, by decide, Try.func130.trans (congrArg some (by kernel_rfl))⟩
  f15 := Try.func131.trans (congrArg some (by kernel_rfl))
  f20 := ⟨Try.f147.name, by decide, Try.func147.trans (congrArg some (by kernel_rfl))⟩
  f21 := ⟨Try.f148.name, by decide, Try.func148.trans (congrArg some (by kernel_rfl))⟩
  f22 := ⟨Try.f149.name, by decide, Try.func149.trans (congrArg some (by kernel_rfl))⟩
  f23 := ⟨Try.f150.name, by decide, Try.func150.trans (congrArg some (by kernel_rfl))⟩
  f24 := ⟨Try.f151.name, by decide, Try.func151.trans (congrArg some (by kernel_rfl))⟩
  f25 := ⟨Try.f152.name, by decide, Try.func152.trans (congrArg some (by kernel_rfl))⟩
  f26 := ⟨Try.f153.name, by decide, Try.func153.trans (congrArg some (by kernel_rfl))⟩
  f27 := ⟨Try.f154.name, by decide, Try.func154.trans (congrArg some (by kernel_rfl))⟩
  f28 := Try.func155.trans (congrArg some (by kernel_rfl))
  f29 := Try.func156.trans (congrArg some (by kernel_rfl))
  f46 := ⟨Try.f164.name, by decide, Try.func164.trans (congrArg some (by kernel_rfl))⟩
  f47 := Try.func165.trans (congrArg some (by kernel_rfl))
  f48 := Try.func166.trans (congrArg some (by kernel_rfl))
  f49 := ⟨Try.f167.name, by decide, Try.func167.trans (congrArg some (by kernel_rfl))⟩
  f50 := ⟨Try.f168.name, by decide, Try.func168.trans (congrArg some (by kernel_rfl))⟩
  f57 := ⟨Try.f171.name, by decide, Try.func171.trans (congrArg some (by kernel_rfl))⟩
  t0 := Try.underlying0
  a0 := Try.isAgg0
  z0 := Try.sizeOf0
  v0 := Try.zeroValue0
  t3 := Try.underlying3
  a3 := Try.isAgg3
  z3 := Try.sizeOf3
  v3 := Try.zeroValue3
  t4 := Try.underlying4
  a4 := Try.isAgg4
  z4 := Try.sizeOf4
  v4 := Try.zeroValue4
  t5 := Try.underlying5
  a5 := Try.isAgg5
  z5 := Try.sizeOf5
  v5 := Try.zeroValue5
  t9 := Try.underlying9
  a9 := Try.isAgg9
  z9 := Try.sizeOf9
  v9 := Try.zeroValue9
  t22 := Try.underlying83
  a22 := Try.isAgg83
  z22 := Try.sizeOf83
  v22 := Try.zeroValue83
  t25 := Try.underlying148
  a25 := Try.isAgg148
  z25 := Try.sizeOf148
  v25 := Try.zeroValue148
  t39 := Try.underlying152
  a39 := Try.isAgg152
  z39 := Try.sizeOf152
  v39 := Try.zeroValue152
  t45 := Try.underlying202
  a45 := Try.isAgg202
  z45 := Try.sizeOf202
  v45 := Try.zeroValue202
  t46 := Try.underlying203
  a46 := Try.isAgg203
  z46 := Try.sizeOf203
  v46 := Try.zeroValue203
  t50 := Try.underlying126
  a50 := Try.isAgg126
  z50 := Try.sizeOf126
  v50 := Try.zeroValue126
  t53 := Try.underlying22
  a53 := Try.isAgg22
  z53 := Try.sizeOf22
  v53 := Try.zeroValue22
  t55 := Try.underlying209
  a55 := Try.isAgg209
  z55 := Try.sizeOf209
  v55 := Try.zeroValue209
  t66 := Try.underlying218
  a66 := Try.isAgg218
  z66 := Try.sizeOf218
  v66 := Try.zeroValue218
  t70 := Try.underlying222
  a70 := Try.isAgg222
  z70 := Try.sizeOf222
  v70 := Try.zeroValue222
  t76 := Try.underlying226
  a76 := Try.isAgg226
  z76 := Try.sizeOf226
  v76 := Try.zeroValue226
  t77 := Try.underlying53
  a77 := Try.isAgg53
  z77 := Try.sizeOf53
  v77 := Try.zeroValue53 }
def bitsLen_ren : Go.Shelf.Ren := ⟨fun | 125 => 131 | 128 => 155 | 129 => 156 | n => n, fun | 46 => 152 | 3 => 3 | 51 => 22 | 53 => 209 | 4 => 4 | 5 => 5 | 9 => 9 | n => n, fun | n => n⟩
theorem bitsLen : Go.Proofs.Lays.n125 Try.prog bitsLen_ren := {
  mixed := by kernel_rfl
  f125 := Try.func131.trans (congrArg some (by kernel_rfl))
  f128 := Try.func155.trans (congrArg some (by kernel_rfl))
  f129 := Try.func156.trans (congrArg some (by kernel_rfl))
  t3 := Try.underlying3
  a3 := Try.isAgg3
  z3 := Try.sizeOf3
  v3 := Try.zeroValue3
  t4 := Try.underlying4
  a4 := Try.isAgg4
  z4 := Try.sizeOf4
  v4 := Try.zeroValue4
  t5 := Try.underlying5
  a5 := Try.isAgg5
  z5 := Try.sizeOf5
  v5 := Try.zeroValue5
  t9 := Try.underlying9
  a9 := Try.isAgg9
  z9 := Try.sizeOf9
  v9 := Try.zeroValue9
  t46 := Try.underlying152
  a46 := Try.isAgg152
  z46 := Try.sizeOf152
  v46 := Try.zeroValue152
  t51 := Try.underlying22
  a51 := Try.isAgg22
  z51 := Try.sizeOf22
  v51 := Try.zeroValue22
  t53 := Try.underlying209
  a53 := Try.isAgg209
  z53 := Try.sizeOf209
  v53 := Try.zeroValue209 }
instance : Inhabited SupL := ⟨noU⟩
/-- A superblock, and where its list lies. -/
abbrev SupP := SupL × Option Addr × Nat
def deadV (p : SupP) : Value := .slice p.2.1 p.1.dead.length p.2.2
def encU (p : SupP) : List Value := [wV p.1.gen, .int .i64 p.1.root, wV p.1.next, wV p.1.table, deadV p]
def cmpU (x y : SupP) : Int := cmpI (y.1.gen.toNat : Int) (x.1.gen.toNat : Int)
theorem ltU (x y : SupP) : Go.Proofs.ltOf cmpU x y = decide (y.1.gen.toNat < x.1.gen.toNat) := by
  unfold Go.Proofs.ltOf cmpU cmpI
  by_cases h : y.1.gen.toNat < x.1.gen.toNat
  · have : (y.1.gen.toNat : Int) < x.1.gen.toNat := by omega
    simp [h]
  · by_cases h2 : x.1.gen.toNat < y.1.gen.toNat
    · have h3 : ¬ (y.1.gen.toNat : Int) < x.1.gen.toNat := by omega
      have h4 : (x.1.gen.toNat : Int) < y.1.gen.toNat := by omega
      simp [h, h2]
    · simp [h, h2]
theorem swoU : Go.Sort.SWO (Go.Proofs.ltOf cmpU) where
  irrefl x := by rw [ltU]; simp
  trans x y z h1 h2 := by
    rw [ltU] at *
    simp only [decide_eq_true_eq] at *
    omega
  ntrans x y z h1 h2 := by
    rw [ltU] at *
    simp only [decide_eq_false_iff_not] at *
    omega
set_option maxRecDepth 100000 in
set_option maxHeartbeats 1000000 in
/-- The closure of ring.Find. -/
theorem unew_any (x y : SupP) (W : World) : Calls Try.prog 95 #[.agg (encU x).toArray, .agg (encU y).toArray] W fun e w' => e = .returned (.int .i64 (cmpU x y)) ∧ ∃ q os', w' = Go.Sort.grow (W.drewN q) os' := by
  have hcon := fun W' => compare32 (y.1.gen.toNat : Int) (x.1.gen.toNat : Int) W'
  obtain ⟨⟨g, r, n, t, d⟩, a, c⟩ := x
  obtain ⟨⟨g', r', n', t', d'⟩, a', c'⟩ := y
  change Calls _ _ #[.agg #[.int .u32 (g.toNat : Int), .int .i64 r, .int .u32 (n.toNat : Int), .int .u32 (t.toNat : Int), .slice a d.length c], .agg #[.int .u32 (g'.toNat : Int), .int .i64 r', .int .u32 (n'.toNat : Int), .int .u32 (t'.toNat : Int), .slice a' d'.length c']] W _
  simp only [cmpU] at *
  generalize cmpI (g'.toNat : Int) (g.toNat : Int) = z at *
  go_enter Try.func95, Try.ntmps95
  go_wp2_with (go_at_call 84; refine (hcon _).mono ?_; rintro e w' ⟨rfl, rfl⟩)
  go_ret
  exact ⟨rfl, 0, _, by rw [Go.Sort.alloc_eq_grow, Go.Sort.alloc_eq_grow, Go.Sort.grow_grow]; rfl⟩
theorem sort_block {α : Type} [Inhabited α] (enc : α → List Value) (k : Nat) (w : World) (blk off n : Nat) (dk : Array α) (os : Array Obj) (x : Nat) (hx : x < w.heap.size) (hne : x ≠ blk) : (sortWorldK enc k w blk off n dk os).heap[x]? = w.heap[x]? := by
  unfold sortWorldK Go.Sort.grow Go.Sort.putRowK Go.Sort.putRow Go.Sort.mapBlock Go.Sort.ahead
  simp only
  rw [Array.getElem?_append_left (by rw [Array.size_modify]; exact hx), Array.getElem?_modify, if_neg (fun e => hne e.symm)]
theorem sort_below {α : Type} [Inhabited α] (enc : α → List Value) (k : Nat) (w : World) (blk off n : Nat) (dk : Array α) (os : Array Obj) {base : Nat} (h : base ≤ blk) (hb : blk < w.heap.size) : Below base w (sortWorldK enc k w blk off n dk os) :=
  ⟨rfl, rfl, rfl, Go.Proofs.size_sortWorldK_c enc k w blk off n dk os, fun x hx => sort_block enc k w blk off n dk os x (by omega) (by omega)⟩
theorem extract_all {α : Type} (d : Array α) (n : Nat) (h : n = d.size) : (d.extract 0 n).toList = d.toList := by subst h; simp
set_option maxRecDepth 100000 in
set_option maxHeartbeats 1000000 in
/-- slices.SortFunc, at a row of superblocks of the call's own. -/
theorem usort_any {base lo : Nat} {S : Nat → Bool} (g c : Nat) (l : List SupL) (w : World) (h : OwnR rSuper base 25 lo S w (.slice (some ⟨g, 0, none⟩) l.length c) l) (hn : l.length ≤ 12) (hlo : lo ≤ base) :
    Calls Try.prog 94 #[.slice (some ⟨g, 0, none⟩) l.length c, .func (.func 95) #[] #[]] w fun e w' =>
      e = .returned (.tuple #[]) ∧ ∃ m : List SupL, m.Perm l ∧ m.Pairwise (fun a b => newU a b = true) ∧ Sl rSuper w' lo w'.heap.size (.slice (some ⟨g, 0, none⟩) l.length c) m ∧ Below base w w' := by
  obtain ⟨hS0, xs, ⟨hxl, hrow⟩, hx⟩ := h
  rcases hrow with ⟨h1, -⟩ | ⟨g', cap, cur, e, hg, hh, hle, hcm, hcs, htk⟩
  · cases h1
  cases e
  have h5 : rSuper.n = 5 := rfl
  rw [h5] at hxl hcs htk
  have hgw : g < w.heap.size := (Array.getElem?_eq_some_iff.1 hh).1
  have hrows : ∀ j (hj : j < l.length), ∃ p : SupP, p.1 = l[j] ∧ (∀ i, i < 5 → xs[j * 5 + i]? = (encU p)[i]?) ∧ (Lit.int .i64 p.1.root).wf = true ∧ Sl (rInt .i64) (hideW w (andOwn S (.slice (some ⟨g, 0, none⟩) l.length c))) lo w.heap.size (deadV p) p.1.dead := by
    intro j hj
    obtain ⟨f0, f1, fw, f2, f3, v, f4, hv⟩ := hx j l[j] (by simp [hj])
    obtain ⟨a, cc, rfl, -, -, -, -⟩ := id hv
    refine ⟨(l[j], a, cc), rfl, fun i hi => ?_, fw, hv⟩
    simp only [h5] at f0 f1 f2 f3 f4
    match i, hi with
    | 0, _ => exact f0
    | 1, _ => exact f1
    | 2, _ => exact f2
    | 3, _ => exact f3
    | 4, _ => exact f4
  obtain ⟨ps, hpl, hps⟩ : ∃ ps : List SupP, ps.length = l.length ∧ ∀ j (hj : j < l.length) (hj' : j < ps.length), ps[j].1 = l[j] ∧ (∀ i, i < 5 → xs[j * 5 + i]? = (encU ps[j])[i]?) ∧ (Lit.int .i64 ps[j].1.root).wf = true ∧ Sl (rInt .i64) (hideW w (andOwn S (.slice (some ⟨g, 0, none⟩) l.length c))) lo w.heap.size (deadV ps[j]) ps[j].1.dead := by
    refine ⟨(List.range l.length).attach.map fun j => (hrows j.1 (List.mem_range.1 j.2)).choose, by simp, fun j hj hj' => ?_⟩
    have := (hrows j hj).choose_spec
    simpa using this
  have hmap : ps.map Prod.fst = l := by
    apply List.ext_getElem (by simp [hpl])
    intro j h1 h2
    rw [List.getElem_map]
    exact (hps j h2 (by omega)).1
  have hall : ∀ p ∈ ps, (Lit.int .i64 p.1.root).wf = true ∧ Sl (rInt .i64) (hideW w (andOwn S (.slice (some ⟨g, 0, none⟩) l.length c))) lo w.heap.size (deadV p) p.1.dead := by
    intro p hp
    obtain ⟨j, hj, rfl⟩ := List.getElem_of_mem hp
    exact (hps j (by omega) hj).2.2
  obtain ⟨d, hd⟩ : ∃ d : Array SupP, d = ps.toArray := ⟨_, rfl⟩
  have hds : d.size = l.length := by rw [hd]; simpa using hpl
  have hH : Go.Sort.HoldsK encU 5 w g 0 d := by
    intro t ht
    rw [Go.Sort.size_flatK, hds] at ht
    have hj : t / 5 < l.length := by omega
    have hj2 : t / 5 < ps.length := by omega
    refine ⟨?_, ?_⟩
    · rw [Nat.zero_add, cell_of_row w g t cur _ (0, 0) hh]
      have e1 : cur.toList[t]? = xs[t]? := by rw [← htk, List.getElem?_take, if_pos (by omega)]
      have e2 : cur[t]? = xs[t]? := by rw [← e1]; simp
      rw [e2, Go.Sort.get_flatK encU 5 d t (by rw [hds]; exact ht)]
      have e3 : d[t / 5]! = ps[t / 5] := by rw [hd]; simp [hj2]
      have e4 := (hps (t / 5) hj hj2).2.1 (t % 5) (Nat.mod_lt _ (by decide))
      have e5 : t / 5 * 5 + t % 5 = t := by omega
      rw [e5] at e4
      rw [e4, e3]
      have hl5 : t % 5 < (encU ps[t / 5]).length := Nat.mod_lt _ (by decide)
      rw [List.getElem?_eq_getElem hl5, getElem!_pos (encU ps[t / 5]) (t % 5) hl5]
      rfl
    · rw [Nat.zero_add]
      exact blk_frozen hh t
  have hcon := AnyQ.slices_SortFunc_small sortU 5 Try.isAgg25 Try.sizeOf25 encU (fun _ => rfl) (fun x v hv => by
      simp only [encU, deadV, wV, List.mem_cons, List.not_mem_nil, or_false] at hv
      rcases hv with rfl | rfl | rfl | rfl | rfl <;> rfl) cmpU 95 #[] g 0 c d w (enters_of Try.func95 (by kernel_rfl) rfl) (fun _ _ _ _ x y => unew_any x y _) hH hgw (by omega)
      (fun n W hn => (Any.bits_Len bitsLen n W (by omega) (by omega)).mono fun _ _ ⟨he, hw⟩ => ⟨⟨_, he⟩, hw⟩)
  rw [hds] at hcon
  refine Calls.mono hcon ?_
  rintro e w' ⟨rfl, n, os, rfl⟩
  refine ⟨rfl, ?_⟩
  obtain ⟨hp, hs⟩ := Go.Sort.insertionSort_holds (lt := Go.Proofs.ltOf cmpU) swoU d 0 d.size (Nat.zero_le _) (Nat.le_refl _)
  rw [hds] at hp hs
  obtain ⟨D, hD⟩ : ∃ D, Go.Sort.insertionSort (Go.Proofs.ltOf cmpU) d 0 l.length = D := ⟨_, rfl⟩
  rw [hD] at hp hs ⊢
  obtain ⟨hp1, -, hp3⟩ := hp
  have hDs : D.size = l.length := by rw [hp1, hds]
  rw [extract_all D _ hDs.symm, extract_all d _ hds.symm] at hp3
  have hdl : d.toList = ps := by rw [hd]
  rw [hdl] at hp3
  have hget : ∀ i (hi : i < D.toList.length), D[i]! = D.toList[i] := fun i hi => by
    have : i < D.size := by simpa using hi
    rw [getElem!_pos D i this]; simp
  have hml : (D.toList.map Prod.fst).length = l.length := by simp [hDs]
  refine ⟨D.toList.map Prod.fst, hmap ▸ hp3.map _, ?_, ?_, sort_below encU 5 w g 0 n D os hg hgw⟩
  · rw [List.pairwise_map, List.pairwise_iff_getElem]
    intro i j hi hj hij
    have := hs i j (Nat.zero_le _) hij (by have := hj; simp at this; omega)
    rw [ltU, hget i hi, hget j hj] at this
    unfold newU
    simp only [decide_eq_false_iff_not] at this
    simpa using this
  · have hW := Go.Proofs.holdsK_sortWorldK_c encU 5 w g 0 d D n os hH hgw (by omega)
    have hWs := Go.Proofs.size_sortWorldK_c encU 5 w g 0 n D os
    refine ⟨some ⟨g, 0, none⟩, c, by rw [hml], by rw [hml]; exact hle, hcm, fun _ => ⟨g, 0, rfl, by omega, by omega, fun i x hi => ?_⟩, fun h => by cases h⟩
    rw [List.getElem?_map] at hi
    have hi2 : i < D.toList.length := by
      rcases Nat.lt_or_ge i D.toList.length with h | h
      · exact h
      · rw [List.getElem?_eq_none h] at hi; cases hi
    rw [List.getElem?_eq_getElem hi2] at hi
    cases hi
    have hi3 : i < D.size := by simpa using hi2
    have hc := HoldsK.cells hW (fun _ => rfl) hi3
    rw [hget i hi2] at hc
    have hm : D.toList[i] ∈ ps := hp3.mem_iff.1 (List.getElem_mem hi2)
    obtain ⟨q1, q2⟩ := hall _ hm
    have hck : CKc (hideW w (andOwn S (.slice (some ⟨g, 0, none⟩) l.length c))) (sortWorldK encU 5 w g 0 n D os) :=
      (hideW_ck (S' := fun _ => false) fun k h1 h2 => ⟨rfl, sort_block encU 5 w g 0 n D os k h1 (fun e => (andOwn_no h2).2 (by rw [e]; rfl))⟩).trans (hideW_out _ _)
    have hv := (q2.ck (rInt_ck .i64) hck).more (Nat.le_refl lo) hWs
    have hcl : ∀ j v, (encU D.toList[i])[j]? = some v → (sortWorldK encU 5 w g 0 n D os).cell? ⟨g, 0 + i * 5 + j, none⟩ = some v := fun j v hv => by
      have := hc j v hv
      rwa [Addr.add_lit] at this
    exact ⟨hcl 0 _ rfl, hcl 1 _ rfl, q1, hcl 2 _ rfl, hcl 3 _ rfl, _, hcl 4 _ rfl, hv⟩
end Go.Proofs.Ytcibihakjcenaaa

namespace Go.Proofs.Ytcibihakjcenaaa
open Go.RowKit

def errF (d : DiskL) : Int := if mayD d then (if (findU d).length = 0 then 40 else 0) else 8
def fndU (d : DiskL) : List SupL := if mayD d then findU d else []
/-- Superblocks in new memory. -/
structure MadeF (w w' : World) (v : Value) (l : List SupL) : Prop where
  row : Sl rSuper w' w.heap.size w'.heap.size v l
  below : Below w.heap.size w w'
theorem findU_len (d : DiskL) : (findU d).length = (standU d 4).length := (findU_perm d).length_eq
theorem findU_is {d : DiskL} {m : List SupL} (h1 : m.Perm (standU d 4)) (h2 : m.Pairwise fun a b => newU a b = true) : m = findU d :=
  new_unique (h1.trans (findU_perm d).symm) h2 (findU_sorted d) ((findU_perm d).symm.pairwise (standU_ne d 4) (fun h e => h e.symm))
theorem row_super1 {base : Nat} {lo : Nat} {S : Nat → Bool} {wr z : World} {v u : Value} {kl : List SupL} {x : SupL} (h : OwnR rSuper base 25 lo S wr v kl) (hS : ∀ k, wr.heap.size ≤ k → S k = false)
    (hB : Below wr.heap.size wr z) (hb : SupV z wr.heap.size z.heap.size u x) (hlo : lo ≤ wr.heap.size) (T2 : TypeId) :
    OwnR rSuper base 25 lo S (z.alloc (.cells #[wV x.gen, .int .i64 x.root, wV x.next, wV x.table, u] T2)) v kl ∧ ∀ j y, [x][j]? = some y → rSuper.R (hideW (z.alloc (.cells #[wV x.gen, .int .i64 x.root, wV x.next, wV x.table, u] T2)) (andOwn S v)) lo (z.alloc (.cells #[wV x.gen, .int .i64 x.root, wV x.next, wV x.table, u] T2)).heap.size y (fun i => [wV x.gen, .int .i64 x.root, wV x.next, wV x.table, u][j * rSuper.n + i]?) := by
  refine ⟨(h.step rSuper_ck hB).alloc rSuper_ck _, fun j y hj => ?_⟩
  cases j with
  | zero =>
    cases hj
    have hkp : Kp wr.heap.size z.heap.size z (hideW (z.alloc (.cells #[wV x.gen, .int .i64 x.root, wV x.next, wV x.table, u] T2)) (andOwn S v)) := hideW_kp fun k h1 h2 => ⟨andOwn_of (hS k (by omega)) (fun e => by have := (h.lt k e).2; omega), Below.heap_alloc z _ k (by omega)⟩
    exact ⟨rfl, rfl, hb.1, rfl, rfl, u, rfl, (hb.2.keep hkp).more (by omega) (by simp)⟩
  | succ j => simp at hj

set_option maxRecDepth 100000 in
set_option maxHeartbeats 4000000 in
/-- ring.Find. -/
theorem ufind_any (b u : Value) (d : DiskL) (w : World) (h : DiskV w 0 w.heap.size b u d) :
    Calls Try.prog 45 #[.agg #[b, u]] w fun e w' => ∃ v, e = .returned (.tuple #[v, .int .i64 (errF d)]) ∧ MadeF w w' v (fndU d) := by
  have kd := fun V hh => dcheck_any b u d V hh
  obtain ⟨md, hmd⟩ : ∃ z, mayD d = z := ⟨_, rfl⟩
  have h0 : md = false → errF d = 8 ∧ fndU d = [] := fun hm => by unfold errF fndU; rw [hmd, hm]; exact ⟨rfl, rfl⟩
  have h1 : md = true → (findU d).length = 0 → errF d = 40 := fun hm hl => by unfold errF; rw [hmd, hm, if_pos rfl, if_pos hl]
  have h2 : md = true → ¬ (findU d).length = 0 → errF d = 0 := fun hm hl => by unfold errF; rw [hmd, hm, if_pos rfl, if_neg hl]
  have h3 : md = true → fndU d = findU d := fun hm => by unfold fndU; rw [hmd, hm, if_pos rfl]
  obtain ⟨ef, hef⟩ : ∃ z, errF d = z := ⟨_, rfl⟩
  obtain ⟨fl, hfl⟩ : ∃ z, fndU d = z := ⟨_, rfl⟩
  rw [hmd] at kd
  rw [hef, hfl]
  rw [hef] at h0 h1 h2
  rw [hfl] at h0 h3
  have HE := Lib.hid (And.intro h0 (And.intro h1 (And.intro h2 h3)))
  clear h0 h1 h2 h3 hmd hef hfl
  obtain ⟨ab, cb, rfl, gb, gc, -, -⟩ := h.1
  obtain ⟨au, cu, rfl, gu, gv, -, -⟩ := h.2
  unfold maxLen at gc gv
  have hst := (Below.refl w.heap.size w).alloc (Nat.le_refl _) (.cells #[.slice ab d.blocks.length cb, .slice au d.waits.length cu] 44)
  have q_d := LK.new w (.cells #[.slice ab d.blocks.length cb, .slice au d.waits.length cu] 44)
  have hB : LW w _ := hst
  have hD := (LD.of h (Nat.le_refl _)).step hst
  have sz_V : w.heap.size < (w.alloc (.cells #[.slice ab d.blocks.length cb, .slice au d.waits.length cu] 44)).heap.size := by simp
  obtain ⟨V, hV⟩ : ∃ V, w.alloc (.cells #[.slice ab d.blocks.length cb, .slice au d.waits.length cu] 44) = V := ⟨_, rfl⟩
  rw [hV] at hB hD q_d sz_V
  clear h hst
  have k_sl0 := fun (s : UInt32) W => uslot_any s W
  simp only [wV] at k_sl0
  have k_ck := kd
  have k_rd := fun (p : Int) W hh => dread_any (.slice ab d.blocks.length cb) (.slice au d.waits.length cu) d p W hh
  have k_sl := k_sl0
  have k_us := fun v l W hh => uread_any v l W hh
  have HC := Lib.hid (And.intro k_ck (And.intro k_rd (And.intro k_sl k_us)))
  clear k_ck k_rd k_sl k_us
  clear kd k_sl0
  have HQ := Lib.hid (And.intro q_d (And.intro hD hB))
  clear q_d hD hB
  have c_q_d0 := LK.cell HQ.out.1 0
  have c_q_d1 := LK.cell HQ.out.1 1
  simp at c_q_d0 c_q_d1
  go_enter Try.func45, Try.ntmps45
  go_upto_region 1 with (fail)
  clear hV
  go_wp2_with fail
  refine (HC.out.1 _ HQ.out.2.1.v).mono ?_
  rintro e w1 ⟨rfl, hst⟩
  clear c_q_d0 c_q_d1
  obtain ⟨q_d, hD, hB⟩ := HQ.out
  clear HQ
  have sz_w1 : V.heap.size ≤ w1.heap.size := hst.size
  replace q_d := q_d.step hst
  replace hD := hD.step hst
  replace hB := hB.step hst
  clear hst
  have HQ := Lib.hid (And.intro q_d (And.intro hD hB))
  clear q_d hD hB
  have c_q_d0 := LK.cell HQ.out.1 0
  have c_q_d1 := LK.cell HQ.out.1 1
  simp at c_q_d0 c_q_d1
  cases md
  case false =>
    obtain ⟨t1, t2⟩ := HE.out.1 rfl
    subst t1 t2
    clear HE
    go_wp2
    go_ret2
    exact ⟨_, rfl, Sl.nil_ _ _ _, HQ.out.2.2⟩
  have HD0 := Lib.hid (And.intro gb gu)
  clear gb gu
  have hBB := HQ.out.2.2
  have HB := Lib.hid hBB
  clear hBB
  go_wp2_with fail
  go_loopw [2, 15] (fun l i wr => ∃ (j : Nat) (sl : List SupL) (ar : Option Addr) (cr : Nat), j ≤ 4 ∧ i = .int .i64 j ∧ standU d j = sl ∧ l = .slice ar sl.length cr ∧ sl.length ≤ j ∧ (sl.length = 0 → ar = none) ∧ OwnR rSuper w1.heap.size 25 w1.heap.size (fun _ => false) wr (.slice ar sl.length cr) sl ∧ Below w1.heap.size w1 wr) (fun _ i _ => 4 - (intOf i).toNat)
  case atStart => exact ⟨0, [], none, 0, Nat.zero_le _, rfl, rfl, rfl, Nat.le_refl _, fun _ => rfl, OwnR.nil_ _ _ _ _ _ _, Below.refl _ _⟩
  case round =>
  obtain ⟨j, sl, ar, cr, hj, rfl, hsl, rfl, hsn, hnil, hown, hBr⟩ := hrel
  clear c_q_d0 c_q_d1
  obtain ⟨q_d, hD, hB⟩ := HQ.out
  clear HQ
  replace q_d := q_d.step hBr
  replace hD := hD.step hBr
  replace hB := hB.step hBr
  have HQ := Lib.hid (And.intro q_d (And.intro hD hB))
  clear q_d hD hB
  have c_q_d0 := LK.cell HQ.out.1 0
  have c_q_d1 := LK.cell HQ.out.1 1
  simp at c_q_d0 c_q_d1
  have szr := hBr.size
  have HSL := Lib.hid (And.intro hsl (And.intro hnil (And.intro hown hBr)))
  clear hsl hnil hown hBr
  by_cases hlt : j < 4
  · have hS1 : standU d (j + 1) = sl ++ (atU d j).toList := by rw [standU_succ, HSL.out.1]
    obtain ⟨rb, hrb⟩ : ∃ x, readB d (j : Nat) = x := ⟨_, rfl⟩
    have hat : atU d j = if errUr rb = 0 ∧ slotU (readU rb).gen = j then some (readU rb) else none := by unfold atU; rw [hrb]
    have kr := HC.out.2.1 (j : Nat) wr HQ.out.2.1.v
    rw [hrb] at kr
    have KR := Lib.hid kr
    clear kr hrb
    obtain ⟨q_d, hD, hB⟩ := HQ.out
    clear HQ
    have hR : LW wr wr := Below.refl _ _
    have HQ := Lib.hid (And.intro q_d (And.intro hD (And.intro hR hB)))
    clear q_d hD hR hB
    go_wp2_with fail
    refine (KR.out).mono ?_
    rintro e w2 ⟨vb, rfl, hm⟩
    clear c_q_d0 c_q_d1
    obtain ⟨q_d, hD, hR, hB⟩ := HQ.out
    clear HQ
    have hO := (LM.of hm).b
    have hst := hm.below
    obtain ⟨ao, co, rfl, -, -⟩ := hm.bytes.form rfl
    clear hm
    have sz_w2 : wr.heap.size ≤ w2.heap.size := hst.size
    replace q_d := q_d.step hst
    replace hD := hD.step hst
    replace hR := hR.step hst
    replace hB := hB.step hst
    clear hst
    have HQ := Lib.hid (And.intro q_d (And.intro hD (And.intro hR (And.intro hO hB))))
    clear q_d hD hR hO hB
    have c_q_d0 := LK.cell HQ.out.1 0
    have c_q_d1 := LK.cell HQ.out.1 1
    simp at c_q_d0 c_q_d1
    have HA := Lib.hid (And.intro hS1 hat)
    clear hS1 hat
    have ku := HC.out.2.2.2 _ rb _ HQ.out.2.2.2.1.v
    obtain ⟨er, her⟩ : ∃ z, errUr rb = z := ⟨_, rfl⟩
    obtain ⟨x, hx⟩ : ∃ z, readU rb = z := ⟨_, rfl⟩
    rw [her, hx] at ku HA
    simp only [wV] at ku
    have KU := Lib.hid ku
    clear ku her hx
    go_wp2_with fail
    refine (KU.out).mono ?_
    rintro e w3 ⟨vx, rfl, hm⟩
    clear c_q_d0 c_q_d1
    obtain ⟨q_d, hD, hR, hO, hB⟩ := HQ.out
    clear HQ
    have hst := hm.below
    obtain ⟨ax, cx, rfl, gx1, gx2, -, -⟩ := id hm.sup.2
    have hX : Lv w2.heap.size w3.heap.size (fun W => SupV W w2.heap.size w3.heap.size (.slice ax x.dead.length cx) x) w3 := Lv.mk' (Nat.le_refl _) fun W hk => ⟨hm.sup.1, hm.sup.2.keep hk⟩
    clear hm gx1 gx2
    have sz_w3 : w2.heap.size ≤ w3.heap.size := hst.size
    replace q_d := q_d.step hst
    replace hD := hD.step hst
    replace hR := hR.step hst
    replace hO := hO.step hst
    replace hB := hB.step hst
    clear hst
    have HQ := Lib.hid (And.intro q_d (And.intro hD (And.intro hR (And.intro hO (And.intro hX hB)))))
    clear q_d hD hR hO hX hB
    have c_q_d0 := LK.cell HQ.out.1 0
    have c_q_d1 := LK.cell HQ.out.1 1
    simp at c_q_d0 c_q_d1
    skip
    go_upto_region 9 with (fail)
    clear c_q_d0 c_q_d1
    obtain ⟨q_d, hD, hR, hO, hX, hB⟩ := HQ.out
    clear HQ
    have hst := (Below.refl w3.heap.size w3).alloc (Nat.le_refl _) (.cells #[.int .u32 (x.gen.toNat : Int), .int .i64 x.root, .int .u32 (x.next.toNat : Int), .int .u32 (x.table.toNat : Int), .slice ax x.dead.length cx] 25)
    have hlt : w3.heap.size < (w3.alloc (.cells #[.int .u32 (x.gen.toNat : Int), .int .i64 x.root, .int .u32 (x.next.toNat : Int), .int .u32 (x.table.toNat : Int), .slice ax x.dead.length cx] 25)).heap.size := by simp
    have q_x := LK.new w3 (.cells #[.int .u32 (x.gen.toNat : Int), .int .i64 x.root, .int .u32 (x.next.toNat : Int), .int .u32 (x.table.toNat : Int), .slice ax x.dead.length cx] 25)
    replace q_d := q_d.step hst
    replace hD := hD.step hst
    replace hR := hR.step hst
    replace hO := hO.step hst
    replace hX := hX.step hst
    replace hB := hB.step hst
    obtain ⟨w4, hw⟩ : ∃ v, w3.alloc (.cells #[.int .u32 (x.gen.toNat : Int), .int .i64 x.root, .int .u32 (x.next.toNat : Int), .int .u32 (x.table.toNat : Int), .slice ax x.dead.length cx] 25) = v := ⟨_, rfl⟩
    rw [hw] at hlt q_x q_d hD hR hO hX hB ⊢
    clear hw hst
    have sz_w4 := hlt
    clear hlt
    have HQ := Lib.hid (And.intro q_d (And.intro hD (And.intro hR (And.intro hO (And.intro hX (And.intro q_x hB))))))
    clear q_d hD hR hO hX q_x hB
    have c_q_d0 := LK.cell HQ.out.1 0
    have c_q_d1 := LK.cell HQ.out.1 1
    have c_q_x0 := LK.cell HQ.out.2.2.2.2.2.1 0
    have c_q_x1 := LK.cell HQ.out.2.2.2.2.2.1 1
    have c_q_x2 := LK.cell HQ.out.2.2.2.2.2.1 2
    have c_q_x3 := LK.cell HQ.out.2.2.2.2.2.1 3
    have c_q_x4 := LK.cell HQ.out.2.2.2.2.2.1 4
    simp at c_q_d0 c_q_d1 c_q_x0 c_q_x1 c_q_x2 c_q_x3 c_q_x4
    by_cases he : er = 0
    case neg =>
      go_wp2
      go_roundw
      case rel =>
        have hn : atU d j = none := by rw [HA.out.2, if_neg (fun h => he h.1)]
        refine ⟨j + 1, sl, ar, cr, by omega, by go_num, by rw [HA.out.1, hn]; simp, rfl, by omega, HSL.out.2.1, HSL.out.2.2.1.step rSuper_ck HQ.out.2.2.1, HSL.out.2.2.2.trans (Below.mono HQ.out.2.2.1 (by omega))⟩
      case measure => simp [intOf]; omega
    subst he
    skip
    go_wp2_with fail
    refine (HC.out.2.2.1 x.gen _).mono ?_
    rintro e w0 ⟨rfl, hw0⟩
    rw [hw0]
    clear hw0 w0
    by_cases hg : slotU x.gen = j
    case neg =>
      have hgi : ((slotU x.gen : Int) == (j : Int)) = false := by rw [beq_eq_false_iff_ne]; omega
      go_wp2
      go_roundw
      case rel =>
        have hn : atU d j = none := by rw [HA.out.2, if_neg (fun h => hg h.2)]
        refine ⟨j + 1, sl, ar, cr, by omega, by go_num, by rw [HA.out.1, hn]; simp, rfl, by omega, HSL.out.2.1, HSL.out.2.2.1.step rSuper_ck HQ.out.2.2.1, HSL.out.2.2.2.trans (Below.mono HQ.out.2.2.1 (by omega))⟩
      case measure => simp [intOf]; omega
    have hn : atU d j = some x := by rw [HA.out.2, if_pos ⟨by trivial, hg⟩]
    have hS2 : standU d (j + 1) = sl ++ [x] := by rw [HA.out.1, hn]; rfl
    have hgi : ((slotU x.gen : Int) == (j : Int)) = true := by rw [beq_iff_eq]; omega
    have HS2 := Lib.hid hS2
    clear hn hS2 hg
    have hsx : SupV w4 wr.heap.size w4.heap.size (.slice ax x.dead.length cx) x := ⟨(Lv.get HQ.out.2.2.2.2.1).1, (Lv.get HQ.out.2.2.2.2.1).2.more (by omega) (by omega)⟩
    obtain ⟨hra, hrb⟩ := row_super1 HSL.out.2.2.1 (fun _ _ => rfl) HQ.out.2.2.1 hsx szr 25
    simp only [wV] at hra hrb
    have HRR := Lib.hid (And.intro hra hrb)
    clear hra hrb hsx
    have szn : wr.heap.size ≤ w4.heap.size := Below.size HQ.out.2.2.1
    go_wp2_with (at_builtin; refine wpList_appR rSuper_ck rfl (.tmp 38) (.tmp 40) 83 rfl 25 (.agg #[.int .u32 0, .int .i64 0, .int .u32 0, .int .u32 0, .slice none 0 0]) 48 Try.underlying83 (by kernel_rfl) rfl (by decide) w1.heap.size w1.heap.size (fun _ => false) (.slice ar sl.length cr) sl [x] rfl HRR.out.1 (fun _ _ => rfl) ⟨w4.heap.size, 0, none⟩ 1 [.int .u32 (x.gen.toNat : Int), .int .i64 x.root, .int .u32 (x.next.toNat : Int), .int .u32 (x.table.toNat : Int), .slice ax x.dead.length cx] rfl rfl (news_one #[.int .u32 (x.gen.toNat : Int), .int .i64 x.root, .int .u32 (x.next.toNat : Int), .int .u32 (x.table.toNat : Int), .slice ax x.dead.length cx] 25) (by intro u hu; simp at hu; rcases hu with rfl | rfl | rfl | rfl | rfl <;> rfl) HRR.out.2 (by show sl.length + 1 ≤ 1000000; omega) (by decide) (by show w1.heap.size ≤ (w4.alloc _).heap.size; rw [World.size_alloc]; omega) ?_; intro a4 c4 z4 hown4 hB4 hf4; rw [show (sl ++ [x]).length = sl.length + 1 by simp] at hown4 ⊢; have HO := Lib.hid (And.intro hown4 hB4); clear hown4 hB4 hf4)
    go_roundw
    case rel =>
      have hls : (sl ++ [x]).length = sl.length + 1 := by simp
      refine ⟨j + 1, sl ++ [x], a4, c4, by omega, by go_num, HS2.out, by rw [hls], by rw [hls]; omega, fun h => by rw [hls] at h; omega, by rw [hls]; exact HO.out.1, ?_⟩
      exact (HSL.out.2.2.2.trans ((Below.mono HQ.out.2.2.1 (by omega)).alloc (by omega) _)).trans HO.out.2
    case measure => simp [intOf]; omega
  obtain rfl : j = 4 := by omega
  have hlen : (findU d).length = sl.length := by rw [findU_len, HSL.out.1]
  have HLN := Lib.hid hlen
  clear hlen
  have hnil := fun (w : World) (a : Option Addr) (n c n' c' : Nat) => Lib.run_eql_slice_nil (P := Try.prog) w 83 25 a n c n' c' Try.underlying83
  by_cases hz : sl.length = 0
  · have ha := HSL.out.2.1 hz
    subst ha
    have hf : findU d = [] := List.eq_nil_of_length_eq_zero (by rw [HLN.out, hz])
    have HF := Lib.hid hf
    clear hf
    have hcr : cr = 0 := by
      obtain ⟨-, xs, ⟨-, hrow⟩, -⟩ := HSL.out.2.2.1
      rcases hrow with ⟨e, -⟩ | ⟨g, cap, cur, e, -⟩
      · injection e
      · cases e
    subst hcr
    have sl0 : sl = [] := List.eq_nil_of_length_eq_zero hz
    subst sl0
    simp only [List.length_nil]
    have t1 := HE.out.2.1 (by trivial) (by rw [HF.out]; rfl)
    have t2 := (HE.out.2.2.2 (by trivial)).trans HF.out
    subst t1 t2
    clear HE
    go_wp2
    go_ret2
    exact ⟨_, rfl, Sl.nil_ _ _ _, HQ.out.2.2⟩
  obtain ⟨g, hag⟩ : ∃ g, ar = some ⟨g, 0, none⟩ := by
    obtain ⟨-, xs, ⟨-, hrow⟩, -⟩ := HSL.out.2.2.1
    rcases hrow with ⟨e, e2⟩ | ⟨g, cap, cur, e, -⟩
    · exact absurd e2 hz
    · injection e with e1
      exact ⟨g, e1⟩
  subst hag
  have hso := usort_any g cr sl wr HSL.out.2.2.1 (by omega) (Nat.le_refl _)
  have KS := Lib.hid hso
  have i9 : ¬ (findU d).length = 0 := by rw [HLN.out]; exact hz
  have t1 := HE.out.2.2.1 (by trivial) i9
  have t2 := HE.out.2.2.2 (by trivial)
  subst t1
  have HT := Lib.hid t2
  clear hso i9 t2
  go_wp2_with fail
  refine KS.out.mono ?_
  rintro e z ⟨rfl, m, hm1, hm2, hm3, hm4⟩
  have hmf := findU_is (d := d) (by rw [HSL.out.1]; exact hm1) hm2
  have HM := Lib.hid (And.intro hmf (And.intro hm3 hm4))
  clear hm1 hm2 hm3 hm4 hmf
  go_wp2
  go_ret2
  refine ⟨_, rfl, ?_, ?_⟩
  · rw [HT.out, ← HM.out.1]
    exact HM.out.2.1.more (Below.size HB.out) (Nat.le_refl _)
  · exact (HB.out.trans ((HSL.out.2.2.2.trans HM.out.2.2).mono (Below.size HB.out)))
end Go.Proofs.Ytcibihakjcenaaa

namespace Go.Proofs.Ytcibihakjcenaaa
open Go.RowKit

/-- The superblocks of a list in memory. -/
theorem Sl.superAt {w : World} {lo hi b off n c : Nat} {l : List SupL} (h : Sl rSuper w lo hi (.slice (some ⟨b, off, none⟩) n c) l) (i : Nat) (x : SupL) (hx : l[i]? = some x) :
    w.cell? ⟨b, off + i * 5, none⟩ = some (.int .u32 (x.gen.toNat : Int)) ∧ w.cell? ⟨b, off + i * 5 + 1, none⟩ = some (.int .i64 x.root) ∧ w.cell? ⟨b, off + i * 5 + 2, none⟩ = some (.int .u32 (x.next.toNat : Int)) ∧ w.cell? ⟨b, off + i * 5 + 3, none⟩ = some (.int .u32 (x.table.toNat : Int)) ∧
    ∃ a c', w.cell? ⟨b, off + i * 5 + 4, none⟩ = some (.slice a x.dead.length c') ∧ SupV w lo hi (.slice a x.dead.length c') x := by
  obtain ⟨a, c', e, h1, h2, h3, h4⟩ := h
  cases e
  obtain ⟨b', off', ea, _, _, hc⟩ := h3 (by have := (List.getElem?_eq_some_iff.1 hx).1; omega)
  cases ea
  obtain ⟨f0, f1, fw, f2, f3, v, f4, hv⟩ := hc i x hx
  obtain ⟨a', c'', rfl, -, -, -, -⟩ := id hv
  exact ⟨f0, f1, f2, f3, a', c'', f4, fw, hv⟩
end Go.Proofs.Ytcibihakjcenaaa

namespace Go.Proofs.Ytcibihakjcenaaa
open Go.RowKit

set_option linter.unusedSimpArgs false
def LU5 (lo hi : Nat) (v : Value) (x : SupL) (V : World) : Prop := Lv lo hi (fun W => SupV W lo hi v x) V
theorem LU5.of {V : World} {lo hi : Nat} {v : Value} {x : SupL} (h : SupV V lo hi v x) (hh : hi ≤ V.heap.size) : LU5 lo hi v x V := Lv.mk' hh fun _ hk => ⟨h.1, h.2.keep hk⟩
theorem LU5.v {V : World} {lo hi : Nat} {v : Value} {x : SupL} (h : LU5 lo hi v x V) : SupV V 0 V.heap.size v x := ⟨(Lv.get h).1, (Lv.get h).2.more (Nat.zero_le _) (Lv.hi_le h)⟩
theorem LU5.step {V V' : World} {lo hi : Nat} {v : Value} {x : SupL} (h : LU5 lo hi v x V) (hb : Below V.heap.size V V') : LU5 lo hi v x V' := Lv.step h hb

end Go.Proofs.Ytcibihakjcenaaa

