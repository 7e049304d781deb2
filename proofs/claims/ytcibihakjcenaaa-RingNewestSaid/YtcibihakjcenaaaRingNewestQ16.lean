/- RingNewest: the words and contracts, part 16. -/
import Derived.Test.YtcibihakjcenaaaRingNewestQ1
import Derived.Test.YtcibihakjcenaaaRingNewestQ2
import Derived.Test.YtcibihakjcenaaaRingNewestQ3
import Derived.Test.YtcibihakjcenaaaRingNewestQ4
import Derived.Test.YtcibihakjcenaaaRingNewestQ5
import Derived.Test.YtcibihakjcenaaaRingNewestQ6
import Derived.Test.YtcibihakjcenaaaRingNewestQ7
import Derived.Test.YtcibihakjcenaaaRingNewestQ8
import Derived.Test.YtcibihakjcenaaaRingNewestQ9
import Derived.Test.YtcibihakjcenaaaRingNewestQ10
import Derived.Test.YtcibihakjcenaaaRingNewestQ11
import Derived.Test.YtcibihakjcenaaaRingNewestQ12
import Derived.Test.YtcibihakjcenaaaRingNewestQ13
import Derived.Test.YtcibihakjcenaaaRingNewestQ14
import Derived.WalkKit
import Derived.WalkLawsBesides
import Derived.WalkSpells
import Derived.Lib.Hide
import Derived.Laws.Rows
import Derived.Laws.AppendOwnNone
import Derived.Maps.AppendAt
import Derived.ProofKit
import Derived.Deep.Slices
import Derived.WideShapes
import Derived.RangeFuncNested
import Derived.RangeFuncBound
import Derived.RangeFuncCalls
import Derived.RangeFuncLeaves
import Derived.RangeFuncBox
import Derived.Shelf.Abstract
import Derived.Shelf.RegionOpen
import Derived.OwnWalkIn
import Derived.TacticsInMore
import Derived.LoopNIn
import Derived.LoopIn
import Derived.Lib.AppendZerosOnto
import Derived.Lib.SliceRun
import Derived.Lib.Walk
import Derived.Deep.LoopGhost
import Derived.Laws.CopyOwn
import Derived.Laws.CopyRow
import Derived.OrdersHeld
import Derived.Deep.QuietTactic
import Derived.BigQuiet
import Derived.StillTailTactics
import Derived.OpenShut
import Derived.Deep.DeepCutAuto
import Derived.Deep.RegionHeld
import Derived.Laws.MakeOwn
import Derived.KernelRfl
import Derived.BigFrameIn
import Derived.ShutString
import Derived.ChangeOld
import Derived.Below
import Derived.Shelf.SlSortCmp.SmallK
import Derived.Shelf.Small.Bits
namespace Go.Proofs.Ytcibihakjcenaaa
open Go.RowKit

/-- What stands in a slot. -/
def atU (d : DiskL) (p : Nat) : Option SupL := if errUr (readB d (p : Nat)) = 0 ∧ slotU (readU (readB d (p : Nat))).gen = p then some (readU (readB d (p : Nat))) else none
/-- All that stand, by their slots. -/
def standU (d : DiskL) (k : Nat) : List SupL := (List.range k).filterMap (atU d)
theorem atU_slot {d : DiskL} {p : Nat} {s : SupL} (h : atU d p = some s) : slotU s.gen = p := by
  unfold atU at h
  split at h
  · rename_i hc
    cases h
    exact hc.2
  · cases h
theorem standU_succ (d : DiskL) (k : Nat) : standU d (k + 1) = standU d k ++ (atU d k).toList := by
  unfold standU
  rw [List.range_succ, List.filterMap_append]
  cases h : atU d k <;> simp [h]
theorem standU_mem {d : DiskL} {k : Nat} {s : SupL} (h : s ∈ standU d k) : ∃ p, p < k ∧ atU d p = some s := by
  unfold standU at h
  obtain ⟨p, hp, he⟩ := List.mem_filterMap.1 h
  exact ⟨p, List.mem_range.1 hp, he⟩
theorem standU_ne (d : DiskL) : ∀ k, (standU d k).Pairwise fun a b => a.gen ≠ b.gen
  | 0 => List.Pairwise.nil
  | k + 1 => by
    rw [standU_succ]
    refine List.pairwise_append.2 ⟨standU_ne d k, ?_, fun a ha b hb e => ?_⟩
    · cases atU d k <;> simp
    · obtain ⟨p, hp, he⟩ := standU_mem ha
      have hb2 : atU d k = some b := by simpa using hb
      have h1 := atU_slot he
      have h2 := atU_slot hb2
      rw [e] at h1
      omega
theorem standU_len (d : DiskL) : ∀ k, (standU d k).length ≤ k
  | 0 => Nat.le_refl _
  | k + 1 => by
    have := standU_len d k
    rw [standU_succ, List.length_append]
    cases atU d k <;> simp <;> omega
/-- The newest first. -/
def newU (a b : SupL) : Bool := decide (b.gen.toNat ≤ a.gen.toNat)
def findU (d : DiskL) : List SupL := (standU d 4).mergeSort newU
theorem findU_perm (d : DiskL) : (findU d).Perm (standU d 4) := List.mergeSort_perm _ _
theorem findU_sorted (d : DiskL) : (findU d).Pairwise fun a b => newU a b = true := by
  refine List.pairwise_mergeSort ?_ ?_ _
  · intro a b c h1 h2
    unfold newU at *
    simp only [decide_eq_true_eq] at *
    omega
  · intro a b
    unfold newU
    simp only [Bool.or_eq_true, decide_eq_true_eq]
    omega
/-- Two lists of the same superblocks, the newest first, no two of one generation, are the same. -/
theorem new_unique {l m : List SupL} (hp : l.Perm m) (hl : l.Pairwise fun a b => newU a b = true) (hm : m.Pairwise fun a b => newU a b = true) (hn : m.Pairwise fun a b => a.gen ≠ b.gen) : l = m := by
  refine List.Perm.eq_of_pairwise (le := fun a b => newU a b = true) (fun a b ha hb h1 h2 => ?_) hl hm hp
  unfold newU at h1 h2
  simp only [decide_eq_true_eq] at h1 h2
  have hg : a.gen = b.gen := UInt32.toNat_inj.1 (by omega)
  obtain ⟨i, hi, rfl⟩ := List.mem_iff_getElem.1 (hp.mem_iff.1 ha)
  obtain ⟨j, hj, rfl⟩ := List.mem_iff_getElem.1 hb
  rcases Nat.lt_trichotomy i j with h | h | h
  · exact absurd hg (List.pairwise_iff_getElem.1 hn i j hi hj h)
  · subst h; rfl
  · exact absurd hg.symm (List.pairwise_iff_getElem.1 hn j i hj hi h)
theorem put_ok {d : DiskL} {s : SupL} (h : errPut d s = 0) : mayU s = true ∧ errW d (slotU s.gen : Nat) (blockU s) = 0 ∧ putU d s = writeD d (slotU s.gen : Nat) (blockU s) := by
  unfold errPut at h
  unfold putU
  cases h1 : mayD d with
  | false => rw [h1] at h; cases h
  | true =>
    cases h2 : mayU s with
    | false => rw [h1, h2] at h; cases h
    | true => rw [h1, h2] at h; exact ⟨rfl, h, rfl⟩
theorem put_no {d : DiskL} {s : SupL} (h : errPut d s ≠ 0) : putU d s = ⟨[], []⟩ := by
  unfold putU
  split
  · rename_i hc
    rw [Bool.and_eq_true] at hc
    unfold errPut at h
    rw [hc.1, hc.2, if_pos rfl, if_pos rfl] at h
    unfold writeD
    rw [if_neg h]
  · rfl
/-- What stands in a slot behind a put. -/
theorem atU_put {d : DiskL} {s : SupL} (h : errPut d s = 0) (p : Nat) : atU (putU d s) p = if p = slotU s.gen then some s else atU d p := by
  obtain ⟨h1, h2, h3⟩ := put_ok h
  obtain ⟨b1, b2, -⟩ := backU1 h1
  rw [h3]
  by_cases hp : p = slotU s.gen
  · subst hp
    rw [if_pos rfl]
    unfold atU
    rw [read_write_self h2, b2, if_pos ⟨b1, rfl⟩]
  · rw [if_neg hp]
    unfold atU
    rw [read_write_other h2 (by omega)]
theorem slotU_lt (g : UInt32) : slotU g < 4 := Nat.mod_lt _ (by decide)
theorem standU_put {d : DiskL} {s : SupL} (h : errPut d s = 0) : (standU (putU d s) 4).Perm (s :: (standU d 4).filter fun x => decide (slotU x.gen ≠ slotU s.gen)) := by
  have gen : ∀ k, (slotU s.gen < k → (standU (putU d s) k).Perm (s :: (standU d k).filter fun x => decide (slotU x.gen ≠ slotU s.gen))) ∧ (k ≤ slotU s.gen → standU (putU d s) k = (standU d k).filter fun x => decide (slotU x.gen ≠ slotU s.gen)) := by
    intro k
    induction k with
    | zero => exact ⟨fun h => absurd h (Nat.not_lt_zero _), fun _ => rfl⟩
    | succ k ih =>
      rw [standU_succ, standU_succ, atU_put h k, List.filter_append]
      refine ⟨fun hk => ?_, fun hk => ?_⟩
      · by_cases he : k = slotU s.gen
        · rw [if_pos he, ih.2 (by omega)]
          have hf : (atU d k).toList.filter (fun x => decide (slotU x.gen ≠ slotU s.gen)) = [] := by
            cases ha : atU d k with
            | none => rfl
            | some x => simp [atU_slot ha, he]
          rw [hf, List.append_nil]
          exact List.perm_append_singleton _ _
        · rw [if_neg he]
          have hf : (atU d k).toList.filter (fun x => decide (slotU x.gen ≠ slotU s.gen)) = (atU d k).toList := by
            cases ha : atU d k with
            | none => rfl
            | some x => simp [atU_slot ha, he]
          rw [hf]
          exact (ih.1 (by omega)).append_right _
      · have he : k ≠ slotU s.gen := by omega
        rw [if_neg he, ih.2 (by omega)]
        have hf : (atU d k).toList.filter (fun x => decide (slotU x.gen ≠ slotU s.gen)) = (atU d k).toList := by
          cases ha : atU d k with
          | none => rfl
          | some x => simp [atU_slot ha, he]
        rw [hf]
  exact (gen 4).1 (slotU_lt _)
/-- The newest that is put is the first one found, and those of the other slots stay behind it. -/
theorem findU_put {d : DiskL} {s : SupL} (h : errPut d s = 0) (hn : ∀ x ∈ findU d, x.gen.toNat < s.gen.toNat) : findU (putU d s) = s :: (findU d).filter fun x => decide (slotU x.gen ≠ slotU s.gen) := by
  have hp : (findU (putU d s)).Perm (s :: (findU d).filter fun x => decide (slotU x.gen ≠ slotU s.gen)) :=
    (findU_perm _).trans ((standU_put h).trans (((findU_perm d).filter _).symm.cons s))
  refine new_unique hp (findU_sorted _) (List.pairwise_cons.2 ⟨fun y hy => ?_, (findU_sorted d).filter _⟩) ?_
  · have := hn y (List.mem_filter.1 hy).1
    unfold newU
    simp only [decide_eq_true_eq]
    omega
  · refine (hp.symm.pairwise_iff (R := fun a b : SupL => a.gen ≠ b.gen) (fun h => Ne.symm h)).2 ?_
    exact ((findU_perm (putU d s)).pairwise_iff (R := fun a b : SupL => a.gen ≠ b.gen) (fun h => Ne.symm h)).2 (standU_ne _ 4)
end Go.Proofs.Ytcibihakjcenaaa

namespace Go.Proofs.Ytcibihakjcenaaa
open Go.RowKit Go.Shelf

def sortU_ren : Go.Shelf.Ren := ⟨fun | 6 => 94 | 15 => 131 | 14 => 130 | 28 => 155 | 29 => 156 | 20 => 147 | 21 => 148 | 22 => 149 | 23 => 150 | 24 => 151 | 25 => 152 | 26 => 153 | 27 => 154 | 46 => 164 | 47 => 165 | 48 => 166 | 49 => 167 | 50 => 168 | 57 => 171 | n => n, fun | 22 => 83 | 24 => 25 | 25 => 148 | 3 => 3 | 39 => 152 | 0 => 0 | 53 => 22 | 55 => 209 | 4 => 4 | 46 => 203 | 45 => 202 | 50 => 126 | 5 => 5 | 9 => 9 | 66 => 218 | 70 => 222 | 76 => 226 | 77 => 53 | n => n, fun | n => n⟩
theorem sortU : Go.Proofs.SlLaysF0.n6 Try.prog sortU_ren := {
  mixed := by kernel_rfl
  f6 := ⟨Try.f94.name, by decide, Try.func94.trans (congrArg some (by kernel_rfl))⟩
  f14 := ⟨Try.f130.name, by decide, Try.func130.trans (congrArg some (by kernel_rfl))⟩
  f15 := Try.func131.trans (congrArg some (by kernel_rfl))
  f20 := ⟨Try.f147.name, by decide, Try.func147.trans (congrArg some (by kernel_rfl))⟩
  f21 := ⟨Try.f148.name, by decide, Try.func148.trans (congrArg some (by kernel_rfl))⟩
  f22 := ⟨Try.f149.name, by decide, Try.func149.trans (congrArg some (by kernel_rfl))⟩
  f23 := ⟨Try.f150.name, by decide, Try.func150.trans (congrArg some (by kernel_rfl))⟩
  f24 := ⟨Try.f151.name, by decide, Try.func151.trans (congrArg some (by kernel_rfl))⟩
  f25 := ⟨Try.f152.name, by decide, Try.func152.trans (congrArg some (by kernel_rfl))⟩
  f26 := ⟨Try.f153.name, by decide, Try.func153.trans (congrArg some (by kernel_rfl))⟩
  f27 := ⟨Try.f154.name, by decide, Try.func154.trans (congrArg some (by kernel_rfl))⟩
  f28 := Try.func155.trans (congrArg some (by kernel_rfl))
  f29 := Try.func156.trans (congrArg some (by kernel_rfl))
  f46 := ⟨Try.f164.name, by decide, Try.func164.trans (congrArg some (by kernel_rfl))⟩
  f47 := Try.func165.trans (congrArg some (by kernel_rfl))
  f48 := Try.func166.trans (congrArg some (by kernel_rfl))
  f49 := ⟨Try.f167.name, by decide, Try.func167.trans (congrArg some (by kernel_rfl))⟩
  f50 := ⟨Try.f168.name, by decide, Try.func168.trans (congrArg some (by kernel_rfl))⟩
  f57 := ⟨Try.f171.name, by decide, Try.func171.trans (congrArg some (by kernel_rfl))⟩
  t0 := Try.underlying0
  a0 := Try.isAgg0
  z0 := Try.sizeOf0
  v0 := Try.zeroValue0
  t3 := Try.underlying3
  a3 := Try.isAgg3
  z3 := Try.sizeOf3
  v3 := Try.zeroValue3
  t4 := Try.underlying4
  a4 := Try.isAgg4
  z4 := Try.sizeOf4
  v4 := Try.zeroValue4
  t5 := Try.underlying5
  a5 := Try.isAgg5
  z5 := Try.sizeOf5
  v5 := Try.zeroValue5
  t9 := Try.underlying9
  a9 := Try.isAgg9
  z9 := Try.sizeOf9
  v9 := Try.zeroValue9
  t22 := Try.underlying83
  a22 := Try.isAgg83
  z22 := Try.sizeOf83
  v22 := Try.zeroValue83
  t25 := Try.underlying148
  a25 := Try.isAgg148
  z25 := Try.sizeOf148
  v25 := Try.zeroValue148
  t39 := Try.underlying152
  a39 := Try.isAgg152
  z39 := Try.sizeOf152
  v39 := Try.zeroValue152
  t45 := Try.underlying202
  a45 := Try.isAgg202
  z45 := Try.sizeOf202
  v45 := Try.zeroValue202
  t46 := Try.underlying203
  a46 := Try.isAgg203
  z46 := Try.sizeOf203
  v46 := Try.zeroValue203
  t50 := Try.underlying126
  a50 := Try.isAgg126
  z50 := Try.sizeOf126
  v50 := Try.zeroValue126
  t53 := Try.underlying22
  a53 := Try.isAgg22
  z53 := Try.sizeOf22
  v53 := Try.zeroValue22
  t55 := Try.underlying209
  a55 := Try.isAgg209
  z55 := Try.sizeOf209
  v55 := Try.zeroValue209
  t66 := Try.underlying218
  a66 := Try.isAgg218
  z66 := Try.sizeOf218
  v66 := Try.zeroValue218
  t70 := Try.underlying222
  a70 := Try.isAgg222
  z70 := Try.sizeOf222
  v70 := Try.zeroValue222
  t76 := Try.underlying226
  a76 := Try.isAgg226
  z76 := Try.sizeOf226
  v76 := Try.zeroValue226
  t77 := Try.underlying53
  a77 := Try.isAgg53
  z77 := Try.sizeOf53
  v77 := Try.zeroValue53 }
def bitsLen_ren : Go.Shelf.Ren := ⟨fun | 125 => 131 | 128 => 155 | 129 => 156 | n => n, fun | 46 => 152 | 3 => 3 | 51 => 22 | 53 => 209 | 4 => 4 | 5 => 5 | 9 => 9 | n => n, fun | n => n⟩
theorem bitsLen : Go.Proofs.Lays.n125 Try.prog bitsLen_ren := {
  mixed := by kernel_rfl
  f125 := Try.func131.trans (congrArg some (by kernel_rfl))
  f128 := Try.func155.trans (congrArg some (by kernel_rfl))
  f129 := Try.func156.trans (congrArg some (by kernel_rfl))
  t3 := Try.underlying3
  a3 := Try.isAgg3
  z3 := Try.sizeOf3
  v3 := Try.zeroValue3
  t4 := Try.underlying4
  a4 := Try.isAgg4
  z4 := Try.sizeOf4
  v4 := Try.zeroValue4
  t5 := Try.underlying5
  a5 := Try.isAgg5
  z5 := Try.sizeOf5
  v5 := Try.zeroValue5
  t9 := Try.underlying9
  a9 := Try.isAgg9
  z9 := Try.sizeOf9
  v9 := Try.zeroValue9
  t46 := Try.underlying152
  a46 := Try.isAgg152
  z46 := Try.sizeOf152
  v46 := Try.zeroValue152
  t51 := Try.underlying22
  a51 := Try.isAgg22
  z51 := Try.sizeOf22
  v51 := Try.zeroValue22
  t53 := Try.underlying209
  a53 := Try.isAgg209
  z53 := Try.sizeOf209
  v53 := Try.zeroValue209 }
instance : Inhabited SupL := ⟨noU⟩
/-- A superblock, and where its list lies. -/
abbrev SupP := SupL × Option Addr × Nat
def deadV (p : SupP) : Value := .slice p.2.1 p.1.dead.length p.2.2
def encU (p : SupP) : List Value := [wV p.1.gen, .int .i64 p.1.root, wV p.1.next, wV p.1.table, deadV p]
def cmpU (x y : SupP) : Int := cmpI (y.1.gen.toNat : Int) (x.1.gen.toNat : Int)
theorem ltU (x y : SupP) : Go.Proofs.ltOf cmpU x y = decide (y.1.gen.toNat < x.1.gen.toNat) := by
  unfold Go.Proofs.ltOf cmpU cmpI
  by_cases h : y.1.gen.toNat < x.1.gen.toNat
  · have : (y.1.gen.toNat : Int) < x.1.gen.toNat := by omega
    simp [h]
  · by_cases h2 : x.1.gen.toNat < y.1.gen.toNat
    · have h3 : ¬ (y.1.gen.toNat : Int) < x.1.gen.toNat := by omega
      have h4 : (x.1.gen.toNat : Int) < y.1.gen.toNat := by omega
      simp [h, h2]
    · simp [h, h2]
theorem swoU : Go.Sort.SWO (Go.Proofs.ltOf cmpU) where
  irrefl x := by rw [ltU]; simp
  trans x y z h1 h2 := by
    rw [ltU] at *
    simp only [decide_eq_true_eq] at *
    omega
  ntrans x y z h1 h2 := by
    rw [ltU] at *
    simp only [decide_eq_false_iff_not] at *
    omega
set_option maxRecDepth 100000 in
set_option maxHeartbeats 1000000 in
/-- The closure of ring.Find. -/
theorem unew_any (x y : SupP) (W : World) : Calls Try.prog 95 #[.agg (encU x).toArray, .agg (encU y).toArray] W fun e w' => e = .returned (.int .i64 (cmpU x y)) ∧ ∃ q os', w' = Go.Sort.grow (W.drewN q) os' := by
  have hcon := fun W' => compare32 (y.1.gen.toNat : Int) (x.1.gen.toNat : Int) W'
  obtain ⟨⟨g, r, n, t, d⟩, a, c⟩ := x
  obtain ⟨⟨g', r', n', t', d'⟩, a', c'⟩ := y
  change Calls _ _ #[.agg #[.int .u32 (g.toNat : Int), .int .i64 r, .int .u32 (n.toNat : Int), .int .u32 (t.toNat : Int), .slice a d.length c], .agg #[.int .u32 (g'.toNat : Int), .int .i64 r', .int .u32 (n'.toNat : Int), .int .u32 (t'.toNat : Int), .slice a' d'.length c']] W _
  simp only [cmpU] at *
  generalize cmpI (g'.toNat : Int) (g.toNat : Int) = z at *
  go_enter Try.func95, Try.ntmps95
  go_wp2_with (go_at_call 84; refine (hcon _).mono ?_; rintro e w' ⟨rfl, rfl⟩)
  go_ret
  exact ⟨rfl, 0, _, by rw [Go.Sort.alloc_eq_grow, Go.Sort.alloc_eq_grow, Go.Sort.grow_grow]; rfl⟩
theorem sort_block {α : Type} [Inhabited α] (enc : α → List Value) (k : Nat) (w : World) (blk off n : Nat) (dk : Array α) (os : Array Obj) (x : Nat) (hx : x < w.heap.size) (hne : x ≠ blk) : (sortWorldK enc k w blk off n dk os).heap[x]? = w.heap[x]? := by
  unfold sortWorldK Go.Sort.grow Go.Sort.putRowK Go.Sort.putRow Go.Sort.mapBlock Go.Sort.ahead
  simp only
  rw [Array.getElem?_append_left (by rw [Array.size_modify]; exact hx), Array.getElem?_modify, if_neg (fun e => hne e.symm)]
theorem sort_below {α : Type} [Inhabited α] (enc : α → List Value) (k : Nat) (w : World) (blk off n : Nat) (dk : Array α) (os : Array Obj) {base : Nat} (h : base ≤ blk) (hb : blk < w.heap.size) : Below base w (sortWorldK enc k w blk off n dk os) :=
  ⟨rfl, rfl, rfl, Go.Proofs.size_sortWorldK_c enc k w blk off n dk os, fun x hx => sort_block enc k w blk off n dk os x (by omega) (by omega)⟩
theorem extract_all {α : Type} (d : Array α) (n : Nat) (h : n = d.size) : (d.extract 0 n).toList = d.toList := by subst h; simp
set_option maxRecDepth 100000 in
set_option maxHeartbeats 1000000 in
/-- slices.SortFunc, at a row of superblocks of the call's own. -/
theorem usort_any {base lo : Nat} {S : Nat → Bool} (g c : Nat) (l : List SupL) (w : World) (h : OwnR rSuper base 25 lo S w (.slice (some ⟨g, 0, none⟩) l.length c) l) (hn : l.length ≤ 12) (hlo : lo ≤ base) :
    Calls Try.prog 94 #[.slice (some ⟨g, 0, none⟩) l.length c, .func (.func 95) #[] #[]] w fun e w' =>
      e = .returned (.tuple #[]) ∧ ∃ m : List SupL, m.Perm l ∧ m.Pairwise (fun a b => newU a b = true) ∧ Sl rSuper w' lo w'.heap.size (.slice (some ⟨g, 0, none⟩) l.length c) m ∧ Below base w w' := by
  obtain ⟨hS0, xs, ⟨hxl, hrow⟩, hx⟩ := h
  rcases hrow with ⟨h1, -⟩ | ⟨g', cap, cur, e, hg, hh, hle, hcm, hcs, htk⟩
  · cases h1
  cases e
  have h5 : rSuper.n = 5 := rfl
  rw [h5] at hxl hcs htk
  have hgw : g < w.heap.size := (Array.getElem?_eq_some_iff.1 hh).1
  have hrows : ∀ j (hj : j < l.length), ∃ p : SupP, p.1 = l[j] ∧ (∀ i, i < 5 → xs[j * 5 + i]? = (encU p)[i]?) ∧ (Lit.int .i64 p.1.root).wf = true ∧ Sl (rInt .i64) (hideW w (andOwn S (.slice (some ⟨g, 0, none⟩) l.length c))) lo w.heap.size (deadV p) p.1.dead := by
    intro j hj
    obtain ⟨f0, f1, fw, f2, f3, v, f4, hv⟩ := hx j l[j] (by simp [hj])
    obtain ⟨a, cc, rfl, -, -, -, -⟩ := id hv
    refine ⟨(l[j], a, cc), rfl, fun i hi => ?_, fw, hv⟩
    simp only [h5] at f0 f1 f2 f3 f4
    match i, hi with
    | 0, _ => exact f0
    | 1, _ => exact f1
    | 2, _ => exact f2
    | 3, _ => exact f3
    | 4, _ => exact f4
  obtain ⟨ps, hpl, hps⟩ : ∃ ps : List SupP, ps.length = l.length ∧ ∀ j (hj : j < l.length) (hj' : j < ps.length), ps[j].1 = l[j] ∧ (∀ i, i < 5 → xs[j * 5 + i]? = (encU ps[j])[i]?) ∧ (Lit.int .i64 ps[j].1.root).wf = true ∧ Sl (rInt .i64) (hideW w (andOwn S (.slice (some ⟨g, 0, none⟩) l.length c))) lo w.heap.size (deadV ps[j]) ps[j].1.dead := by
    refine ⟨(List.range l.length).attach.map fun j => (hrows j.1 (List.mem_range.1 j.2)).choose, by simp, fun j hj hj' => ?_⟩
    have := (hrows j hj).choose_spec
    simpa using this
  have hmap : ps.map Prod.fst = l := by
    apply List.ext_getElem (by simp [hpl])
    intro j h1 h2
    rw [List.getElem_map]
    exact (hps j h2 (by omega)).1
  have hall : ∀ p ∈ ps, (Lit.int .i64 p.1.root).wf = true ∧ Sl (rInt .i64) (hideW w (andOwn S (.slice (some ⟨g, 0, none⟩) l.length c))) lo w.heap.size (deadV p) p.1.dead := by
    intro p hp
    obtain ⟨j, hj, rfl⟩ := List.getElem_of_mem hp
    exact (hps j (by omega) hj).2.2
  obtain ⟨d, hd⟩ : ∃ d : Array SupP, d = ps.toArray := ⟨_, rfl⟩
  have hds : d.size = l.length := by rw [hd]; simpa using hpl
  have hH : Go.Sort.HoldsK encU 5 w g 0 d := by
    intro t ht
    rw [Go.Sort.size_flatK, hds] at ht
    have hj : t / 5 < l.length := by omega
    have hj2 : t / 5 < ps.length := by omega
    refine ⟨?_, ?_⟩
    · rw [Nat.zero_add, cell_of_row w g t cur _ (0, 0) hh]
      have e1 : cur.toList[t]? = xs[t]? := by rw [← htk, List.getElem?_take, if_pos (by omega)]
      have e2 : cur[t]? = xs[t]? := by rw [← e1]; simp
      rw [e2, Go.Sort.get_flatK encU 5 d t (by rw [hds]; exact ht)]
      have e3 : d[t / 5]! = ps[t / 5] := by rw [hd]; simp [hj2]
      have e4 := (hps (t / 5) hj hj2).2.1 (t % 5) (Nat.mod_lt _ (by decide))
      have e5 : t / 5 * 5 + t % 5 = t := by omega
      rw [e5] at e4
      rw [e4, e3]
      have hl5 : t % 5 < (encU ps[t / 5]).length := Nat.mod_lt _ (by decide)
      rw [List.getElem?_eq_getElem hl5, getElem!_pos (encU ps[t / 5]) (t % 5) hl5]
      rfl
    · rw [Nat.zero_add]
      exact blk_frozen hh t
  have hcon := AnyQ.slices_SortFunc_small sortU 5 Try.isAgg25 Try.sizeOf25 encU (fun _ => rfl) (fun x v hv => by
      simp only [encU, deadV, wV, List.mem_cons, List.not_mem_nil, or_false] at hv
      rcases hv with rfl | rfl | rfl | rfl | rfl <;> rfl) cmpU 95 #[] g 0 c d w (enters_of Try.func95 (by kernel_rfl) rfl) (fun _ _ _ _ x y => unew_any x y _) hH hgw (by omega)
      (fun n W hn => (Any.bits_Len bitsLen n W (by omega) (by omega)).mono fun _ _ ⟨he, hw⟩ => ⟨⟨_, he⟩, hw⟩)
  rw [hds] at hcon
  refine Calls.mono hcon ?_
  rintro e w' ⟨rfl, n, os, rfl⟩
  refine ⟨rfl, ?_⟩
  obtain ⟨hp, hs⟩ := Go.Sort.insertionSort_holds (lt := Go.Proofs.ltOf cmpU) swoU d 0 d.size (Nat.zero_le _) (Nat.le_refl _)
  rw [hds] at hp hs
  obtain ⟨D, hD⟩ : ∃ D, Go.Sort.insertionSort (Go.Proofs.ltOf cmpU) d 0 l.length = D := ⟨_, rfl⟩
  rw [hD] at hp hs ⊢
  obtain ⟨hp1, -, hp3⟩ := hp
  have hDs : D.size = l.length := by rw [hp1, hds]
  rw [extract_all D _ hDs.symm, extract_all d _ hds.symm] at hp3
  have hdl : d.toList = ps := by rw [hd]
  rw [hdl] at hp3
  have hget : ∀ i (hi : i < D.toList.length), D[i]! = D.toList[i] := fun i hi => by
    have : i < D.size := by simpa using hi
    rw [getElem!_pos D i this]; simp
  have hml : (D.toList.map Prod.fst).length = l.length := by simp [hDs]
  refine ⟨D.toList.map Prod.fst, hmap ▸ hp3.map _, ?_, ?_, sort_below encU 5 w g 0 n D os hg hgw⟩
  · rw [List.pairwise_map, List.pairwise_iff_getElem]
    intro i j hi hj hij
    have := hs i j (Nat.zero_le _) hij (by have := hj; simp at this; omega)
    rw [ltU, hget i hi, hget j hj] at this
    unfold newU
    simp only [decide_eq_false_iff_not] at this
    simpa using this
  · have hW := Go.Proofs.holdsK_sortWorldK_c encU 5 w g 0 d D n os hH hgw (by omega)
    have hWs := Go.Proofs.size_sortWorldK_c encU 5 w g 0 n D os
    refine ⟨some ⟨g, 0, none⟩, c, by rw [hml], by rw [hml]; exact hle, hcm, fun _ => ⟨g, 0, rfl, by omega, by omega, fun i x hi => ?_⟩, fun h => by cases h⟩
    rw [List.getElem?_map] at hi
    have hi2 : i < D.toList.length := by
      rcases Nat.lt_or_ge i D.toList.length with h | h
      · exact h
      · rw [List.getElem?_eq_none h] at hi; cases hi
    rw [List.getElem?_eq_getElem hi2] at hi
    cases hi
    have hi3 : i < D.size := by simpa using hi2
    have hc := HoldsK.cells hW (fun _ => rfl) hi3
    rw [hget i hi2] at hc
    have hm : D.toList[i] ∈ ps := hp3.mem_iff.1 (List.getElem_mem hi2)
    obtain ⟨q1, q2⟩ := hall _ hm
    have hck : CKc (hideW w (andOwn S (.slice (some ⟨g, 0, none⟩) l.length c))) (sortWorldK encU 5 w g 0 n D os) :=
      (hideW_ck (S' := fun _ => false) fun k h1 h2 => ⟨rfl, sort_block encU 5 w g 0 n D os k h1 (fun e => (andOwn_no h2).2 (by rw [e]; rfl))⟩).trans (hideW_out _ _)
    have hv := (q2.ck (rInt_ck .i64) hck).more (Nat.le_refl lo) hWs
    have hcl : ∀ j v, (encU D.toList[i])[j]? = some v → (sortWorldK encU 5 w g 0 n D os).cell? ⟨g, 0 + i * 5 + j, none⟩ = some v := fun j v hv => by
      have := hc j v hv
      rwa [Addr.add_lit] at this
    exact ⟨hcl 0 _ rfl, hcl 1 _ rfl, q1, hcl 2 _ rfl, hcl 3 _ rfl, _, hcl 4 _ rfl, hv⟩
end Go.Proofs.Ytcibihakjcenaaa

