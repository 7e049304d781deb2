/- RoomCounts: the words and contracts, part 9. -/
import Derived.Test.YtbddbadmfhplmaaRoomCountsQ1
import Derived.Test.YtbddbadmfhplmaaRoomCountsQ2
import Derived.Test.YtbddbadmfhplmaaRoomCountsQ3
import Derived.Test.YtbddbadmfhplmaaRoomCountsQ4
import Derived.Test.YtbddbadmfhplmaaRoomCountsQ5
import Derived.Test.YtbddbadmfhplmaaRoomCountsQ6
import Derived.Test.YtbddbadmfhplmaaRoomCountsQ7
import Derived.Test.YtbddbadmfhplmaaRoomCountsQ8
import Derived.WalkKit
import Derived.WalkLawsBesides
import Derived.WalkSpells
import Derived.Lib.Hide
import Derived.Laws.Rows
import Derived.Laws.AppendOwnNone
import Derived.Maps.AppendAt
import Derived.RangeFuncNested
import Derived.RangeFuncBound
import Derived.RangeFuncCalls
import Derived.RangeFuncLeaves
import Derived.RangeFuncBox
import Derived.Shelf.Abstract
import Derived.Shelf.RegionOpen
import Derived.OwnWalkIn
import Derived.TacticsInMore
import Derived.LoopNIn
import Derived.LoopIn
import Derived.ProofKit
import Derived.Deep.Slices
import Derived.WideShapes
import Derived.OrdersHeld
import Derived.Deep.QuietTactic
import Derived.BigQuiet
import Derived.StillTailTactics
import Derived.OpenShut
import Derived.Lib.SliceRun
import Derived.Lib.AppendZerosOnto
import Derived.Lib.Walk
import Derived.Deep.LoopGhost
import Derived.Laws.CopyOwn
import Derived.Deep.DeepCutAuto
import Derived.Laws.CopyRow
import Derived.Laws.MakeOwn
import Derived.Deep.RegionHeld
import Derived.KernelRfl
import Derived.BigFrameIn
namespace Go.Proofs.Ytbddbadmfhplmaa
open Go.RowKit

def capB (x : List UInt8) : Nat := min x.length 1000000
def smB (D : List (List UInt8)) (k : Nat) : Nat := ((D.take k).map capB).sum
theorem smB_succ (D : List (List UInt8)) (k : Nat) (h : k < D.length) : smB D (k + 1) = smB D k + capB (D.getD k []) := by
  unfold smB
  rw [List.take_add_one, List.map_append, List.sum_append]
  simp [h]
theorem capB_le (x : List UInt8) : capB x ≤ 1000000 := Nat.min_le_right _ _
theorem smB_le' (D : List (List UInt8)) (c : Nat) (hc : ∀ x, capB x ≤ c) (k : Nat) : smB D k ≤ k * c := by
  induction k with
  | zero => simp [smB]
  | succ k ih =>
    rw [Nat.succ_mul]
    rcases Nat.lt_or_ge k D.length with h | h
    · rw [smB_succ D k h]
      have := hc (D.getD k [])
      omega
    · have e : smB D (k + 1) = smB D k := by
        unfold smB
        rw [List.take_of_length_le (by omega), List.take_of_length_le (by omega)]
      omega
theorem smB_le (D : List (List UInt8)) (k : Nat) : smB D k ≤ k * 1000000 := smB_le' D _ capB_le k
set_option maxRecDepth 100000 in
theorem sm_flat (D : List (List UInt8)) (h : (D.map capB).sum ≤ 800000) : D.flatten.length ≤ 800000 := by
  suffices hs : D.flatten.length = (D.map capB).sum by omega
  induction D with
  | nil => rfl
  | cons a l ih =>
    rw [List.map_cons, List.sum_cons] at h ⊢
    rw [List.flatten_cons, List.length_append, ih (by omega)]
    have : capB a = a.length := by
      unfold capB at *
      omega
    omega

set_option maxRecDepth 100000 in
set_option maxHeartbeats 1000000 in
theorem great_any (b u : Value) (d : DiskL) (w : World) (h : DiskV w 0 w.heap.size b u d) :
    Calls Try.prog 47 #[.agg #[b, u]] w fun e w' => ∃ g, e = .returned (.bool g) ∧ Below w.heap.size w w' ∧ (g = false → d.blocks.length ≤ 300 ∧ d.waits.length ≤ 5000 ∧ (datD d).flatten.length ≤ 800000) := by
  have hB := (Below.refl w.heap.size w).alloc (Nat.le_refl _) (.cells #[b, u] 25)
  have hD := h.step hB
  have hq := World.alloc_heap_new w (.cells #[b, u] 25)
  obtain ⟨ab, cb, rfl, g1, g2, -, -⟩ := h.1
  obtain ⟨au, cu, rfl, g1', g2', -, -⟩ := h.2
  unfold maxLen at g2 g2'
  clear h
  obtain ⟨W, hW⟩ : ∃ W, w.alloc (.cells #[.slice ab d.blocks.length cb, .slice au d.waits.length cu] 25) = W := ⟨_, rfl⟩
  rw [hW] at hB hD hq
  have c0 := blk_cell hq 0
  have c1 := blk_cell hq 1
  simp at c0 c1
  have HQ := Lib.hid (And.intro hD (And.intro hB hq))
  clear hD hB hq
  go_enter Try.func47, Try.ntmps47
  by_cases h1 : 300 < d.blocks.length
  · have i1 : (300 : Int) < d.blocks.length := by omega
    go_wp2
    go_ret
    exact ⟨true, rfl, HQ.out.2.1, fun h => by cases h⟩
  have d1 : decide ((300 : Int) < d.blocks.length) = false := by simp; omega
  by_cases h2 : 5000 < d.waits.length
  · have i2 : (5000 : Int) < d.waits.length := by omega
    go_wp2
    go_ret
    exact ⟨true, rfl, HQ.out.2.1, fun h => by cases h⟩
  have d2 : decide ((5000 : Int) < d.waits.length) = false := by simp; omega
  by_cases h3 : 600 < d.waits.length ∧ d.waits.length < 4096
  · have i3 : (600 : Int) < d.waits.length := by omega
    have i4 : (d.waits.length : Int) < 4096 := by omega
    go_wp2
    go_ret
    exact ⟨true, rfl, HQ.out.2.1, fun h => by cases h⟩
  obtain ⟨D, hDD⟩ : ∃ D, datD d = D := ⟨_, rfl⟩
  have HL := Lib.hid (show D.length = d.blocks.length + d.waits.length by rw [← hDD, datD_length])
  have HDB := Lib.hid (show ∀ k, k < d.blocks.length → D.getD k [] = d.blocks.getD k [] from fun k hk => by rw [← hDD]; exact datD_b d k hk)
  have HDW := Lib.hid (show ∀ k, k < d.waits.length → D.getD (d.blocks.length + k) [] = (d.waits.getD k ⟨0, []⟩).data from fun k hk => by rw [← hDD]; exact datD_w d k hk)
  have HDD := Lib.hid hDD
  clear hDD
  have h1' : d.blocks.length ≤ 300 := by omega
  have h2' : d.waits.length ≤ 5000 := by omega
  have hsplit : (decide ((600 : Int) < d.waits.length) = false) ∨ ((600 : Int) < d.waits.length ∧ decide ((d.waits.length : Int) < 4096) = false) := by
    by_cases h : 600 < d.waits.length
    · exact .inr ⟨by omega, by simp; omega⟩
    · exact .inl (by simp; omega)
  clear h3
  go_upto_region 1 with (fail)
  go_cut [27] (fun s wx => s = .bool false ∧ wx = W)
  case first =>
    rcases hsplit with d3 | ⟨i3, d4⟩
    · go_wp2
      go_meet
      exact ⟨rfl, rfl⟩
    · go_wp2
      go_meet
      exact ⟨rfl, rfl⟩
  case rest =>
  obtain ⟨rfl, rfl⟩ := hcut
  clear hsplit d1 d2
  have HS := Lib.hid (show ∀ k, k ≤ 6000 → smB D k ≤ 6000000000 from fun k hk => Nat.le_trans (smB_le D k) (by omega))
  clear h1 h2
  go_wp2_with fail
  go_loopw [3, 4] (fun v i wr => ∃ k : Nat, k ≤ d.blocks.length ∧ i = .int .i64 k ∧ v = .int .i64 (smB D k) ∧ wr = wc) (fun _ i _ => d.blocks.length - (intOf i).toNat)
  case atStart => exact ⟨0, Nat.zero_le _, rfl, rfl, rfl⟩
  case round =>
  obtain ⟨k, hk, rfl, rfl, rfl⟩ := hrel
  by_cases hlt : k < d.blocks.length
  · obtain ⟨bb, bo, cb', e', -, z1, z2, z3, hbe⟩ := HQ.out.1.1.at_ (by omega)
    injection e' with ea _ ec
    subst ea ec
    obtain ⟨v, hv, hvb⟩ := hbe k (d.blocks.getD k []) (get_l _ _ _ hlt)
    obtain ⟨av, cv, rfl, -, hcv⟩ := hvb.form rfl
    unfold maxLen at hcv z3
    have hv' : wr.cell? ⟨bb, bo + k, none⟩ = some (.slice av (d.blocks.getD k []).length cv) := by simpa [rBytes] using hv
    have hps : smB D (k + 1) = smB D k + capB (d.blocks.getD k []) := by rw [smB_succ D k (by have := HL.out; omega), HDB.out k hlt]
    have hpt := HS.out k (by omega)
    have hcl := capB_le (d.blocks.getD k [])
    have hmin : min ((d.blocks.getD k []).length : Int) 1000000 = (capB (d.blocks.getD k []) : Int) := by unfold capB; omega
    have HPS := Lib.hid hps
    clear hps hv hvb hbe
    generalize capB (d.blocks.getD k []) = cy at *
    generalize (d.blocks.getD k []).length = y at *
    generalize smB D k = pk at *
    go_wp2
    go_roundw
    case rel => exact ⟨k + 1, by omega, by go_num, by rw [HPS.out]; go_num, trivial⟩
    case measure => simp [intOf]; omega
  obtain rfl : k = d.blocks.length := by omega
  clear hk hlt
  obtain ⟨V, hV⟩ : ∃ V, V = wr := ⟨_, rfl⟩
  subst hV
  go_wp2_with fail
  go_loopw [3, 5] (fun v i wr => ∃ k : Nat, k ≤ d.waits.length ∧ i = .int .i64 k ∧ v = .int .i64 (smB D (d.blocks.length + k)) ∧ wr = V) (fun _ i _ => d.waits.length - (intOf i).toNat)
  case atStart => exact ⟨0, Nat.zero_le _, rfl, rfl, rfl⟩
  case round =>
  obtain ⟨k, hk, rfl, rfl, rfl⟩ := hrel
  by_cases hlt : k < d.waits.length
  · obtain ⟨bb, bo, cb', e', -, z1, z2, z3, hbe⟩ := HQ.out.1.2.at_ (by omega)
    injection e' with ea _ ec
    subst ea ec
    obtain ⟨f0, f1, v, f2, f3⟩ := hbe k (d.waits.getD k ⟨0, []⟩) (get_l _ _ _ hlt)
    obtain ⟨av, cv, rfl, -, hcv⟩ := f3.form rfl
    unfold maxLen at hcv z3
    have hps : smB D (d.blocks.length + (k + 1)) = smB D (d.blocks.length + k) + capB (d.waits.getD k ⟨0, []⟩).data := by
      rw [← Nat.add_assoc, smB_succ D (d.blocks.length + k) (by have := HL.out; omega), HDW.out k hlt]
    have hpt := HS.out (d.blocks.length + k) (by omega)
    have hcl := capB_le (d.waits.getD k ⟨0, []⟩).data
    have hmin : min ((d.waits.getD k ⟨0, []⟩).data.length : Int) 1000000 = (capB (d.waits.getD k ⟨0, []⟩).data : Int) := by unfold capB; omega
    obtain ⟨y, hy⟩ : ∃ y, d.waits.getD k ⟨0, []⟩ = y := ⟨_, rfl⟩
    rw [hy] at f2 hps hcl hmin
    clear hy f0 f1 f3 hbe
    have HPS := Lib.hid hps
    clear hps
    obtain ⟨at_, dt⟩ := y
    simp [rWrite] at f2
    simp only at hcl hmin HPS
    generalize capB dt = cy at *
    generalize smB D (d.blocks.length + k) = pk at *
    go_wp2
    go_roundw
    case rel => exact ⟨k + 1, by omega, by go_num, by rw [HPS.out]; go_num, trivial⟩
    case measure => simp [intOf]; omega
  obtain rfl : k = d.waits.length := by omega
  have hsum : smB D (d.blocks.length + d.waits.length) = (D.map capB).sum := by
    rw [← HL.out]
    unfold smB
    rw [List.take_length]
  have hpt := HS.out (d.blocks.length + d.waits.length) (by omega)
  rw [hsum] at hpt ⊢
  have HSM := Lib.hid (sm_flat D)
  clear hsum
  generalize (D.map capB).sum = sm at *
  by_cases h5 : 800000 < sm
  · have i5 : (800000 : Int) < sm := by omega
    go_wp2
    go_ret
    exact ⟨true, rfl, HQ.out.2.1, fun h => by cases h⟩
  · have d5 : decide ((800000 : Int) < sm) = false := by simp; omega
    have hle : sm ≤ 800000 := by omega
    have HLE := Lib.hid hle
    clear hle h5
    go_wp2
    go_ret
    exact ⟨_, rfl, HQ.out.2.1, fun _ => ⟨h1', h2', by rw [HDD.out]; exact HSM.out HLE.out⟩⟩
end Go.Proofs.Ytbddbadmfhplmaa

namespace Go.Proofs.Ytbddbadmfhplmaa
open Go.RowKit

theorem errA_may {d : DiskL} (p : Int) (h : mayD d = true) : errA d p = if p < 0 ∨ 256 ≤ p then 2 else 0 := by
  unfold errA
  rw [if_pos h]
theorem may_of (bl : List (List UInt8)) (wl : List WrL) (h1 : bl.length = 256) (h2 : wl.length ≤ 4096) (h3 : ∀ x ∈ bl, x.length = 128) (h4 : ∀ x ∈ wl, 0 ≤ x.at_ ∧ x.at_ < 256 ∧ x.data.length = 128) : mayD ⟨bl, wl⟩ = true := by
  unfold mayD okW
  simp only [Bool.and_eq_true, beq_iff_eq, decide_eq_true_eq, List.all_eq_true]
  exact ⟨⟨⟨h1, h2⟩, h3⟩, fun x hx => ⟨⟨(h4 x hx).1, (h4 x hx).2.1⟩, (h4 x hx).2.2⟩⟩
theorem errW_zero {d : DiskL} {p : Int} {l : List UInt8} (h : errW d p l = 0) : mayD d = true ∧ 0 ≤ p ∧ p < 256 ∧ l.length = 128 ∧ d.waits.length < 4096 ∧ errA d p = 0 := by
  unfold errW at h
  split at h
  · rename_i h1; exact absurd h h1
  · rename_i h1
    split at h
    · cases h
    · rename_i h2
      split at h
      · cases h
      · rename_i h3
        have h1' : errA d p = 0 := by
          rcases Decidable.em (errA d p = 0) with e | e
          · exact e
          · exact absurd e h1
        have h4 := errA_zero h1'
        have h5 := may_len h4.1
        have h2' : l.length = 128 := by
          rcases Decidable.em (l.length = 128) with e | e
          · exact e
          · exact absurd e h2
        exact ⟨h4.1, h4.2.1, h4.2.2, h2', by omega, h1'⟩
theorem write_may {d : DiskL} {p : Int} {l : List UInt8} (h : errW d p l = 0) : writeD d p l = ⟨d.blocks, d.waits ++ [⟨p, l⟩]⟩ ∧ mayD (writeD d p l) = true := by
  have e : writeD d p l = ⟨d.blocks, d.waits ++ [⟨p, l⟩]⟩ := by unfold writeD; rw [if_pos h]
  refine ⟨e, ?_⟩
  rw [e]
  obtain ⟨h1, h2, h3, h4, h5, -⟩ := errW_zero h
  obtain ⟨m1, m2, m3, m4⟩ := may_len h1
  refine may_of _ _ m1 (by rw [List.length_append]; simp; omega) m3 (fun x hx => ?_)
  rcases List.mem_append.1 hx with hx | hx
  · exact m4 x hx
  · obtain rfl := List.mem_singleton.1 hx
    exact ⟨h2, h3, h4⟩
end Go.Proofs.Ytbddbadmfhplmaa

namespace Go.Proofs.Ytbddbadmfhplmaa
open Go.RowKit

theorem DiskT.keep {w w' : World} {lo hi : Nat} {b u : Value} {d : DiskL} (h : DiskT w lo hi b u d) (hk : Kp lo hi w w') : DiskT w' lo hi b u d := ⟨Sl.keep h.1 hk, Sl.keep h.2 hk⟩

end Go.Proofs.Ytbddbadmfhplmaa

namespace Go.Proofs.Ytbddbadmfhplmaa
open Go.RowKit

theorem errA_same {d e : DiskL} (p : Int) (h : mayD d = true) (h' : mayD e = true) : errA d p = errA e p := by rw [errA_may p h, errA_may p h']
theorem read_write_self {d : DiskL} {p : Int} {l : List UInt8} (h : errW d p l = 0) : readB (writeD d p l) p = l := by
  have hw := write_may h
  have hz := errW_zero h
  unfold readB
  rw [errA_same p hw.2 hz.1, hz.2.2.2.2.2, if_pos rfl, hw.1]
  unfold seenD
  simp only
  rw [lastW_app, if_pos rfl]
theorem read_write_other {d : DiskL} {p q : Int} {l : List UInt8} (h : errW d p l = 0) (hne : q ≠ p) : readB (writeD d p l) q = readB d q := by
  have hw := write_may h
  have hz := errW_zero h
  unfold readB
  rw [errA_same q hw.2 hz.1, hw.1]
  unfold seenD
  simp only
  rw [lastW_app]
  rw [if_neg (c := p = q) (fun e => hne e.symm)]

end Go.Proofs.Ytbddbadmfhplmaa

namespace Go.Proofs.Ytbddbadmfhplmaa
open Go.RowKit

def KeepC (n₀ Bs : Nat) (A B : World) : Prop := Below n₀ A B ∧ B.cell? ⟨Bs, 0, none⟩ = A.cell? ⟨Bs, 0, none⟩ ∧ B.cell? ⟨Bs + 1, 0, none⟩ = A.cell? ⟨Bs + 1, 0, none⟩
theorem KeepC.refl (n₀ Bs : Nat) (A : World) : KeepC n₀ Bs A A := ⟨Below.refl _ _, rfl, rfl⟩
theorem KeepC.trans {n₀ Bs : Nat} {A B C : World} (h : KeepC n₀ Bs A B) (k : KeepC n₀ Bs B C) : KeepC n₀ Bs A C := ⟨h.1.trans k.1, k.2.1.trans h.2.1, k.2.2.trans h.2.2⟩
end Go.Proofs.Ytbddbadmfhplmaa

namespace Go.Proofs.Ytbddbadmfhplmaa
open Go.RowKit Go.Shelf
attribute [local go_sem] Oper.semAt_some

theorem grown_ck {W W' : World} {row : Option Nat} (hg : W.grownBy W' row) (hr : ∀ r, row = some r → ∃ o : Obj, W.heap[r]? = some o ∧ o.isCells = false) : CKc W W' := fun _ _ h => ⟨cell_kept h hg hr, frozen_kept h hg hr⟩
theorem blk_grown {W W' : World} {row : Option Nat} (hg : W.grownBy W' row) (hr : ∀ r, row = some r → ∃ o : Obj, W.heap[r]? = some o ∧ o.isCells = false) {g : Nat} {cs : Array Value} {T : TypeId} {f : Nat × Nat} (h : W.heap[g]? = some (.cells cs T f)) : W'.heap[g]? = some (.cells cs T f) := by
  refine (hg.block g (Array.getElem?_eq_some_iff.1 h).1 (fun e => ?_)).trans h
  obtain ⟨o, ho, hc⟩ := hr g e.symm
  rw [h] at ho
  cases ho
  cases hc
end Go.Proofs.Ytbddbadmfhplmaa

namespace Go.Proofs.Ytbddbadmfhplmaa
open Go.RowKit

/-- May block i be taken? -/
def noneAt (s : StoreL) (i : Nat) : Bool := decide (8 ≤ i) && (s.now.getD i 0 == 0 && s.last.getD i 0 == 0)
def freeN (s : StoreL) (k : Nat) : List Nat := (List.range k).filter (noneAt s)
def freeS (s : StoreL) : List Nat := freeN s 256
def intsOf (l : List Nat) : List Int := l.map Int.ofNat
theorem freeN_succ (s : StoreL) (k : Nat) : freeN s (k + 1) = if noneAt s k then freeN s k ++ [k] else freeN s k := by
  unfold freeN
  rw [List.range_succ, List.filter_append]
  cases h : noneAt s k <;> simp [h]
theorem freeN_eight (s : StoreL) : freeN s 8 = [] := by
  unfold freeN
  rw [List.filter_eq_nil_iff]
  intro i hi
  have := List.mem_range.1 hi
  unfold noneAt
  rw [decide_eq_false (by omega)]
  simp
theorem freeN_mem {s : StoreL} {k i : Nat} : i ∈ freeN s k ↔ i < k ∧ noneAt s i = true := by
  unfold freeN
  rw [List.mem_filter, List.mem_range]
theorem noneAt_iff {s : StoreL} {i : Nat} : noneAt s i = true ↔ 8 ≤ i ∧ s.now.getD i 0 = 0 ∧ s.last.getD i 0 = 0 := by
  unfold noneAt
  simp
theorem freeS_len (s : StoreL) : (freeS s).length ≤ 256 := by
  have := List.length_filter_le (noneAt s) (List.range 256)
  rw [List.length_range] at this
  exact this
theorem freeS_nodup (s : StoreL) : (freeS s).Nodup := List.Pairwise.filter _ List.nodup_range
/-- The first ones that are free are those of all. -/
theorem freeN_pre {s : StoreL} {k : Nat} (hk : k ≤ 256) : ∃ r, freeS s = freeN s k ++ r := by
  have : ∀ j, ∃ r, freeN s (k + j) = freeN s k ++ r := by
    intro j
    induction j with
    | zero => exact ⟨[], by simp⟩
    | succ j ih =>
      obtain ⟨r, hr⟩ := ih
      rw [show k + (j + 1) = (k + j) + 1 by omega, freeN_succ, hr]
      split
      · exact ⟨r ++ [k + j], by simp⟩
      · exact ⟨r, rfl⟩
  obtain ⟨r, hr⟩ := this (256 - k)
  rw [show k + (256 - k) = 256 by omega] at hr
  exact ⟨r, hr⟩
theorem free_take {s s' : StoreL} {p : Nat} {r : List Nat} (h : freeS s = p :: r) (hn : s'.now = s.now.set p 1) (hl : s'.last = s.last) (h256 : s.now.length = 256) : freeS s' = r := by
  have hnd := freeS_nodup s
  have hp := (freeN_mem.1 (show p ∈ freeN s 256 by rw [show freeN s 256 = p :: r from h]; exact List.mem_cons_self ..))
  have e : freeS s' = (freeS s).filter (fun i => i != p) := by
    unfold freeS freeN
    rw [List.filter_filter]
    apply List.filter_congr
    intro i hi
    have hi := List.mem_range.1 hi
    unfold noneAt
    rw [hn, hl]
    by_cases hip : p = i
    · subst hip
      rw [cgetD_set_self _ _ _ (by omega)]
      simp
    · rw [bget_set_ne _ _ _ _ hip]
      rw [show (i != p) = true by simp; omega]
      simp
  rw [e, h]
  rw [h] at hnd
  rw [List.nodup_cons] at hnd
  rw [List.filter_cons, if_neg (by simp), List.filter_eq_self]
  intro a ha
  simp
  intro e
  subst e
  exact hnd.1 ha
/-- What no count was turned from nought is as free. -/
theorem free_same {s s' : StoreL} (hn : ∀ i, i < 256 → (s'.now.getD i 0 = 0 ↔ s.now.getD i 0 = 0)) (hl : s'.last = s.last) : freeS s' = freeS s := by
  unfold freeS freeN
  apply List.filter_congr
  intro i hi
  have hi := List.mem_range.1 hi
  rw [Bool.eq_iff_iff, noneAt_iff, noneAt_iff, hn i hi, hl]

def errTk (s : StoreL) (b : List UInt8) : Int := if mayS s then (if b.length = 128 then (match freeS s with | [] => 9 | p :: _ => errW s.disk p b) else 3) else 8
def headS (s : StoreL) : Nat := (freeS s).headD 0
def atTk (s : StoreL) (b : List UInt8) : Int := if errTk s b = 0 then headS s else 0
def takeS (s : StoreL) (b : List UInt8) : StoreL := if errTk s b = 0 then ⟨writeD s.disk (headS s) b, s.now.set (headS s) 1, s.last⟩ else noS
def errAs (s : StoreL) (p : Int) : Int := if mayS s then (if p < 8 ∨ 256 ≤ p then 2 else if s.now.getD p.toNat 0 = 0 then 6 else 0) else 8
def errSh (s : StoreL) (p : Int) : Int := if errAs s p ≠ 0 then errAs s p else if s.now.getD p.toNat 0 = 255 then 70 else 0
def shareS (s : StoreL) (p : Int) : StoreL := if errSh s p = 0 then ⟨s.disk, s.now.set p.toNat (s.now.getD p.toNat 0 + 1), s.last⟩ else noS

theorem mayS_iff {s : StoreL} : mayS s = true ↔ mayD s.disk = true ∧ mayT s.now = true ∧ mayT s.last = true := by
  unfold mayS
  simp
theorem errAs_zero {s : StoreL} {p : Int} (h : errAs s p = 0) : mayS s = true ∧ 8 ≤ p ∧ p < 256 ∧ s.now.getD p.toNat 0 ≠ 0 := by
  unfold errAs at h
  split at h
  · rename_i hm
    split at h
    · cases h
    · split at h
      · cases h
      · rename_i h1 h2
        exact ⟨hm, by omega, by omega, h2⟩
  · cases h
theorem errSh_zero {s : StoreL} {p : Int} (h : errSh s p = 0) : errAs s p = 0 ∧ s.now.getD p.toNat 0 ≠ 255 := by
  unfold errSh at h
  split at h
  · rename_i hn
    exact absurd h hn
  · rename_i hn
    split at h
    · cases h
    · rename_i h2
      exact ⟨by simpa using hn, h2⟩
theorem errTk_zero {s : StoreL} {b : List UInt8} (h : errTk s b = 0) : mayS s = true ∧ b.length = 128 ∧ (∃ r, freeS s = headS s :: r) ∧ errW s.disk (headS s) b = 0 := by
  unfold errTk at h
  split at h
  · rename_i hm
    split at h
    · rename_i hl
      unfold headS
      split at h
      · cases h
      · rename_i p r hf
        rw [hf]
        exact ⟨hm, hl, ⟨r, rfl⟩, h⟩
    · cases h
  · cases h
theorem head_free {s : StoreL} {r : List Nat} (h : freeS s = headS s :: r) : 8 ≤ headS s ∧ headS s < 256 ∧ s.now.getD (headS s) 0 = 0 ∧ s.last.getD (headS s) 0 = 0 := by
  have := freeN_mem.1 (show headS s ∈ freeN s 256 by rw [show freeN s 256 = headS s :: r from h]; exact List.mem_cons_self ..)
  have h2 := noneAt_iff.1 this.2
  exact ⟨h2.1, this.1, h2.2.1, h2.2.2⟩
/-- All that is so of a store of which a block was taken. -/
theorem take_is {s : StoreL} {b : List UInt8} (h : errTk s b = 0) :
    takeS s b = ⟨⟨s.disk.blocks, s.disk.waits ++ [⟨(headS s : Int), b⟩]⟩, s.now.set (headS s) 1, s.last⟩ ∧ mayS (takeS s b) = true ∧ atTk s b = headS s ∧ freeS s = headS s :: freeS (takeS s b) := by
  obtain ⟨hm, hl, ⟨r, hr⟩, hw⟩ := errTk_zero h
  obtain ⟨p1, p2, p3, p4⟩ := head_free hr
  obtain ⟨m1, m2, m3⟩ := mayS_iff.1 hm
  obtain ⟨w1, w2⟩ := write_may hw
  have e : takeS s b = ⟨writeD s.disk (headS s) b, s.now.set (headS s) 1, s.last⟩ := by unfold takeS; rw [if_pos h]
  have hf : freeS (takeS s b) = r := by
    refine free_take hr ?_ ?_ (mayT_len m2) <;> rw [e]
  refine ⟨by rw [e, w1], ?_, by unfold atTk; rw [if_pos h], by rw [hf]; exact hr⟩
  rw [e]
  exact mayS_iff.2 ⟨w2, by rw [mayT_set _ _ _ p1]; exact m2, m3⟩
theorem share_is {s : StoreL} {p : Int} (h : errSh s p = 0) :
    shareS s p = ⟨s.disk, s.now.set p.toNat (s.now.getD p.toNat 0 + 1), s.last⟩ ∧ mayS (shareS s p) = true ∧ 8 ≤ p ∧ p < 256 ∧ s.now.getD p.toNat 0 ≠ 0 ∧ (s.now.getD p.toNat 0 + 1).toNat = (s.now.getD p.toNat 0).toNat + 1 ∧ freeS (shareS s p) = freeS s := by
  obtain ⟨h1, h2⟩ := errSh_zero h
  obtain ⟨hm, h8, h9, hn⟩ := errAs_zero h1
  obtain ⟨m1, m2, m3⟩ := mayS_iff.1 hm
  have e : shareS s p = ⟨s.disk, s.now.set p.toNat (s.now.getD p.toNat 0 + 1), s.last⟩ := by unfold shareS; rw [if_pos h]
  have h256 := mayT_len m2
  refine ⟨e, ?_, h8, h9, hn, u8_up h2, ?_⟩
  · rw [e]
    exact mayS_iff.2 ⟨m1, by rw [mayT_set _ _ _ (by omega)]; exact m2, m3⟩
  · rw [e]
    refine free_same (fun i hi => ?_) rfl
    by_cases hip : p.toNat = i
    · subst hip
      show (s.now.set p.toNat (s.now.getD p.toNat 0 + 1)).getD p.toNat 0 = 0 ↔ _
      rw [cgetD_set_self _ _ _ (by omega)]
      exact ⟨fun h => absurd h (u8_up0 h2), fun h => absurd h hn⟩
    · show (s.now.set p.toNat (s.now.getD p.toNat 0 + 1)).getD i 0 = 0 ↔ _
      rw [bget_set_ne _ _ _ _ hip]
end Go.Proofs.Ytbddbadmfhplmaa

