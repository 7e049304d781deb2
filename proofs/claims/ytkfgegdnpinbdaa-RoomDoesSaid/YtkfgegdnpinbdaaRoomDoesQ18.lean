/- RoomDoes: the words and contracts, part 18. -/
import Derived.Test.YtkfgegdnpinbdaaRoomDoesQ1
import Derived.Test.YtkfgegdnpinbdaaRoomDoesQ2
import Derived.Test.YtkfgegdnpinbdaaRoomDoesQ3
import Derived.Test.YtkfgegdnpinbdaaRoomDoesQ4
import Derived.Test.YtkfgegdnpinbdaaRoomDoesQ5
import Derived.Test.YtkfgegdnpinbdaaRoomDoesQ6
import Derived.Test.YtkfgegdnpinbdaaRoomDoesQ7
import Derived.Test.YtkfgegdnpinbdaaRoomDoesQ8
import Derived.Test.YtkfgegdnpinbdaaRoomDoesQ10
import Derived.Test.YtkfgegdnpinbdaaRoomDoesQ11
import Derived.Test.YtkfgegdnpinbdaaRoomDoesQ17
import Derived.Test.YtkfgegdnpinbdaaChecked
import Derived.WalkKit
import Derived.WalkLawsBesides
import Derived.WalkSpells
import Derived.Lib.Hide
import Derived.Laws.Rows
import Derived.Laws.AppendOwnNone
import Derived.Maps.AppendAt
import Derived.ProofKit
import Derived.Deep.Slices
import Derived.WideShapes
import Derived.RangeFuncNested
import Derived.RangeFuncBound
import Derived.RangeFuncCalls
import Derived.RangeFuncLeaves
import Derived.RangeFuncBox
import Derived.Shelf.Abstract
import Derived.Shelf.RegionOpen
import Derived.OwnWalkIn
import Derived.TacticsInMore
import Derived.LoopNIn
import Derived.LoopIn
import Derived.Lib.AppendZerosOnto
import Derived.Lib.SliceRun
import Derived.Lib.Walk
import Derived.Deep.LoopGhost
import Derived.Laws.CopyOwn
import Derived.Laws.CopyRow
import Derived.OrdersHeld
import Derived.Deep.QuietTactic
import Derived.BigQuiet
import Derived.StillTailTactics
import Derived.OpenShut
import Derived.Deep.DeepCutAuto
import Derived.Laws.MakeOwn
import Derived.ShutString
import Derived.ChangeOld
import Derived.Below
import Derived.Deep.RegionHeld
import Derived.KernelRfl
import Derived.BigFrameIn
namespace Go.Proofs.Ytkfgegdnpinbdaa
open Go.RowKit

/-- All of a store may be written: blocks, what waits, counts. -/
def SpT (w : World) (lo hi : Nat) (b u x y : Value) (nb nu nx ny : Nat) : Prop := SpS 1 0 w lo hi b nb ∧ SpS 2 1 w lo hi u nu ∧ SpoB w lo hi x nx ∧ SpoB w lo hi y ny
theorem SpT.of {w : World} {lo hi : Nat} {b u x y : Value} {s : StoreL} (h : StoreT w lo hi b u x y s) : SpT w lo hi b u x y s.disk.blocks.length s.disk.waits.length s.now.length s.last.length :=
  ⟨SpS.of_b h.1.1, SpS.of_w h.1.2, SpoB.of h.2.1.1 h.2.1.2, SpoB.of h.2.2.1 h.2.2.2⟩
theorem SpT.set {w : World} {lo hi : Nat} {b u x y : Value} {nb nu nx ny : Nat} (h : SpT w lo hi b u x y nb nu nx ny) (p : Addr) (z z' : UInt8) (hp : w.cell? p = some (bV z)) : SpT (w.setCell p (bV z')) lo hi b u x y nb nu nx ny :=
  ⟨h.1.set p z z' hp, h.2.1.set p z z' hp, h.2.2.1.set p z z' hp, h.2.2.2.set p z z' hp⟩
theorem SpT.below {w w' : World} {lo hi B : Nat} {b u x y : Value} {nb nu nx ny : Nat} (h : SpT w lo hi b u x y nb nu nx ny) (hb : Below B w w') (hB : hi ≤ B) : SpT w' lo hi b u x y nb nu nx ny :=
  ⟨h.1.below hb hB, h.2.1.below hb hB, h.2.2.1.below hb hB, h.2.2.2.below hb hB⟩
theorem LP.sp {V : World} {lo hi : Nat} {b u x y : Value} {s : StoreL} (h : LP lo hi b u x y s V) : SpT V lo hi b u x y s.disk.blocks.length s.disk.waits.length s.now.length s.last.length := SpT.of h.t

set_option maxRecDepth 100000 in
set_option maxHeartbeats 4000000 in
theorem spoil8_any (b u x y : Value) (nb nu nx ny : Nat) (w : World) (n0 hi : Nat) (hhi : hi ≤ w.heap.size) (hn : n0 ≤ hi) (h : SpT w n0 hi b u x y nb nu nx ny) :
    Calls Try.prog 24 #[.agg #[b, u, x, y]] w fun e w' => (∃ v, e = .returned v) ∧ Below n0 w w' ∧ ∀ x, x < w.heap.size → (x < n0 ∨ hi ≤ x) → w'.heap[x]? = w.heap[x]? := by
  have hst0 := (Below.refl w.heap.size w).alloc (Nat.le_refl _) (.cells #[b, u, x, y] 28)
  have hq := World.alloc_heap_new w (.cells #[b, u, x, y] 28)
  obtain ⟨ab, cb, rfl, g1, g2, -⟩ := id h.1
  obtain ⟨au, cu, rfl, g3, g4, -⟩ := id h.2.1
  obtain ⟨ax, cx, rfl, g5, g6, -⟩ := id h.2.2.1
  obtain ⟨ay, cy, rfl, g7, g8, -⟩ := id h.2.2.2
  unfold maxLen at g2 g4 g6 g8
  obtain ⟨W, hW⟩ : ∃ W, w.alloc (.cells #[.slice ab nb cb, .slice au nu cu, .slice ax nx cx, .slice ay ny cy] 28) = W := ⟨_, rfl⟩
  rw [hW] at hst0 hq
  have hB : Below n0 w W := hst0.mono (Nat.le_trans hn hhi)
  have HS := Lib.hid (And.intro (h.below hst0 hhi) (And.intro hB hq))
  have HWE := Lib.hid hW
  have HF := Lib.hid (show ∀ x, x < w.heap.size → x < W.heap.size ∧ W.heap[x]? = w.heap[x]? from fun x hx => ⟨Nat.lt_of_lt_of_le hx hst0.size, hst0.block x hx⟩)
  clear h hst0 hq hB hW
  go_enter Try.func24, Try.ntmps24
  go_upto_region 1 with (fail)
  rw [HWE.out]
  clear HWE
  have hs := HS.out.1
  have hBw : Below n0 w W ∧ (∀ x, x < W.heap.size → (x < n0 ∨ hi ≤ x) → W.heap[x]? = W.heap[x]?) := ⟨HS.out.2.1, fun _ _ _ => rfl⟩
  have hq := HS.out.2.2
  obtain ⟨wr, hwr⟩ : ∃ v, v = W := ⟨_, rfl⟩
  rw [← hwr] at hs hq ⊢
  have hBw : Below n0 w wr ∧ (∀ x, x < W.heap.size → (x < n0 ∨ hi ≤ x) → wr.heap[x]? = W.heap[x]?) := by rw [hwr]; exact hBw
  clear hwr HS
  have q0 := blk_cell hq 0
  have q1 := blk_cell hq 1
  have q2 := blk_cell hq 2
  have q3 := blk_cell hq 3
  simp at q0 q1 q2 q3
  have HM := Lib.hid (And.intro hs (And.intro hBw hq))
  obtain ⟨wm, hwm⟩ : ∃ wm, wm = wr := ⟨_, rfl⟩
  subst hwm
  clear hs hBw hq
  go_wp2_with fail
  go_loopw [2] (fun i wr => ∃ k : Nat, k ≤ nb ∧ i = .int .i64 k ∧ SpT wr n0 hi (.slice ab nb cb) (.slice au nu cu) (.slice ax nx cx) (.slice ay ny cy) nb nu nx ny ∧ (Below n0 w wr ∧ (∀ x, x < W.heap.size → (x < n0 ∨ hi ≤ x) → wr.heap[x]? = W.heap[x]?)) ∧ wr.heap[w.heap.size]? = some (.cells #[.slice ab nb cb, .slice au nu cu, .slice ax nx cx, .slice ay ny cy] 28 (0, 0))) (fun i _ => nb - (intOf i).toNat)
  case atStart => exact ⟨0, Nat.zero_le _, rfl, HM.out.1, HM.out.2.1, HM.out.2.2⟩
  case round =>
  obtain ⟨k, hk, rfl, hs, hBw, hq⟩ := hrel
  clear q0 q1 q2 q3
  have q0 := blk_cell hq 0
  have q1 := blk_cell hq 1
  have q2 := blk_cell hq 2
  have q3 := blk_cell hq 3
  simp at q0 q1 q2 q3
  by_cases hlt : k < nb
  case pos =>
    obtain ⟨a', c', e', -, z2, z3⟩ := id hs.1
    obtain ⟨bb, bo, ea, zl, zh, zc⟩ := z3 (by omega)
    cases e'
    subst ea
    obtain ⟨sa, sc, m, hcell, hsp⟩ := zc k hlt
    obtain ⟨pa, pc, e2, y1, y2, y3⟩ := id hsp
    cases e2
    have hcell0 : wr.cell? ⟨bb, bo + k, none⟩ = some (.slice sa m sc) := by simpa using hcell
    unfold maxLen at z2 y2
    obtain ⟨wo, hwo⟩ : ∃ wo, wo = wr := ⟨_, rfl⟩
    subst hwo
    have HK := Lib.hid (And.intro hs (And.intro hBw (And.intro hq (And.intro hsp hcell))))
    clear hs hBw hq hsp hcell z3 zc y3
    go_wp2_with fail
    go_loopw [3] (fun i wx => ∃ j : Nat, j ≤ m ∧ i = .int .i64 j ∧ SpT wx n0 hi (.slice (some ⟨bb, bo, none⟩) nb cb) (.slice au nu cu) (.slice ax nx cx) (.slice ay ny cy) nb nu nx ny ∧ (Below n0 w wx ∧ (∀ x, x < W.heap.size → (x < n0 ∨ hi ≤ x) → wx.heap[x]? = W.heap[x]?)) ∧ wx.heap[w.heap.size]? = some (.cells #[.slice (some ⟨bb, bo, none⟩) nb cb, .slice au nu cu, .slice ax nx cx, .slice ay ny cy] 28 (0, 0)) ∧ SpoB wx n0 hi (.slice sa m sc) m ∧ wx.cell? ⟨bb, bo + k * 1 + 0, none⟩ = some (.slice sa m sc)) (fun i _ => m - (intOf i).toNat)
    case atStart => exact ⟨0, Nat.zero_le _, rfl, HK.out.1, HK.out.2.1, HK.out.2.2.1, HK.out.2.2.2.1, HK.out.2.2.2.2⟩
    case round =>
    obtain ⟨j, hj, rfl, hs, hBw, hq, hsp, hcell⟩ := hrel
    clear q0 q1 q2 q3 hcell0
    have q0 := blk_cell hq 0
    have q1 := blk_cell hq 1
    have q2 := blk_cell hq 2
    have q3 := blk_cell hq 3
    simp at q0 q1 q2 q3
    have hcell0 : wr.cell? ⟨bb, bo + k, none⟩ = some (.slice sa m sc) := by simpa using hcell
    by_cases hjm : j < m
    · obtain ⟨pa, pc, e2, y1, y2, y3⟩ := id hsp
      cases e2
      obtain ⟨sb, so, ea, t1, t2, t3⟩ := y3 (by omega)
      subst ea
      obtain ⟨x, hx, hxf⟩ := t3 j hjm
      have hx0 : wr.cell? ⟨sb, so + j, none⟩ = some (.int .u8 (x.toNat : Int)) := hx
      have hx1 : (x.toNat : Int) < 256 := by have := x.toNat_lt; omega
      have HJ := Lib.hid (And.intro hs (And.intro hBw (And.intro hq (And.intro hsp (And.intro hcell (And.intro hx (spo_add x)))))))
      clear hs hBw hq hsp hcell hx y3 t3
      unfold maxLen at y2
      go_wp2_with fail
      go_still_tail 18, (by kernel_rfl)
      go_wp2
      go_roundw
      case rel =>
        obtain ⟨hs, hBw, hq, hsp, hcell, hx, hadd⟩ := HJ.out
        rw [hadd]
        have hsb : w.heap.size ≠ sb := by omega
        exact ⟨j + 1, by omega, by go_num, SpT.set (w := wr) hs _ _ (x + 1) hx, ⟨hBw.1.drew.setCell (p := ⟨sb, so + j, none⟩) t1 _, fun x h1 h2 => (set_other wr sb (so + j) _ x (by omega)).trans (hBw.2 x h1 h2)⟩, (set_other wr sb (so + j) _ _ hsb).trans hq, SpoB.set (w := wr) hsp _ _ (x + 1) hx, spo_other (w := wr) (y := x + 1) hx hcell (fun z e => by cases e)⟩
      case measure => simp [intOf]; omega
    obtain rfl : m = j := by omega
    have HJ := Lib.hid (And.intro hs (And.intro hBw hq))
    clear hs hBw hq hsp hcell hj hjm
    go_wp2
    go_roundw
    case rel => exact ⟨k + 1, by omega, by go_num, HJ.out.1, HJ.out.2.1, HJ.out.2.2⟩
    case measure => simp [intOf]; omega
  obtain rfl : nb = k := by omega
  clear hlt hk HM q0 q1 q2 q3
  have q0 := blk_cell hq 0
  have q1 := blk_cell hq 1
  have q2 := blk_cell hq 2
  have q3 := blk_cell hq 3
  simp at q0 q1 q2 q3
  have HM := Lib.hid (And.intro hs (And.intro hBw hq))
  obtain ⟨wm, hwm⟩ : ∃ wm, wm = wr := ⟨_, rfl⟩
  subst hwm
  clear hs hBw hq
  go_wp2_with fail
  go_loopw [4] (fun i wr => ∃ k : Nat, k ≤ nu ∧ i = .int .i64 k ∧ SpT wr n0 hi (.slice ab nb cb) (.slice au nu cu) (.slice ax nx cx) (.slice ay ny cy) nb nu nx ny ∧ (Below n0 w wr ∧ (∀ x, x < W.heap.size → (x < n0 ∨ hi ≤ x) → wr.heap[x]? = W.heap[x]?)) ∧ wr.heap[w.heap.size]? = some (.cells #[.slice ab nb cb, .slice au nu cu, .slice ax nx cx, .slice ay ny cy] 28 (0, 0))) (fun i _ => nu - (intOf i).toNat)
  case atStart => exact ⟨0, Nat.zero_le _, rfl, HM.out.1, HM.out.2.1, HM.out.2.2⟩
  case round =>
  obtain ⟨k, hk, rfl, hs, hBw, hq⟩ := hrel
  clear q0 q1 q2 q3
  have q0 := blk_cell hq 0
  have q1 := blk_cell hq 1
  have q2 := blk_cell hq 2
  have q3 := blk_cell hq 3
  simp at q0 q1 q2 q3
  by_cases hlt : k < nu
  case pos =>
    obtain ⟨a', c', e', -, z2, z3⟩ := id hs.2.1
    obtain ⟨bb, bo, ea, zl, zh, zc⟩ := z3 (by omega)
    cases e'
    subst ea
    obtain ⟨sa, sc, m, hcell, hsp⟩ := zc k hlt
    obtain ⟨pa, pc, e2, y1, y2, y3⟩ := id hsp
    cases e2
    have hcell0 : wr.cell? ⟨bb, bo + k * 2 + 1, none⟩ = some (.slice sa m sc) := by simpa using hcell
    unfold maxLen at z2 y2
    obtain ⟨wo, hwo⟩ : ∃ wo, wo = wr := ⟨_, rfl⟩
    subst hwo
    have HK := Lib.hid (And.intro hs (And.intro hBw (And.intro hq (And.intro hsp hcell))))
    clear hs hBw hq hsp hcell z3 zc y3
    go_wp2_with fail
    go_loopw [5] (fun i wx => ∃ j : Nat, j ≤ m ∧ i = .int .i64 j ∧ SpT wx n0 hi (.slice ab nb cb) (.slice (some ⟨bb, bo, none⟩) nu cu) (.slice ax nx cx) (.slice ay ny cy) nb nu nx ny ∧ (Below n0 w wx ∧ (∀ x, x < W.heap.size → (x < n0 ∨ hi ≤ x) → wx.heap[x]? = W.heap[x]?)) ∧ wx.heap[w.heap.size]? = some (.cells #[.slice ab nb cb, .slice (some ⟨bb, bo, none⟩) nu cu, .slice ax nx cx, .slice ay ny cy] 28 (0, 0)) ∧ SpoB wx n0 hi (.slice sa m sc) m ∧ wx.cell? ⟨bb, bo + k * 2 + 1, none⟩ = some (.slice sa m sc)) (fun i _ => m - (intOf i).toNat)
    case atStart => exact ⟨0, Nat.zero_le _, rfl, HK.out.1, HK.out.2.1, HK.out.2.2.1, HK.out.2.2.2.1, HK.out.2.2.2.2⟩
    case round =>
    obtain ⟨j, hj, rfl, hs, hBw, hq, hsp, hcell⟩ := hrel
    clear q0 q1 q2 q3 hcell0
    have q0 := blk_cell hq 0
    have q1 := blk_cell hq 1
    have q2 := blk_cell hq 2
    have q3 := blk_cell hq 3
    simp at q0 q1 q2 q3
    have hcell0 : wr.cell? ⟨bb, bo + k * 2 + 1, none⟩ = some (.slice sa m sc) := by simpa using hcell
    by_cases hjm : j < m
    · obtain ⟨pa, pc, e2, y1, y2, y3⟩ := id hsp
      cases e2
      obtain ⟨sb, so, ea, t1, t2, t3⟩ := y3 (by omega)
      subst ea
      obtain ⟨x, hx, hxf⟩ := t3 j hjm
      have hx0 : wr.cell? ⟨sb, so + j, none⟩ = some (.int .u8 (x.toNat : Int)) := hx
      have hx1 : (x.toNat : Int) < 256 := by have := x.toNat_lt; omega
      have HJ := Lib.hid (And.intro hs (And.intro hBw (And.intro hq (And.intro hsp (And.intro hcell (And.intro hx (spo_add x)))))))
      clear hs hBw hq hsp hcell hx y3 t3
      unfold maxLen at y2
      go_wp2_with fail
      go_still_tail 20, (by kernel_rfl)
      go_wp2
      go_roundw
      case rel =>
        obtain ⟨hs, hBw, hq, hsp, hcell, hx, hadd⟩ := HJ.out
        rw [hadd]
        have hsb : w.heap.size ≠ sb := by omega
        exact ⟨j + 1, by omega, by go_num, SpT.set (w := wr) hs _ _ (x + 1) hx, ⟨hBw.1.drew.setCell (p := ⟨sb, so + j, none⟩) t1 _, fun x h1 h2 => (set_other wr sb (so + j) _ x (by omega)).trans (hBw.2 x h1 h2)⟩, (set_other wr sb (so + j) _ _ hsb).trans hq, SpoB.set (w := wr) hsp _ _ (x + 1) hx, spo_other (w := wr) (y := x + 1) hx hcell (fun z e => by cases e)⟩
      case measure => simp [intOf]; omega
    obtain rfl : m = j := by omega
    have HJ := Lib.hid (And.intro hs (And.intro hBw hq))
    clear hs hBw hq hsp hcell hj hjm
    go_wp2
    go_roundw
    case rel => exact ⟨k + 1, by omega, by go_num, HJ.out.1, HJ.out.2.1, HJ.out.2.2⟩
    case measure => simp [intOf]; omega
  obtain rfl : nu = k := by omega
  clear hlt hk HM q0 q1 q2 q3
  have q0 := blk_cell hq 0
  have q1 := blk_cell hq 1
  have q2 := blk_cell hq 2
  have q3 := blk_cell hq 3
  simp at q0 q1 q2 q3
  have HM := Lib.hid (And.intro hs (And.intro hBw hq))
  obtain ⟨wm, hwm⟩ : ∃ wm, wm = wr := ⟨_, rfl⟩
  subst hwm
  clear hs hBw hq
  go_wp2_with fail
  go_loopw [6] (fun i wr => ∃ j : Nat, j ≤ nx ∧ i = .int .i64 j ∧ SpT wr n0 hi (.slice ab nb cb) (.slice au nu cu) (.slice ax nx cx) (.slice ay ny cy) nb nu nx ny ∧ (Below n0 w wr ∧ (∀ x, x < W.heap.size → (x < n0 ∨ hi ≤ x) → wr.heap[x]? = W.heap[x]?)) ∧ wr.heap[w.heap.size]? = some (.cells #[.slice ab nb cb, .slice au nu cu, .slice ax nx cx, .slice ay ny cy] 28 (0, 0))) (fun i _ => nx - (intOf i).toNat)
  case atStart => exact ⟨0, Nat.zero_le _, rfl, HM.out.1, HM.out.2.1, HM.out.2.2⟩
  case round =>
  obtain ⟨j, hj, rfl, hs, hBw, hq⟩ := hrel
  clear q0 q1 q2 q3
  have q0 := blk_cell hq 0
  have q1 := blk_cell hq 1
  have q2 := blk_cell hq 2
  have q3 := blk_cell hq 3
  simp at q0 q1 q2 q3
  by_cases hlt : j < nx
  case pos =>
    obtain ⟨pa, pc, e2, y1, y2, y3⟩ := id hs.2.2.1
    cases e2
    obtain ⟨sb, so, ea, t1, t2, t3⟩ := y3 (by omega)
    subst ea
    obtain ⟨x, hx, hxf⟩ := t3 j hlt
    have hx0 : wr.cell? ⟨sb, so + j, none⟩ = some (.int .u8 (x.toNat : Int)) := hx
    have hx1 : (x.toNat : Int) < 256 := by have := x.toNat_lt; omega
    have HJ := Lib.hid (And.intro hs (And.intro hBw (And.intro hq (And.intro hx (spo_add x)))))
    clear hs hBw hq hx y3 t3
    unfold maxLen at y2
    go_wp2_with fail
    go_still_tail 10, (by kernel_rfl)
    go_wp2
    go_roundw
    case rel =>
      obtain ⟨hs, hBw, hq, hx, hadd⟩ := HJ.out
      rw [hadd]
      have hsb : w.heap.size ≠ sb := by omega
      exact ⟨j + 1, by omega, by go_num, SpT.set (w := wr) hs _ _ (x + 1) hx, ⟨hBw.1.drew.setCell (p := ⟨sb, so + j, none⟩) t1 _, fun x h1 h2 => (set_other wr sb (so + j) _ x (by omega)).trans (hBw.2 x h1 h2)⟩, (set_other wr sb (so + j) _ _ hsb).trans hq⟩
    case measure => simp [intOf]; omega
  obtain rfl : nx = j := by omega
  clear hlt hj HM q0 q1 q2 q3
  have q0 := blk_cell hq 0
  have q1 := blk_cell hq 1
  have q2 := blk_cell hq 2
  have q3 := blk_cell hq 3
  simp at q0 q1 q2 q3
  have HM := Lib.hid (And.intro hs (And.intro hBw hq))
  obtain ⟨wm, hwm⟩ : ∃ wm, wm = wr := ⟨_, rfl⟩
  subst hwm
  clear hs hBw hq
  go_wp2_with fail
  go_loopw [7] (fun i wr => ∃ j : Nat, j ≤ ny ∧ i = .int .i64 j ∧ SpT wr n0 hi (.slice ab nb cb) (.slice au nu cu) (.slice ax nx cx) (.slice ay ny cy) nb nu nx ny ∧ (Below n0 w wr ∧ (∀ x, x < W.heap.size → (x < n0 ∨ hi ≤ x) → wr.heap[x]? = W.heap[x]?)) ∧ wr.heap[w.heap.size]? = some (.cells #[.slice ab nb cb, .slice au nu cu, .slice ax nx cx, .slice ay ny cy] 28 (0, 0))) (fun i _ => ny - (intOf i).toNat)
  case atStart => exact ⟨0, Nat.zero_le _, rfl, HM.out.1, HM.out.2.1, HM.out.2.2⟩
  case round =>
  obtain ⟨j, hj, rfl, hs, hBw, hq⟩ := hrel
  clear q0 q1 q2 q3
  have q0 := blk_cell hq 0
  have q1 := blk_cell hq 1
  have q2 := blk_cell hq 2
  have q3 := blk_cell hq 3
  simp at q0 q1 q2 q3
  by_cases hlt : j < ny
  case pos =>
    obtain ⟨pa, pc, e2, y1, y2, y3⟩ := id hs.2.2.2
    cases e2
    obtain ⟨sb, so, ea, t1, t2, t3⟩ := y3 (by omega)
    subst ea
    obtain ⟨x, hx, hxf⟩ := t3 j hlt
    have hx0 : wr.cell? ⟨sb, so + j, none⟩ = some (.int .u8 (x.toNat : Int)) := hx
    have hx1 : (x.toNat : Int) < 256 := by have := x.toNat_lt; omega
    have HJ := Lib.hid (And.intro hs (And.intro hBw (And.intro hq (And.intro hx (spo_add x)))))
    clear hs hBw hq hx y3 t3
    unfold maxLen at y2
    go_wp2_with fail
    go_still_tail 10, (by kernel_rfl)
    go_wp2
    go_roundw
    case rel =>
      obtain ⟨hs, hBw, hq, hx, hadd⟩ := HJ.out
      rw [hadd]
      have hsb : w.heap.size ≠ sb := by omega
      exact ⟨j + 1, by omega, by go_num, SpT.set (w := wr) hs _ _ (x + 1) hx, ⟨hBw.1.drew.setCell (p := ⟨sb, so + j, none⟩) t1 _, fun x h1 h2 => (set_other wr sb (so + j) _ x (by omega)).trans (hBw.2 x h1 h2)⟩, (set_other wr sb (so + j) _ _ hsb).trans hq⟩
    case measure => simp [intOf]; omega
  obtain rfl : ny = j := by omega
  clear hlt hj HM q0 q1 q2 q3
  have q0 := blk_cell hq 0
  have q1 := blk_cell hq 1
  have q2 := blk_cell hq 2
  have q3 := blk_cell hq 3
  simp at q0 q1 q2 q3
  have hBf := hBw
  clear hs hBw hq
  go_wp2
  go_end0
  exact ⟨⟨_, rfl⟩, hBf.1, fun x h1 h2 => (hBf.2 x (HF.out x h1).1 h2).trans (HF.out x h1).2⟩
end Go.Proofs.Ytkfgegdnpinbdaa

namespace Go.Proofs.Ytkfgegdnpinbdaa
open Go.ChangeShapes Go.WideShapes Go.ChangeAt Go.RowKit

theorem own_ : ownKnob Try.prog.godebug = none := by kernel_rfl
theorem laidOut_ : laidOutB Try.prog = true := by kernel_rfl

theorem arg_bytes {H : Type} {enc : TypeId × Value → H} {P : Program} {W : World} {r : Reach} {base b0 : Nat} {spare : Nat → Bool} {held : Bool} {t e : TypeId} {v : Value} {d : DataW H} {p : List MemPlace} (ht : P.underlying t = some (.slice e)) (he : P.underlying e = some (.int .u8))
    (hC : P.cellsOf e = 1) (hv : Value.okWide P W r base t v) (h : DataW.Trod enc P W b0 spare held t v d p) : ∃ l, Bytes W 0 W.heap.size v l := by
  obtain ⟨a, len, cap, rfl⟩ := okWide_slice ht hv
  obtain ⟨fuel, hf⟩ := h
  rcases open_ints ht he hC hf with ⟨hcs, _⟩ | ⟨x, l, c, zs, hcs, _, hl, hm, hz, _, hcell, hwz⟩
  · simp [Value.cells] at hcs
    obtain ⟨rfl, rfl, rfl⟩ := hcs
    exact ⟨[], Bytes.nil_ _ _ _⟩
  · simp [Value.cells] at hcs
    obtain ⟨rfl, rfl, rfl⟩ := hcs
    have hz' : zs.length = cap ∨ zs.length = len := by first | exact .inl hz | (split at hz <;> first | exact .inl hz | exact .inr hz)
    have hb8 : ∀ n ∈ zs, 0 ≤ n ∧ n ≤ 255 := fun n hn => bounds_u8 (hwz n hn)
    have hll : len ≤ zs.length := by omega
    refine ⟨(zs.take len).map fun n => UInt8.ofNat n.toNat, some x, cap, by simp [Nat.min_eq_left hll], by simp; omega, hm, fun hp => ?_, fun h => by cases h⟩
    have hp' : 0 < len := by simp at hp; omega
    have h0 := hcell 0 (by omega)
    obtain ⟨b, off, spot⟩ := x
    have hspot : spot = none := by simpa [Addr.add] using World.cell?_spot h0
    subst hspot
    have hblk : b < W.heap.size := cell_lt' (a := ⟨b, off, none⟩) (by simpa [Addr.add] using h0)
    refine ⟨b, off, rfl, Nat.zero_le _, hblk, fun i y hy => ?_⟩
    have hi : i < len := by have := (List.getElem?_eq_some_iff.1 hy).1; simp at this; omega
    have hc := hcell i (by omega)
    have e2 : (⟨b, off, none⟩ : Addr).add i = ⟨b, off + i, none⟩ := by unfold Addr.add; split <;> simp_all
    rw [e2] at hc
    rw [hc]
    have hi2 : i < zs.length := by omega
    have hbz := hb8 zs[i] (List.getElem_mem hi2)
    simp [hi, hi2] at hy
    subst hy
    simp [bV, hi2]
    omega
end Go.Proofs.Ytkfgegdnpinbdaa

namespace Go.Proofs.Ytkfgegdnpinbdaa
open Go.RowKit

theorem Sl.cellI {k : IntKind} {w : World} {lo hi n c b off : Nat} {l : List Int} (h : Sl (rInt k) w lo hi (.slice (some ⟨b, off, none⟩) n c) l) (i : Nat) (hx : i < l.length) : w.cell? ⟨b, off + i, none⟩ = some (.int k (l.getD i 0)) := by
  obtain ⟨a, c', e, h1, h2, h3, h4⟩ := h
  cases e
  obtain ⟨b', off', ea, _, _, hc⟩ := h3 (by omega)
  cases ea
  have := (hc i (l.getD i 0) (by simp [hx])).1
  simpa [rInt] using this
end Go.Proofs.Ytkfgegdnpinbdaa

namespace Go.Proofs.Ytkfgegdnpinbdaa
open Go.RowKit

set_option maxRecDepth 100000 in
set_option maxHeartbeats 1000000 in
/-- SameNumbers. -/
theorem rnums_any (v u : Value) (l m : List Int) (w : World) (hv : Sl (rInt .i64) w 0 w.heap.size v l) (hu : Sl (rInt .i64) w 0 w.heap.size u m) :
    Calls Try.prog 15 #[v, u] w fun e w' => e = .returned (.bool (decide (l = m))) ∧ Below w.heap.size w w' := by
  have HV := Lib.hid hv
  have HU := Lib.hid hu
  obtain ⟨av, cv, rfl, g1, g2, -, -⟩ := hv
  obtain ⟨au, cu, rfl, g1', g2', -, -⟩ := hu
  unfold maxLen at g2 g2'
  obtain ⟨r, hr⟩ : ∃ r, decide (l = m) = r := ⟨_, rfl⟩
  rw [hr]
  have HR := Lib.hid hr
  clear hr
  go_enter Try.func15, Try.ntmps15
  by_cases hl : l.length = m.length
  case neg =>
    obtain rfl : r = false := by
      rw [← HR.out]
      exact decide_eq_false (fun e => hl (by rw [e]))
    have i1 : ¬ (l.length : Int) = m.length := by omega
    go_wp2
    go_ret
    exact ⟨rfl, Below.refl _ _⟩
  have i1 : ((l.length : Int) != m.length) = false := by simp; omega
  have HL := Lib.hid hl
  have hlm : l.length ≤ m.length := by omega
  clear hl
  go_wp2
  go_loopw [5] (fun i wr => ∃ k : Nat, k ≤ l.length ∧ i = .int .i64 k ∧ Below w.heap.size w wr ∧ ∀ j, j < k → l.getD j 0 = m.getD j 0) (fun i _ => l.length - (intOf i).toNat)
  case atStart => exact ⟨0, Nat.zero_le _, rfl, Below.refl _ _, fun j hj => absurd hj (Nat.not_lt_zero _)⟩
  case round =>
  obtain ⟨k, hk, rfl, hB, hall⟩ := hrel
  by_cases hlt : k < l.length
  · obtain ⟨b1, o1, c1, e1, -, hz1, -, z3, -⟩ := HV.out.at_ (by omega)
    injection e1 with ea _ ec
    subst ea ec
    obtain ⟨b2, o2, c2, e2, -, hz2, -, z3', -⟩ := HU.out.at_ (by omega)
    injection e2 with ea _ ec
    subst ea ec
    have ck1 := (HV.out.below hB (Nat.le_refl _)).cellI k hlt
    have ck2 := (HU.out.below hB (Nat.le_refl _)).cellI k (by omega)
    obtain ⟨X, hX⟩ : ∃ X, l.getD k 0 = X := ⟨_, rfl⟩
    obtain ⟨Y, hY⟩ : ∃ Y, m.getD k 0 = Y := ⟨_, rfl⟩
    rw [hX] at ck1
    rw [hY] at ck2
    have hkm : k < m.length := by omega
    unfold maxLen at z3 z3'
    have HP := Lib.hid (And.intro hall (And.intro hB (And.intro hX hY)))
    clear hall hB hX hY
    by_cases he : X = Y
    · subst he
      have HE := Lib.hid (show l.getD k 0 = m.getD k 0 by rw [HP.out.2.2.1, HP.out.2.2.2])
      have n1 : (X != X) = false := by simp
      go_upto_region 6 with (fail)
      go_quiet (fail)
      go_wp2
      go_roundw
      case measure => simp only [intOf]; omega
      case rel =>
        refine ⟨k + 1, by omega, by go_num, below_step HP.out.2.1 HP.out.2.1.size (below_dr _ _), fun j hj => ?_⟩
        rcases Nat.lt_succ_iff_lt_or_eq.1 hj with h | rfl
        · exact HP.out.1 j h
        · exact HE.out
    · obtain rfl : r = false := by
        rw [← HR.out]
        refine decide_eq_false fun e => he ?_
        rw [← HP.out.2.2.1, ← HP.out.2.2.2, e]
      have n1 : (X != Y) = true := by simpa using he
      have n2 : (X == Y) = false := by simpa using he
      go_upto_region 6 with (fail)
      go_quiet (fail)
      go_wp2
      go_ret
      exact ⟨rfl, below_step HP.out.2.1 HP.out.2.1.size (below_dr _ _)⟩
  · have hkl : k = l.length := by omega
    subst hkl
    obtain rfl : r = true := by
      rw [← HR.out]
      exact decide_eq_true (ext_getD l m 0 HL.out hall)
    go_wp2
    go_ret
    exact ⟨rfl, hB⟩
end Go.Proofs.Ytkfgegdnpinbdaa

namespace Go.Proofs.Ytkfgegdnpinbdaa
open Go.RowKit

set_option maxRecDepth 100000 in
set_option maxHeartbeats 2000000 in
theorem rsitems_any (v u : Value) (l m : List ItemL) (w : World) (hv : Sl rItem w 0 w.heap.size v l) (hu : Sl rItem w 0 w.heap.size u m) :
    Calls Try.prog 50 #[v, u] w fun e w' => e = .returned (.bool (decide (l = m))) ∧ Below w.heap.size w w' := by
  have HV := Lib.hid hv
  have HU := Lib.hid hu
  obtain ⟨av, cv, rfl, g1, g2, -, -⟩ := hv
  obtain ⟨au, cu, rfl, g3, g4, -, -⟩ := hu
  obtain ⟨r, hr⟩ : ∃ r, decide (l = m) = r := ⟨_, rfl⟩
  rw [hr]
  have HR := Lib.hid hr
  clear hr
  go_enter Try.func50, Try.ntmps50
  by_cases hl : l.length = m.length
  case neg =>
    obtain rfl : r = false := by
      rw [← HR.out]
      exact decide_eq_false (fun e => hl (by rw [e]))
    have i1 : ¬ (l.length : Int) = m.length := by omega
    go_wp2
    go_ret
    exact ⟨rfl, Below.refl _ _⟩
  have i1 : ((l.length : Int) != m.length) = false := by simp; omega
  have HL := Lib.hid hl
  have hlm : l.length ≤ m.length := by omega
  clear hl
  go_wp2_with fail
  go_loopw [5] (fun i wr => ∃ k : Nat, k ≤ l.length ∧ i = .int .i64 k ∧ Below w.heap.size w wr ∧ ∀ j, j < k → l.getD j nokI = m.getD j nokI) (fun i _ => l.length - (intOf i).toNat)
  case atStart => exact ⟨0, Nat.zero_le _, rfl, Below.refl _ _, fun j hj => absurd hj (Nat.not_lt_zero _)⟩
  case round =>
  obtain ⟨k, hk, rfl, hB, hall⟩ := hrel
  by_cases hlt : k < l.length
  · obtain ⟨b1, o1, c1, e1, -, hz1, -, z3, hb1⟩ := HV.out.at_ (by omega)
    injection e1 with ea _ ec
    subst ea ec
    obtain ⟨b2, o2, c2, e2, -, hz2, -, z3', hb2⟩ := HU.out.at_ (by omega)
    injection e2 with ea _ ec
    subst ea ec
    obtain ⟨f0, f1, f2, f3, -, x, f4, hxb⟩ := hb1 k (l.getD k nokI) (get_l _ _ _ hlt)
    obtain ⟨h0, h1, h2, h3, -, y, h4, hyb⟩ := hb2 k (m.getD k nokI) (get_l _ _ _ (by omega))
    obtain ⟨X, hX⟩ : ∃ X, l.getD k nokI = X := ⟨_, rfl⟩
    obtain ⟨Y, hY⟩ : ∃ Y, m.getD k nokI = Y := ⟨_, rfl⟩
    rw [hX] at f0 f1 f2 f3 hxb
    rw [hY] at h0 h1 h2 h3 hyb
    obtain ⟨xn, hxn⟩ : ∃ xn, X.val.length = xn := ⟨_, rfl⟩
    obtain ⟨yn, hyn⟩ : ∃ yn, Y.val.length = yn := ⟨_, rfl⟩
    obtain ⟨a1, k1, rfl, -, -⟩ := hxb.form hxn
    obtain ⟨a2, k2, rfl, -, -⟩ := hyb.form hyn
    have hz1b : b1 < wr.heap.size := Nat.lt_of_lt_of_le hz1 hB.size
    have hz2b : b2 < wr.heap.size := Nat.lt_of_lt_of_le hz2 hB.size
    have hn5 : rItem.n = 5 := rfl
    rw [hn5] at f0 f1 f2 f3 f4 h0 h1 h2 h3 h4
    simp only [bV, wV, Nat.add_zero] at f0 f1 f2 f3 f4 h0 h1 h2 h3 h4
    replace f0 := fun X => ((aft_below wr X).cell (p := ⟨b1, o1 + k * 5, none⟩) hz1b).trans ((hB.cell (p := ⟨b1, o1 + k * 5, none⟩) hz1).trans f0)
    replace f1 := fun X => ((aft_below wr X).cell (p := ⟨b1, o1 + k * 5 + 1, none⟩) hz1b).trans ((hB.cell (p := ⟨b1, o1 + k * 5 + 1, none⟩) hz1).trans f1)
    replace f2 := fun X => ((aft_below wr X).cell (p := ⟨b1, o1 + k * 5 + 2, none⟩) hz1b).trans ((hB.cell (p := ⟨b1, o1 + k * 5 + 2, none⟩) hz1).trans f2)
    replace f3 := fun X => ((aft_below wr X).cell (p := ⟨b1, o1 + k * 5 + 3, none⟩) hz1b).trans ((hB.cell (p := ⟨b1, o1 + k * 5 + 3, none⟩) hz1).trans f3)
    replace f4 := fun X => ((aft_below wr X).cell (p := ⟨b1, o1 + k * 5 + 4, none⟩) hz1b).trans ((hB.cell (p := ⟨b1, o1 + k * 5 + 4, none⟩) hz1).trans f4)
    replace h0 := fun X => ((aft_below wr X).cell (p := ⟨b2, o2 + k * 5, none⟩) hz2b).trans ((hB.cell (p := ⟨b2, o2 + k * 5, none⟩) hz2).trans h0)
    replace h1 := fun X => ((aft_below wr X).cell (p := ⟨b2, o2 + k * 5 + 1, none⟩) hz2b).trans ((hB.cell (p := ⟨b2, o2 + k * 5 + 1, none⟩) hz2).trans h1)
    replace h2 := fun X => ((aft_below wr X).cell (p := ⟨b2, o2 + k * 5 + 2, none⟩) hz2b).trans ((hB.cell (p := ⟨b2, o2 + k * 5 + 2, none⟩) hz2).trans h2)
    replace h3 := fun X => ((aft_below wr X).cell (p := ⟨b2, o2 + k * 5 + 3, none⟩) hz2b).trans ((hB.cell (p := ⟨b2, o2 + k * 5 + 3, none⟩) hz2).trans h3)
    replace h4 := fun X => ((aft_below wr X).cell (p := ⟨b2, o2 + k * 5 + 4, none⟩) hz2b).trans ((hB.cell (p := ⟨b2, o2 + k * 5 + 4, none⟩) hz2).trans h4)
    have hkm : k < m.length := by omega
    have j1 : ¬ (l.length : Int) ≤ k := by omega
    have j2 : ¬ (m.length : Int) ≤ k := by omega
    unfold maxLen at z3 z3'
    have hxb' := hxb.below hB (Nat.le_refl _)
    have hyb' := hyb.below hB (Nat.le_refl _)
    have hBs := hB.size
    have hxw : Bytes wr 0 wr.heap.size _ _ := hxb'.more (Nat.le_refl 0) hBs
    have hyw : Bytes wr 0 wr.heap.size _ _ := hyb'.more (Nat.le_refl 0) hBs
    have HP := Lib.hid (And.intro hall (And.intro hB (And.intro hxw (And.intro hyw (And.intro hX hY)))))
    clear hall hB hxb hyb hxb' hyb' hX hY hb1 hb2 hxn hyn hn5 hxw hyw
    have ks := fun V hh h2 => rsame_any X Y (.slice a1 xn k1) (.slice a2 yn k2) V hh h2
    simp only [itemV, bV, wV] at ks
    have KS := Lib.hid ks
    clear ks
    go_upto_region 6 with (fail)
    refine wp_region_held_drew (S := Cls wr) (by kernel_rfl) (Cls.drew wr) (fun hCl => ?_)
    refine wpAnyH_seg (fuel := 2) (by kernel_rfl) (fun _ d _ _ _ h => by cases d <;> exact h) hCl [0, 1, 2, 3, 4, 5, 6, 7] _ _ _ (by kernel_rfl) (by kernel_rfl) ?_
    simp only [opsOf_cons, opsOf_nil, consOp_some, List.getElem?_toArray, List.getElem?_cons_succ, List.getElem?_cons_zero]
    repeat (first | go_big_quiet_step (fail) | quiet_step (fail))
    refine wpQuiet_nil ?_
    refine wpAnyH_each (fuel := 1) [8] (by kernel_rfl) (by simp) (by kernel_rfl) ?_
    refine Each.cons _ rfl (fun K' hK => ?_) Each.nil
    go_simp
    refine (KS.out _ (HP.out.2.2.1.step hCl.below) (HP.out.2.2.2.1.step hCl.below)).mono ?_
    rintro e z1 ⟨rfl, hb⟩
    have hst := below_step hCl.below hCl.below.size hb
    clear hb
    have hCl := Cls.of hst
    refine hK.out (Cls wr) (fun _ h => h) hCl ?_
    clear hK K'
    refine wpAnyH_seg (fuel := 0) (by kernel_rfl) (fun _ d _ _ _ h => by cases d <;> exact h) hCl [9] _ _ _ (by kernel_rfl) (by kernel_rfl) ?_
    simp only [opsOf_cons, opsOf_nil, consOp_some, List.getElem?_toArray, List.getElem?_cons_succ, List.getElem?_cons_zero]
    repeat (first | go_big_quiet_step (fail) | quiet_step (fail))
    refine wpQuiet_nil ?_
    refine wpAnyH_done (by kernel_rfl) ?_ _
    have hfin := below_step HP.out.2.1 HP.out.2.1.size hst
    clear hst f0 f1 f2 f3 f4 h0 h1 h2 h3 h4
    by_cases he : X = Y
    · rw [decide_eq_true he]
      have HE := Lib.hid (show l.getD k nokI = m.getD k nokI by rw [HP.out.2.2.2.2.1, HP.out.2.2.2.2.2, he])
      clear he
      go_wp2
      go_roundw
      case rel => exact ⟨k + 1, by omega, by go_num, hfin, fun j hj => by
        rcases Nat.lt_succ_iff_lt_or_eq.1 hj with hj | rfl
        · exact HP.out.1 j hj
        · exact HE.out⟩
      case measure => simp [intOf]; omega
    · rw [decide_eq_false he]
      obtain rfl : r = false := by
        rw [← HR.out]
        exact decide_eq_false (fun e => he (by rw [← HP.out.2.2.2.2.1, ← HP.out.2.2.2.2.2, e]))
      clear he
      go_wp2
      go_ret
      exact ⟨rfl, hfin⟩
  obtain rfl : k = l.length := by omega
  obtain rfl : r = true := by
    rw [← HR.out]
    exact decide_eq_true (ext_getD l m nokI HL.out hall)
  clear hall
  go_wp2
  go_ret
  exact ⟨rfl, hB⟩

set_option maxRecDepth 100000 in
set_option maxHeartbeats 2000000 in
/-- Same, of nodes. -/
theorem rnsame_any (n m : NodeL) (v u : Value) (w : World) (h : Sl rItem w 0 w.heap.size v n.items) (h' : Sl rItem w 0 w.heap.size u m.items) :
    Calls Try.prog 17 #[.agg #[.int .i64 n.level, v], .agg #[.int .i64 m.level, u]] w fun e w' => e = .returned (.bool (decide (n = m))) ∧ Below w.heap.size w w' := by
  have hst := ((Below.refl w.heap.size w).alloc (Nat.le_refl _) (.cells #[.int .i64 n.level, v] 47)).alloc (by simp) (.cells #[.int .i64 m.level, u] 47)
  have hq := two_new w (.cells #[.int .i64 n.level, v] 47) (.cells #[.int .i64 m.level, u] 47)
  have k1 := rsitems_any v u n.items m.items _ (h.step hst) (h'.step hst)
  obtain ⟨av, cv, rfl, g1, g2, -, -⟩ := h
  obtain ⟨au, cu, rfl, g1', g2', -, -⟩ := h'
  obtain ⟨V, hV⟩ : ∃ V, (w.alloc (.cells #[.int .i64 n.level, .slice av n.items.length cv] 47)).alloc (.cells #[.int .i64 m.level, .slice au m.items.length cu] 47) = V := ⟨_, rfl⟩
  rw [hV] at hst hq k1
  have c0 := blk_cell hq.1 0
  have c1 := blk_cell hq.1 1
  have c2 := blk_cell hq.2 0
  have c3 := blk_cell hq.2 1
  simp at c0 c1 c2 c3
  have hnm : decide (n = m) = (decide (n.level = m.level) && decide (n.items = m.items)) := by
    cases n
    cases m
    simp [Bool.decide_and]
  rw [hnm]
  have K1 := Lib.hid k1
  obtain ⟨bi, hbi⟩ : ∃ bi, decide (n.items = m.items) = bi := ⟨_, rfl⟩
  rw [hbi] at K1 ⊢
  clear k1 hbi hq hnm
  have HB := Lib.hid hst
  clear hst
  by_cases hl : n.level = m.level
  · have e1 : (n.level == m.level) = true := by simp [hl]
    rw [decide_eq_true hl]
    clear hl
    go_enter Try.func17, Try.ntmps17
    go_wp2_with fail
    refine K1.out.mono ?_
    rintro e w1 ⟨rfl, hst⟩
    go_wp2
    go_ret
    exact ⟨by simp, below_step HB.out HB.out.size hst⟩
  · have e1 : (n.level == m.level) = false := by simp [hl]
    rw [decide_eq_false hl]
    clear hl
    go_enter Try.func17, Try.ntmps17
    go_wp2
    go_ret
    exact ⟨by simp, HB.out⟩
end Go.Proofs.Ytkfgegdnpinbdaa

