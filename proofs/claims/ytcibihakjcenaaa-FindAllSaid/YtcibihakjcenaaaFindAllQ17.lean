/- FindAll: the words and contracts, part 17. -/
import Derived.Test.YtcibihakjcenaaaFindAllQ1
import Derived.Test.YtcibihakjcenaaaFindAllQ2
import Derived.Test.YtcibihakjcenaaaFindAllQ3
import Derived.Test.YtcibihakjcenaaaFindAllQ4
import Derived.Test.YtcibihakjcenaaaFindAllQ5
import Derived.Test.YtcibihakjcenaaaFindAllQ6
import Derived.Test.YtcibihakjcenaaaFindAllQ7
import Derived.Test.YtcibihakjcenaaaFindAllQ8
import Derived.Test.YtcibihakjcenaaaFindAllQ9
import Derived.Test.YtcibihakjcenaaaFindAllQ10
import Derived.Test.YtcibihakjcenaaaFindAllQ11
import Derived.Test.YtcibihakjcenaaaFindAllQ12
import Derived.Test.YtcibihakjcenaaaFindAllQ13
import Derived.Test.YtcibihakjcenaaaFindAllQ14
import Derived.Test.YtcibihakjcenaaaFindAllQ15
import Derived.Test.YtcibihakjcenaaaFindAllQ16
import Derived.WalkKit
import Derived.WalkLawsBesides
import Derived.WalkSpells
import Derived.Lib.Hide
import Derived.Laws.Rows
import Derived.Laws.AppendOwnNone
import Derived.Maps.AppendAt
import Derived.ProofKit
import Derived.Deep.Slices
import Derived.WideShapes
import Derived.RangeFuncNested
import Derived.RangeFuncBound
import Derived.RangeFuncCalls
import Derived.RangeFuncLeaves
import Derived.RangeFuncBox
import Derived.Shelf.Abstract
import Derived.Shelf.RegionOpen
import Derived.OwnWalkIn
import Derived.TacticsInMore
import Derived.LoopNIn
import Derived.LoopIn
import Derived.Lib.AppendZerosOnto
import Derived.Lib.SliceRun
import Derived.Lib.Walk
import Derived.Deep.LoopGhost
import Derived.Laws.CopyOwn
import Derived.Laws.CopyRow
import Derived.OrdersHeld
import Derived.Deep.QuietTactic
import Derived.BigQuiet
import Derived.StillTailTactics
import Derived.OpenShut
import Derived.Deep.DeepCutAuto
import Derived.Laws.MakeOwn
import Derived.Deep.RegionHeld
import Derived.KernelRfl
import Derived.BigFrameIn
import Derived.OrdersIn
import Derived.Laws.EntriesVeiled
import Derived.Sort.CutIn
import Derived.ArgAppend
namespace Go.Proofs.Ytcibihakjcenaaa
open Go.RowKit

def kOf (n : UInt32) : KeyL := ⟨2, 0, n⟩
def n0L : NodeL := ⟨0, [⟨kOf 2, 0, []⟩, ⟨kOf 4, 0, [7]⟩]⟩
def n1L (c : UInt32) : NodeL := ⟨1, [⟨kOf c, 8, []⟩]⟩
def s1L : StoreL := madS newS n0L
def madT (c : UInt32) : StoreL := madS s1L (n1L c)
theorem made_words : errDm newS n0L = 0 ∧ atD newS n0L = 8 ∧ errDm s1L (n1L 2) = 0 ∧ atD s1L (n1L 2) = 9 ∧ errDm s1L (n1L 1) = 0 ∧ atD s1L (n1L 1) = 9 := by decide +kernel
theorem tree_words : errCk (madT 2) 9 = 0 ∧ heiC (madT 2) 9 = 2 ∧ errCk (madT 2) 8 = 0 ∧ heiC (madT 2) 8 = 1 ∧ errCk (madT 2) 10 = 6 ∧ errCk (madT 2) 7 = 2 ∧ errFd (madT 2) 9 (kOf 3) = 6 ∧ errFd (madT 2) 9 (kOf 4) = 0 ∧ itmF (madT 2) 9 (kOf 4) = ⟨kOf 4, 0, [7]⟩ ∧ errCk (madT 1) 9 = 8 := by decide +kernel
theorem sl_row {α : Type} {r : Rd α} {w : World} {lo hi g : Nat} {cs : Array Value} {t : TypeId} {f : Nat × Nat} {l : List α} (hg : w.heap[g]? = some (.cells cs t f)) (h1 : lo ≤ g) (h2 : g < hi) (hl : l.length ≤ maxLen) (h : ∀ i x, l[i]? = some x → r.R w lo hi x (fun j => cs[i * r.n + j]?)) : Sl r w lo hi (.slice (some ⟨g, 0, none⟩) l.length l.length) l :=
  ⟨_, _, rfl, Nat.le_refl _, hl, fun _ => ⟨g, 0, rfl, h1, h2, fun i x hx => r.ext (fun j _ => by rw [Nat.zero_add, blk_cell hg]) (h i x hx)⟩, fun e => by cases e⟩

set_option maxRecDepth 100000 in
set_option maxHeartbeats 1000000 in
theorem fkey_any (n : Int) (w : World) :
    Calls Try.prog 35 #[.int .u32 n] w fun e w' => e = .returned (.agg #[.int .u8 2, .int .u32 0, .int .u32 n]) ∧ Below w.heap.size w w' := by
  have hst := ((Below.refl w.heap.size w).alloc (Nat.le_refl _) (.cells #[.int .u8 0, .int .u32 0, .int .u32 0] 48))
  have q_r := LK.new w (.cells #[.int .u8 0, .int .u32 0, .int .u32 0] 48)
  have hB : LW w _ := hst
  have sz_V : w.heap.size + 0 < (w.alloc (.cells #[.int .u8 0, .int .u32 0, .int .u32 0] 48)).heap.size := by simp
  obtain ⟨V, hV⟩ : ∃ V, (w.alloc (.cells #[.int .u8 0, .int .u32 0, .int .u32 0] 48)) = V := ⟨_, rfl⟩
  rw [hV] at sz_V q_r hB
  clear hst 
  have HQ := Lib.hid (And.intro q_r hB)
  clear q_r hB
  have c_q_r0 := LK.cell HQ.out.1 0
  have c_q_r1 := LK.cell HQ.out.1 1
  have c_q_r2 := LK.cell HQ.out.1 2
  simp at c_q_r0 c_q_r1 c_q_r2
  go_enter Try.func35, Try.ntmps35
  go_upto_region 1 with (fail)
  clear hV
  clear c_q_r0 c_q_r1 c_q_r2
  have c_q_r0 := LK.cell HQ.out.1 0
  have c_q_r1 := LK.cell HQ.out.1 1
  have c_q_r2 := LK.cell HQ.out.1 2
  have z_q_r0 := LK.frozen HQ.out.1 0
  have z_q_r1 := LK.frozen HQ.out.1 1
  have z_q_r2 := LK.frozen HQ.out.1 2
  simp at c_q_r0 c_q_r1 c_q_r2
  have hBf := HQ.out.2
  go_wp2
  refine bodyPost_ret (v := .agg #[.int .u8 2, .int .u32 0, .int .u32 n]) (by simp [results, Try.results35, go_sem, c_q_r0, c_q_r1, c_q_r2]) rfl ⟨rfl, ?_⟩
  exact ((hBf.setCell (p := ⟨w.heap.size, 0, none⟩) (Nat.le_refl _) _).setCell (p := ⟨w.heap.size, 1, none⟩) (Nat.le_refl _) _).setCell (p := ⟨w.heap.size, 2, none⟩) (Nat.le_refl _) _

set_option maxRecDepth 100000 in
set_option maxHeartbeats 4000000 in
theorem fmade_any (c : UInt32) (w : World) (hc : errDm s1L (n1L c) = 0 ∧ atD s1L (n1L c) = 9) :
    Calls Try.prog 34 #[.int .u32 (c.toNat : Int)] w fun e w' => ∃ b u x y, e = .returned (.tuple #[.agg #[b, u, x, y], .bool true]) ∧ MadeS w w' b u x y (madT c) := by
  have hst := ((Below.refl w.heap.size w).alloc (Nat.le_refl _) (.cells #[.slice none 0 0, .slice none 0 0, .slice none 0 0, .slice none 0 0] 46))
  have q_r := LK.new w (.cells #[.slice none 0 0, .slice none 0 0, .slice none 0 0, .slice none 0 0] 46)
  have hB : LW w _ := hst
  have sz_V : w.heap.size + 0 < (w.alloc (.cells #[.slice none 0 0, .slice none 0 0, .slice none 0 0, .slice none 0 0] 46)).heap.size := by simp
  obtain ⟨V, hV⟩ : ∃ V, (w.alloc (.cells #[.slice none 0 0, .slice none 0 0, .slice none 0 0, .slice none 0 0] 46)) = V := ⟨_, rfl⟩
  rw [hV] at sz_V q_r hB
  clear hst 
  have HQ := Lib.hid (And.intro q_r hB)
  clear q_r hB
  have c_q_r0 := LK.cell HQ.out.1 0
  have c_q_r1 := LK.cell HQ.out.1 1
  have c_q_r2 := LK.cell HQ.out.1 2
  have c_q_r3 := LK.cell HQ.out.1 3
  simp at c_q_r0 c_q_r1 c_q_r2 c_q_r3
  obtain ⟨t1, t2, -⟩ := made_words
  obtain ⟨t3, t4⟩ := hc
  obtain ⟨N, hN⟩ : ∃ N, newS = N := ⟨_, rfl⟩
  obtain ⟨S, hS⟩ : ∃ S, s1L = S := ⟨_, rfl⟩
  obtain ⟨T, hT⟩ : ∃ T, madT c = T := ⟨_, rfl⟩
  have hS2 : madS newS n0L = S := hS
  have hT2 : madS S (n1L c) = T := by rw [← hS, ← hT]; rfl
  have k_1 := fun V b u x y v h1 h2 => dmake_any b u x y newS n0L v V h1 h2
  rw [t1, t2, hS2, hN] at k_1
  rw [show n0L.level = 0 from rfl] at k_1
  rw [hS] at t3 t4
  have k_2 := fun V b u x y v h1 h2 => dmake_any b u x y S (n1L c) v V h1 h2
  rw [t3, t4, hT2] at k_2
  rw [show (n1L c).level = 1 from rfl] at k_2
  have k_n := fun V => snew_any V
  rw [hN] at k_n
  rw [hT]
  have k_k := fun n V => fkey_any n V
  clear hN hS hT hS2 hT2 t1 t2 t3 t4
  have HC := Lib.hid (And.intro k_1 (And.intro k_2 (And.intro k_n k_k)))
  clear k_1 k_2 k_n k_k
  go_enter Try.func34, Try.ntmps34
  go_upto_region 1 with (fail)
  clear hV
  go_wp2_with fail
  refine (HC.out.2.2.1 _).mono ?_
  rintro e w1 ⟨b0, u0, x0, y0, rfl, hm⟩
  clear c_q_r0 c_q_r1 c_q_r2 c_q_r3
  obtain ⟨q_r, hB⟩ := HQ.out
  clear HQ
  have O_n := LP.of hm
  have hst := hm.below
  clear hm
  have sz_w1 : V.heap.size ≤ w1.heap.size := hst.size
  replace q_r := q_r.step hst
  replace hB := hB.step hst
  clear hst
  have HQ := Lib.hid (And.intro q_r (And.intro O_n hB))
  clear q_r O_n hB
  have c_q_r0 := LK.cell HQ.out.1 0
  have c_q_r1 := LK.cell HQ.out.1 1
  have c_q_r2 := LK.cell HQ.out.1 2
  have c_q_r3 := LK.cell HQ.out.1 3
  simp at c_q_r0 c_q_r1 c_q_r2 c_q_r3
  go_wp2_with fail
  refine (HC.out.2.2.2 2 _).mono ?_
  rintro e w2 ⟨rfl, hst⟩
  clear c_q_r0 c_q_r1 c_q_r2 c_q_r3
  obtain ⟨q_r, O_n, hB⟩ := HQ.out
  clear HQ
  have sz_w2 : w1.heap.size ≤ w2.heap.size := hst.size
  replace q_r := q_r.step hst
  replace O_n := O_n.step hst
  replace hB := hB.step hst
  clear hst
  have HQ := Lib.hid (And.intro q_r (And.intro O_n hB))
  clear q_r O_n hB
  have c_q_r0 := LK.cell HQ.out.1 0
  have c_q_r1 := LK.cell HQ.out.1 1
  have c_q_r2 := LK.cell HQ.out.1 2
  have c_q_r3 := LK.cell HQ.out.1 3
  simp at c_q_r0 c_q_r1 c_q_r2 c_q_r3
  go_wp2_with fail
  refine (HC.out.2.2.2 4 _).mono ?_
  rintro e w3 ⟨rfl, hst⟩
  clear c_q_r0 c_q_r1 c_q_r2 c_q_r3
  obtain ⟨q_r, O_n, hB⟩ := HQ.out
  clear HQ
  have sz_w3 : w2.heap.size ≤ w3.heap.size := hst.size
  replace q_r := q_r.step hst
  replace O_n := O_n.step hst
  replace hB := hB.step hst
  clear hst
  have HQ := Lib.hid (And.intro q_r (And.intro O_n hB))
  clear q_r O_n hB
  have c_q_r0 := LK.cell HQ.out.1 0
  have c_q_r1 := LK.cell HQ.out.1 1
  have c_q_r2 := LK.cell HQ.out.1 2
  have c_q_r3 := LK.cell HQ.out.1 3
  simp at c_q_r0 c_q_r1 c_q_r2 c_q_r3
  go_wp2_with fail
  clear c_q_r0 c_q_r1 c_q_r2 c_q_r3
  obtain ⟨q_r, O_n, hB⟩ := HQ.out
  clear HQ
  have hb7 : Bytes ((w3.alloc (.cells #[.int .u8 7] 5)).alloc (.cells #[.int .u8 2, .int .u32 0, .int .u32 2, .int .i64 0, .slice none 0 0, .int .u8 2, .int .u32 0, .int .u32 4, .int .i64 0, .slice (some ⟨w3.heap.size, 0, none⟩) 1 1] 56)) 0 ((w3.alloc (.cells #[.int .u8 7] 5)).alloc (.cells #[.int .u8 2, .int .u32 0, .int .u32 2, .int .i64 0, .slice none 0 0, .int .u8 2, .int .u32 0, .int .u32 4, .int .i64 0, .slice (some ⟨w3.heap.size, 0, none⟩) 1 1] 56)).heap.size (.slice (some ⟨w3.heap.size, 0, none⟩) 1 1) [7] := ((one_new w3 5 7 7 rfl).below ((Below.refl _ _).alloc (Nat.le_refl _) _) (by simp)).more (Nat.zero_le _) (by simp)
  have S_i : Sl rItem ((w3.alloc (.cells #[.int .u8 7] 5)).alloc (.cells #[.int .u8 2, .int .u32 0, .int .u32 2, .int .i64 0, .slice none 0 0, .int .u8 2, .int .u32 0, .int .u32 4, .int .i64 0, .slice (some ⟨w3.heap.size, 0, none⟩) 1 1] 56)) 0 ((w3.alloc (.cells #[.int .u8 7] 5)).alloc (.cells #[.int .u8 2, .int .u32 0, .int .u32 2, .int .i64 0, .slice none 0 0, .int .u8 2, .int .u32 0, .int .u32 4, .int .i64 0, .slice (some ⟨w3.heap.size, 0, none⟩) 1 1] 56)).heap.size (.slice (some ⟨w3.heap.size + 1, 0, none⟩) 2 2) n0L.items := by
    refine sl_row (l := n0L.items) (t := 56) (by have := World.alloc_heap_new (w3.alloc (.cells #[.int .u8 7] 5)) (.cells #[.int .u8 2, .int .u32 0, .int .u32 2, .int .i64 0, .slice none 0 0, .int .u8 2, .int .u32 0, .int .u32 4, .int .i64 0, .slice (some ⟨w3.heap.size, 0, none⟩) 1 1] 56); rwa [World.size_alloc] at this) (Nat.zero_le _) (by simp) (by decide) ?_
    intro i x hx
    rcases i with _ | _ | i
    · cases hx; exact ⟨rfl, rfl, rfl, rfl, rfl, _, rfl, Bytes.nil_ _ _ _⟩
    · cases hx; exact ⟨rfl, rfl, rfl, rfl, rfl, _, rfl, hb7⟩
    · cases hx
  have S_n := LS.of S_i (Nat.le_refl _)
  clear hb7 S_i
  have hst := ((Below.refl w3.heap.size w3).alloc (Nat.le_refl _) (.cells #[.int .u8 7] 5)).alloc (by simp) (.cells #[.int .u8 2, .int .u32 0, .int .u32 2, .int .i64 0, .slice none 0 0, .int .u8 2, .int .u32 0, .int .u32 4, .int .i64 0, .slice (some ⟨w3.heap.size, 0, none⟩) 1 1] 56)
  replace q_r := q_r.step hst
  replace O_n := O_n.step hst
  replace hB := hB.step hst
  obtain ⟨w4, hw⟩ : ∃ v, ((w3.alloc (.cells #[.int .u8 7] 5)).alloc (.cells #[.int .u8 2, .int .u32 0, .int .u32 2, .int .i64 0, .slice none 0 0, .int .u8 2, .int .u32 0, .int .u32 4, .int .i64 0, .slice (some ⟨w3.heap.size, 0, none⟩) 1 1] 56)) = v := ⟨_, rfl⟩
  rw [hw] at hst S_n q_r O_n hB ⊢
  clear hw
  have sz_w4 : w3.heap.size ≤ w4.heap.size := hst.size
  clear hst
  have HQ := Lib.hid (And.intro q_r (And.intro O_n (And.intro S_n hB)))
  clear q_r O_n S_n hB
  have c_q_r0 := LK.cell HQ.out.1 0
  have c_q_r1 := LK.cell HQ.out.1 1
  have c_q_r2 := LK.cell HQ.out.1 2
  have c_q_r3 := LK.cell HQ.out.1 3
  simp at c_q_r0 c_q_r1 c_q_r2 c_q_r3
  refine (HC.out.1 _ _ _ _ _ _ HQ.out.2.1.v ⟨by decide, HQ.out.2.2.1.v⟩).mono ?_
  rintro e w5 ⟨b1, u1, x1, y1, rfl, hm⟩
  clear c_q_r0 c_q_r1 c_q_r2 c_q_r3
  obtain ⟨q_r, O_n, S_n, hB⟩ := HQ.out
  clear HQ
  have P_t := LP.of hm
  have hst := hm.below
  obtain ⟨ab_t, cb_t, rfl, -, -, -, -⟩ := hm.store.v.1.1
  obtain ⟨au_t, cu_t, rfl, -, -, -, -⟩ := hm.store.v.1.2
  obtain ⟨ax_t, cx_t, rfl, -, -⟩ := hm.store.v.2.1.form rfl
  obtain ⟨ay_t, cy_t, rfl, -, -⟩ := hm.store.v.2.2.form rfl
  clear hm
  clear S_n O_n
  have sz_w5 : w4.heap.size ≤ w5.heap.size := hst.size
  replace q_r := q_r.step hst
  replace hB := hB.step hst
  clear hst
  have HQ := Lib.hid (And.intro q_r (And.intro P_t hB))
  clear q_r P_t hB
  have c_q_r0 := LK.cell HQ.out.1 0
  have c_q_r1 := LK.cell HQ.out.1 1
  have c_q_r2 := LK.cell HQ.out.1 2
  have c_q_r3 := LK.cell HQ.out.1 3
  simp at c_q_r0 c_q_r1 c_q_r2 c_q_r3
  go_upto_region 2 with (fail)
  clear c_q_r0 c_q_r1 c_q_r2 c_q_r3
  obtain ⟨q_r, P_t, hB⟩ := HQ.out
  clear HQ
  have hst := (Below.refl w5.heap.size w5).alloc (Nat.le_refl _) (.cells #[.slice ab_t S.disk.blocks.length cb_t, .slice au_t S.disk.waits.length cu_t, .slice ax_t S.now.length cx_t, .slice ay_t S.last.length cy_t] 46)
  have hlt : w5.heap.size < (w5.alloc (.cells #[.slice ab_t S.disk.blocks.length cb_t, .slice au_t S.disk.waits.length cu_t, .slice ax_t S.now.length cx_t, .slice ay_t S.last.length cy_t] 46)).heap.size := by simp
  have q_t := LK.new w5 (.cells #[.slice ab_t S.disk.blocks.length cb_t, .slice au_t S.disk.waits.length cu_t, .slice ax_t S.now.length cx_t, .slice ay_t S.last.length cy_t] 46)
  replace q_r := q_r.step hst
  replace P_t := P_t.step hst
  replace hB := hB.step hst
  obtain ⟨w6, hw⟩ : ∃ v, w5.alloc (.cells #[.slice ab_t S.disk.blocks.length cb_t, .slice au_t S.disk.waits.length cu_t, .slice ax_t S.now.length cx_t, .slice ay_t S.last.length cy_t] 46) = v := ⟨_, rfl⟩
  rw [hw] at hlt q_t q_r P_t hB ⊢
  clear hw hst
  have sz_w6 := hlt
  clear hlt
  have HQ := Lib.hid (And.intro q_r (And.intro P_t (And.intro q_t hB)))
  clear q_r P_t q_t hB
  have c_q_r0 := LK.cell HQ.out.1 0
  have c_q_r1 := LK.cell HQ.out.1 1
  have c_q_r2 := LK.cell HQ.out.1 2
  have c_q_r3 := LK.cell HQ.out.1 3
  have c_q_t0 := LK.cell HQ.out.2.2.1 0
  have c_q_t1 := LK.cell HQ.out.2.2.1 1
  have c_q_t2 := LK.cell HQ.out.2.2.1 2
  have c_q_t3 := LK.cell HQ.out.2.2.1 3
  simp at c_q_r0 c_q_r1 c_q_r2 c_q_r3 c_q_t0 c_q_t1 c_q_t2 c_q_t3
  have hit : ∀ X : World, LS rItem X.heap.size (X.heap.size + 1) (.slice (some ⟨X.heap.size, 0, none⟩) 1 1) (n1L c).items (X.alloc (.cells #[.int .u8 2, .int .u32 0, .int .u32 (c.toNat : Int), .int .i64 8, .slice none 0 0] 56)) := fun X => LS.of (by
    refine sl_row (l := (n1L c).items) (World.alloc_heap_new X (.cells #[.int .u8 2, .int .u32 0, .int .u32 (c.toNat : Int), .int .i64 8, .slice none 0 0] 56)) (Nat.le_refl _) (by simp) (by show 1 ≤ maxLen; decide) ?_
    intro i x hx
    rcases i with _ | i
    · cases hx; exact ⟨rfl, rfl, rfl, rfl, rfl, _, rfl, Bytes.nil_ _ _ _⟩
    · cases hx) (by simp)
  have HIT := Lib.hid hit
  clear hit
  go_cut [7, 8, 9] (fun t1 t2 t3 wx => ∃ (g lo hi : Nat) (b u x y : Value), t1 = .pointer (some ⟨g, 0, none⟩) ∧ t2 = .int .i64 9 ∧ t3 = .int .i64 0 ∧ LK g (.cells #[b, u, x, y] 46) wx ∧ LP lo hi b u x y T wx ∧ w6.heap.size ≤ lo ∧ Below w6.heap.size w6 wx)
  case first =>
    clear c_q_r0 c_q_r1 c_q_r2 c_q_r3 c_q_t0 c_q_t1 c_q_t2 c_q_t3
    have x_t0 := fun X => LK.cell (HQ.out.2.2.1.step (aft_below w6 X)) 0
    have x_t1 := fun X => LK.cell (HQ.out.2.2.1.step (aft_below w6 X)) 1
    have x_t2 := fun X => LK.cell (HQ.out.2.2.1.step (aft_below w6 X)) 2
    have x_t3 := fun X => LK.cell (HQ.out.2.2.1.step (aft_below w6 X)) 3
    simp at x_t0 x_t1 x_t2 x_t3
    refine wp_region_held_drew (S := Cls w6) (by kernel_rfl) (Cls.drew w6) (fun hCl => ?_)
    refine wpAnyH_seg (fuel := 13) (by kernel_rfl) (fun _ d _ _ _ h => by cases d <;> exact h) hCl [0, 1, 3] _ _ _ (by kernel_rfl) (by kernel_rfl) ?_
    simp only [opsOf_cons, opsOf_nil, consOp_some, List.getElem?_toArray, List.getElem?_cons_succ, List.getElem?_cons_zero]
    repeat (first | go_big_quiet_step (fail) | quiet_step (fail))
    refine wpQuiet_nil ?_
    refine wpAnyH_each (fuel := 12) [2, 12] (by kernel_rfl) (by simp) (by kernel_rfl) ?_
    refine Each.cons _ rfl (fun K' hK => ?_) ?_
    · go_simp
      refine (HC.out.2.2.2 _ _).mono ?_
      rintro e z1 ⟨rfl, hs⟩
      have sz_z1 : w6.drew.heap.size ≤ z1.heap.size := hs.size
      have hst := below_step hCl.below hCl.below.size hs
      clear hs
      have hCl := Cls.of hst
      refine hK.out (Cls w6) (fun _ h => h) hCl ?_
      clear hK K'
      refine wpAnyH_each (fuel := 11) [4, 12] (by kernel_rfl) (by simp) (by kernel_rfl) ?_
      refine Each.cons _ rfl (fun K' hK => ?_) ?_
      · go_simp
        have hst := hCl.below
        have hCl := Cls.of hst
        refine hK.out (Cls w6) (fun _ h => h) hCl ?_
        clear hK K'
        refine wpAnyH_each (fuel := 10) [5, 12] (by kernel_rfl) (by simp) (by kernel_rfl) ?_
        refine Each.cons _ rfl (fun K' hK => ?_) ?_
        · go_simp
          have hs := cls_alloc hCl (.cells #[.int .u8 2, .int .u32 0, .int .u32 (c.toNat : Int), .int .i64 8, .slice none 0 0] 56)
          have F5 := cls_at hCl HIT.out
          have hlt : z1.heap.size < (z1.alloc (.cells #[.int .u8 2, .int .u32 0, .int .u32 (c.toNat : Int), .int .i64 8, .slice none 0 0] 56)).heap.size := by simp
          have hst := below_step hCl.below hCl.below.size hs
          have lo_F5 := hCl.below.size
          obtain ⟨z3, hz⟩ : ∃ v, z1.alloc (.cells #[.int .u8 2, .int .u32 0, .int .u32 (c.toNat : Int), .int .i64 8, .slice none 0 0] 56) = v := ⟨_, rfl⟩
          have hz2 : z1.alloc (.cells #[.int .u8 2, .int .u32 0, .int .u32 (c.toNat : Int), .int .i64 8, .slice none 0 0] 56) = z3 := hz
          rw [hz] at ⊢
          rw [hz2] at hst hlt F5
          have sz_z3 := hlt
          clear hz hz2 hs hlt
          have hCl := Cls.of hst
          refine hK.out (Cls w6) (fun _ h => h) hCl ?_
          clear hK K'
          refine wpAnyH_each (fuel := 9) [6, 12] (by kernel_rfl) (by simp) (by kernel_rfl) ?_
          refine Each.cons _ rfl (fun K' hK => ?_) ?_
          · go_simp
            have hst := hCl.below
            have hCl := Cls.of hst
            refine hK.out (Cls w6) (fun _ h => h) hCl ?_
            clear hK K'
            refine wpAnyH_each (fuel := 8) [7, 12] (by kernel_rfl) (by simp) (by kernel_rfl) ?_
            refine Each.cons _ rfl (fun K' hK => ?_) ?_
            · go_simp
              refine (HC.out.2.1 _ _ _ _ _ _ (HQ.out.2.1.step hCl.below).v ⟨by decide, F5.v⟩).mono ?_
              rintro e z5 ⟨b2, u2, x2, y2, rfl, hm⟩
              have hs := hm.below
              have lo_F7 := Nat.le_trans hCl.below.size (Nat.le_refl _)
              obtain ⟨ab_u, cb_u, rfl, -, -, -, -⟩ := hm.store.v.1.1
              obtain ⟨au_u, cu_u, rfl, -, -, -, -⟩ := hm.store.v.1.2
              obtain ⟨ax_u, cx_u, rfl, -, -⟩ := hm.store.v.2.1.form rfl
              obtain ⟨ay_u, cy_u, rfl, -, -⟩ := hm.store.v.2.2.form rfl
              replace F5 := F5.step hs
              have F7 := LP.of hm
              have sz_z5 : z3.heap.size ≤ z5.heap.size := hs.size
              have hst := below_step hCl.below hCl.below.size hs
              clear hs
              have hCl := Cls.of hst
              refine hK.out (Cls w6) (fun _ h => h) hCl ?_
              clear hK K'
              refine wpAnyH_seg (fuel := 4) (by kernel_rfl) (fun _ d _ _ _ h => by cases d <;> exact h) hCl [8, 9, 10, 11] _ _ _ (by kernel_rfl) (by kernel_rfl) ?_
              simp only [opsOf_cons, opsOf_nil, consOp_some, List.getElem?_toArray, List.getElem?_cons_succ, List.getElem?_cons_zero]
              repeat (first | go_big_quiet_step (fail) | quiet_step (fail))
              refine wpQuiet_nil ?_
              refine wpAnyH_each (fuel := 3) [12] (by kernel_rfl) (by simp) (by kernel_rfl) ?_
              refine Each.cons _ rfl (fun K' hK => ?_) Each.nil
              go_simp
              have hs := cls_alloc hCl (.cells #[.slice none 0 0, .slice none 0 0, .slice none 0 0, .slice none 0 0] 46)
              have F12 : LK z5.heap.size (.cells #[.slice none 0 0, .slice none 0 0, .slice none 0 0, .slice none 0 0] 46) _ := cls_new hCl (.cells #[.slice none 0 0, .slice none 0 0, .slice none 0 0, .slice none 0 0] 46)
              have hlt : z5.heap.size < (z5.alloc (.cells #[.slice none 0 0, .slice none 0 0, .slice none 0 0, .slice none 0 0] 46)).heap.size := by simp
              replace F5 := F5.step hs
              replace F7 := F7.step hs
              have hst := below_step hCl.below hCl.below.size hs
              have lo_F12 := hCl.below.size
              obtain ⟨z6, hz⟩ : ∃ v, z5.alloc (.cells #[.slice none 0 0, .slice none 0 0, .slice none 0 0, .slice none 0 0] 46) = v := ⟨_, rfl⟩
              have hz2 : z5.alloc (.cells #[.slice none 0 0, .slice none 0 0, .slice none 0 0, .slice none 0 0] 46) = z6 := hz
              rw [hz] at ⊢
              rw [hz2] at hst hlt F5 F7 F12
              have sz_z6 := hlt
              clear hz hz2 hs hlt
              have hCl := Cls.of hst
              refine hK.out (Cls w6) (fun _ h => h) hCl ?_
              clear hK K'
              refine wpAnyH_each (fuel := 2) [13] (by kernel_rfl) (by simp) (by kernel_rfl) ?_
              refine Each.cons _ rfl (fun K' hK => ?_) Each.nil
              have hcb := LK.blk F12
              have r0 := LK.cell F12 0
              have r1 := LK.cell F12 1
              have r2 := LK.cell F12 2
              have r3 := LK.cell F12 3
              simp at r0 r1 r2 r3
              have s0 := LK.frozen F12 0
              have s1 := LK.frozen F12 1
              have s2 := LK.frozen F12 2
              have s3 := LK.frozen F12 3
              go_simp
              have F8 : LK (z5.heap.size) (.cells #[.slice ab_u T.disk.blocks.length cb_u, .slice au_u T.disk.waits.length cu_u, .slice ax_u T.now.length cx_u, .slice ay_u T.last.length cy_u] 46) ((((z6.setCell ⟨z5.heap.size, 0, none⟩ (.slice ab_u T.disk.blocks.length cb_u)).setCell ⟨z5.heap.size, 1, none⟩ (.slice au_u T.disk.waits.length cu_u)).setCell ⟨z5.heap.size, 2, none⟩ (.slice ax_u T.now.length cx_u)).setCell ⟨z5.heap.size, 3, none⟩ (.slice ay_u T.last.length cy_u)) := LK.of (set_block (set_block (set_block (set_block hcb 0 _) 1 _) 2 _) 3 _)
              have hst := Below.trans hCl.below (below_four z6 (.slice ab_u T.disk.blocks.length cb_u) (.slice au_u T.disk.waits.length cu_u) (.slice ax_u T.now.length cx_u) (.slice ay_u T.last.length cy_u) lo_F12)
              have hfr : ∀ x, x < z6.heap.size → (x < z5.heap.size ∨ z5.heap.size + 1 ≤ x) → ((((z6.setCell ⟨z5.heap.size, 0, none⟩ (.slice ab_u T.disk.blocks.length cb_u)).setCell ⟨z5.heap.size, 1, none⟩ (.slice au_u T.disk.waits.length cu_u)).setCell ⟨z5.heap.size, 2, none⟩ (.slice ax_u T.now.length cx_u)).setCell ⟨z5.heap.size, 3, none⟩ (.slice ay_u T.last.length cy_u)).heap[x]? = z6.heap[x]? := fun x _ h => (set_other _ _ _ _ _ (by omega)).trans ((set_other _ _ _ _ _ (by omega)).trans ((set_other _ _ _ _ _ (by omega)).trans (set_other _ _ _ _ _ (by omega))))
              have F9 := F7.out (V' := ((((z6.setCell ⟨z5.heap.size, 0, none⟩ (.slice ab_u T.disk.blocks.length cb_u)).setCell ⟨z5.heap.size, 1, none⟩ (.slice au_u T.disk.waits.length cu_u)).setCell ⟨z5.heap.size, 2, none⟩ (.slice ax_u T.now.length cx_u)).setCell ⟨z5.heap.size, 3, none⟩ (.slice ay_u T.last.length cy_u))) (by simp only [World.size_setCell]; omega) hfr (by omega)
              have hCl := Cls.of hst
              refine hK.out (Cls w6) (fun _ h => h) hCl ?_
              clear hK K'
              refine wpAnyH_seg (fuel := 0) (by kernel_rfl) (fun _ d _ _ _ h => by cases d <;> exact h) hCl [14, 15] _ _ _ (by kernel_rfl) (by kernel_rfl) ?_
              simp only [opsOf_cons, opsOf_nil, consOp_some, List.getElem?_toArray, List.getElem?_cons_succ, List.getElem?_cons_zero]
              repeat (first | go_big_quiet_step (fail) | quiet_step (fail))
              refine wpQuiet_nil ?_
              refine wpAnyH_done (by kernel_rfl) ?_ _
              go_wp2
              go_meet
              exact ⟨_, _, _, _, _, _, _, rfl, rfl, rfl, F8, F9, by omega, hst⟩
            refine Each.cons _ rfl (fun K' hK => ?_) ?_
            · go_simp
              have hs := cls_alloc hCl (.cells #[.slice none 0 0, .slice none 0 0, .slice none 0 0, .slice none 0 0] 46)
              have F12 : LK z3.heap.size (.cells #[.slice none 0 0, .slice none 0 0, .slice none 0 0, .slice none 0 0] 46) _ := cls_new hCl (.cells #[.slice none 0 0, .slice none 0 0, .slice none 0 0, .slice none 0 0] 46)
              have hlt : z3.heap.size < (z3.alloc (.cells #[.slice none 0 0, .slice none 0 0, .slice none 0 0, .slice none 0 0] 46)).heap.size := by simp
              replace F5 := F5.step hs
              have hst := below_step hCl.below hCl.below.size hs
              have lo_F12 := hCl.below.size
              obtain ⟨z8, hz⟩ : ∃ v, z3.alloc (.cells #[.slice none 0 0, .slice none 0 0, .slice none 0 0, .slice none 0 0] 46) = v := ⟨_, rfl⟩
              have hz2 : z3.alloc (.cells #[.slice none 0 0, .slice none 0 0, .slice none 0 0, .slice none 0 0] 46) = z8 := hz
              rw [hz] at ⊢
              rw [hz2] at hst hlt F5 F12
              have sz_z8 := hlt
              clear hz hz2 hs hlt
              have hCl := Cls.of hst
              refine hK.out (Cls w6) (fun _ h => h) hCl ?_
              clear hK K'
              refine wpAnyH_each (fuel := 7) [7] (by kernel_rfl) (by simp) (by kernel_rfl) ?_
              refine Each.cons _ rfl (fun K' hK => ?_) Each.nil
              go_simp
              refine (HC.out.2.1 _ _ _ _ _ _ (HQ.out.2.1.step hCl.below).v ⟨by decide, F5.v⟩).mono ?_
              rintro e z9 ⟨b2, u2, x2, y2, rfl, hm⟩
              have hs := hm.below
              have lo_F7 := Nat.le_trans hCl.below.size (Nat.le_refl _)
              obtain ⟨ab_u, cb_u, rfl, -, -, -, -⟩ := hm.store.v.1.1
              obtain ⟨au_u, cu_u, rfl, -, -, -, -⟩ := hm.store.v.1.2
              obtain ⟨ax_u, cx_u, rfl, -, -⟩ := hm.store.v.2.1.form rfl
              obtain ⟨ay_u, cy_u, rfl, -, -⟩ := hm.store.v.2.2.form rfl
              replace F5 := F5.step hs
              replace F12 := F12.step hs
              have F7 := LP.of hm
              have sz_z9 : z8.heap.size ≤ z9.heap.size := hs.size
              have hst := below_step hCl.below hCl.below.size hs
              clear hs
              have hCl := Cls.of hst
              refine hK.out (Cls w6) (fun _ h => h) hCl ?_
              clear hK K'
              refine wpAnyH_seg (fuel := 3) (by kernel_rfl) (fun _ d _ _ _ h => by cases d <;> exact h) hCl [8, 9, 10, 11] _ _ _ (by kernel_rfl) (by kernel_rfl) ?_
              simp only [opsOf_cons, opsOf_nil, consOp_some, List.getElem?_toArray, List.getElem?_cons_succ, List.getElem?_cons_zero]
              repeat (first | go_big_quiet_step (fail) | quiet_step (fail))
              refine wpQuiet_nil ?_
              refine wpAnyH_each (fuel := 2) [13] (by kernel_rfl) (by simp) (by kernel_rfl) ?_
              refine Each.cons _ rfl (fun K' hK => ?_) Each.nil
              have hcb := LK.blk F12
              have r0 := LK.cell F12 0
              have r1 := LK.cell F12 1
              have r2 := LK.cell F12 2
              have r3 := LK.cell F12 3
              simp at r0 r1 r2 r3
              have s0 := LK.frozen F12 0
              have s1 := LK.frozen F12 1
              have s2 := LK.frozen F12 2
              have s3 := LK.frozen F12 3
              go_simp
              have F8 : LK (z3.heap.size) (.cells #[.slice ab_u T.disk.blocks.length cb_u, .slice au_u T.disk.waits.length cu_u, .slice ax_u T.now.length cx_u, .slice ay_u T.last.length cy_u] 46) ((((z9.setCell ⟨z3.heap.size, 0, none⟩ (.slice ab_u T.disk.blocks.length cb_u)).setCell ⟨z3.heap.size, 1, none⟩ (.slice au_u T.disk.waits.length cu_u)).setCell ⟨z3.heap.size, 2, none⟩ (.slice ax_u T.now.length cx_u)).setCell ⟨z3.heap.size, 3, none⟩ (.slice ay_u T.last.length cy_u)) := LK.of (set_block (set_block (set_block (set_block hcb 0 _) 1 _) 2 _) 3 _)
              have hst := Below.trans hCl.below (below_four z9 (.slice ab_u T.disk.blocks.length cb_u) (.slice au_u T.disk.waits.length cu_u) (.slice ax_u T.now.length cx_u) (.slice ay_u T.last.length cy_u) lo_F12)
              have hfr : ∀ x, x < z9.heap.size → (x < z3.heap.size ∨ z3.heap.size + 1 ≤ x) → ((((z9.setCell ⟨z3.heap.size, 0, none⟩ (.slice ab_u T.disk.blocks.length cb_u)).setCell ⟨z3.heap.size, 1, none⟩ (.slice au_u T.disk.waits.length cu_u)).setCell ⟨z3.heap.size, 2, none⟩ (.slice ax_u T.now.length cx_u)).setCell ⟨z3.heap.size, 3, none⟩ (.slice ay_u T.last.length cy_u)).heap[x]? = z9.heap[x]? := fun x _ h => (set_other _ _ _ _ _ (by omega)).trans ((set_other _ _ _ _ _ (by omega)).trans ((set_other _ _ _ _ _ (by omega)).trans (set_other _ _ _ _ _ (by omega))))
              have F9 := F7.out (V' := ((((z9.setCell ⟨z3.heap.size, 0, none⟩ (.slice ab_u T.disk.blocks.length cb_u)).setCell ⟨z3.heap.size, 1, none⟩ (.slice au_u T.disk.waits.length cu_u)).setCell ⟨z3.heap.size, 2, none⟩ (.slice ax_u T.now.length cx_u)).setCell ⟨z3.heap.size, 3, none⟩ (.slice ay_u T.last.length cy_u))) (by simp only [World.size_setCell]; omega) hfr (by omega)
              have hCl := Cls.of hst
              refine hK.out (Cls w6) (fun _ h => h) hCl ?_
              clear hK K'
              refine wpAnyH_seg (fuel := 0) (by kernel_rfl) (fun _ d _ _ _ h => by cases d <;> exact h) hCl [14, 15] _ _ _ (by kernel_rfl) (by kernel_rfl) ?_
              simp only [opsOf_cons, opsOf_nil, consOp_some, List.getElem?_toArray, List.getElem?_cons_succ, List.getElem?_cons_zero]
              repeat (first | go_big_quiet_step (fail) | quiet_step (fail))
              refine wpQuiet_nil ?_
              refine wpAnyH_done (by kernel_rfl) ?_ _
              go_wp2
              go_meet
              exact ⟨_, _, _, _, _, _, _, rfl, rfl, rfl, F8, F9, by omega, hst⟩
            exact Each.nil
          refine Each.cons _ rfl (fun K' hK => ?_) ?_
          · go_simp
            have hs := cls_alloc hCl (.cells #[.slice none 0 0, .slice none 0 0, .slice none 0 0, .slice none 0 0] 46)
            have F12 : LK z3.heap.size (.cells #[.slice none 0 0, .slice none 0 0, .slice none 0 0, .slice none 0 0] 46) _ := cls_new hCl (.cells #[.slice none 0 0, .slice none 0 0, .slice none 0 0, .slice none 0 0] 46)
            have hlt : z3.heap.size < (z3.alloc (.cells #[.slice none 0 0, .slice none 0 0, .slice none 0 0, .slice none 0 0] 46)).heap.size := by simp
            replace F5 := F5.step hs
            have hst := below_step hCl.below hCl.below.size hs
            have lo_F12 := hCl.below.size
            obtain ⟨z11, hz⟩ : ∃ v, z3.alloc (.cells #[.slice none 0 0, .slice none 0 0, .slice none 0 0, .slice none 0 0] 46) = v := ⟨_, rfl⟩
            have hz2 : z3.alloc (.cells #[.slice none 0 0, .slice none 0 0, .slice none 0 0, .slice none 0 0] 46) = z11 := hz
            rw [hz] at ⊢
            rw [hz2] at hst hlt F5 F12
            have sz_z11 := hlt
            clear hz hz2 hs hlt
            have hCl := Cls.of hst
            refine hK.out (Cls w6) (fun _ h => h) hCl ?_
            clear hK K'
            refine wpAnyH_each (fuel := 8) [6] (by kernel_rfl) (by simp) (by kernel_rfl) ?_
            refine Each.cons _ rfl (fun K' hK => ?_) Each.nil
            go_simp
            have hst := hCl.below
            have hCl := Cls.of hst
            refine hK.out (Cls w6) (fun _ h => h) hCl ?_
            clear hK K'
            refine wpAnyH_each (fuel := 7) [7] (by kernel_rfl) (by simp) (by kernel_rfl) ?_
            refine Each.cons _ rfl (fun K' hK => ?_) Each.nil
            go_simp
            refine (HC.out.2.1 _ _ _ _ _ _ (HQ.out.2.1.step hCl.below).v ⟨by decide, F5.v⟩).mono ?_
            rintro e z13 ⟨b2, u2, x2, y2, rfl, hm⟩
            have hs := hm.below
            have lo_F7 := Nat.le_trans hCl.below.size (Nat.le_refl _)
            obtain ⟨ab_u, cb_u, rfl, -, -, -, -⟩ := hm.store.v.1.1
            obtain ⟨au_u, cu_u, rfl, -, -, -, -⟩ := hm.store.v.1.2
            obtain ⟨ax_u, cx_u, rfl, -, -⟩ := hm.store.v.2.1.form rfl
            obtain ⟨ay_u, cy_u, rfl, -, -⟩ := hm.store.v.2.2.form rfl
            replace F5 := F5.step hs
            replace F12 := F12.step hs
            have F7 := LP.of hm
            have sz_z13 : z11.heap.size ≤ z13.heap.size := hs.size
            have hst := below_step hCl.below hCl.below.size hs
            clear hs
            have hCl := Cls.of hst
            refine hK.out (Cls w6) (fun _ h => h) hCl ?_
            clear hK K'
            refine wpAnyH_seg (fuel := 3) (by kernel_rfl) (fun _ d _ _ _ h => by cases d <;> exact h) hCl [8, 9, 10, 11] _ _ _ (by kernel_rfl) (by kernel_rfl) ?_
            simp only [opsOf_cons, opsOf_nil, consOp_some, List.getElem?_toArray, List.getElem?_cons_succ, List.getElem?_cons_zero]
            repeat (first | go_big_quiet_step (fail) | quiet_step (fail))
            refine wpQuiet_nil ?_
            refine wpAnyH_each (fuel := 2) [13] (by kernel_rfl) (by simp) (by kernel_rfl) ?_
            refine Each.cons _ rfl (fun K' hK => ?_) Each.nil
            have hcb := LK.blk F12
            have r0 := LK.cell F12 0
            have r1 := LK.cell F12 1
            have r2 := LK.cell F12 2
            have r3 := LK.cell F12 3
            simp at r0 r1 r2 r3
            have s0 := LK.frozen F12 0
            have s1 := LK.frozen F12 1
            have s2 := LK.frozen F12 2
            have s3 := LK.frozen F12 3
            go_simp
            have F8 : LK (z3.heap.size) (.cells #[.slice ab_u T.disk.blocks.length cb_u, .slice au_u T.disk.waits.length cu_u, .slice ax_u T.now.length cx_u, .slice ay_u T.last.length cy_u] 46) ((((z13.setCell ⟨z3.heap.size, 0, none⟩ (.slice ab_u T.disk.blocks.length cb_u)).setCell ⟨z3.heap.size, 1, none⟩ (.slice au_u T.disk.waits.length cu_u)).setCell ⟨z3.heap.size, 2, none⟩ (.slice ax_u T.now.length cx_u)).setCell ⟨z3.heap.size, 3, none⟩ (.slice ay_u T.last.length cy_u)) := LK.of (set_block (set_block (set_block (set_block hcb 0 _) 1 _) 2 _) 3 _)
            have hst := Below.trans hCl.below (below_four z13 (.slice ab_u T.disk.blocks.length cb_u) (.slice au_u T.disk.waits.length cu_u) (.slice ax_u T.now.length cx_u) (.slice ay_u T.last.length cy_u) lo_F12)
            have hfr : ∀ x, x < z13.heap.size → (x < z3.heap.size ∨ z3.heap.size + 1 ≤ x) → ((((z13.setCell ⟨z3.heap.size, 0, none⟩ (.slice ab_u T.disk.blocks.length cb_u)).setCell ⟨z3.heap.size, 1, none⟩ (.slice au_u T.disk.waits.length cu_u)).setCell ⟨z3.heap.size, 2, none⟩ (.slice ax_u T.now.length cx_u)).setCell ⟨z3.heap.size, 3, none⟩ (.slice ay_u T.last.length cy_u)).heap[x]? = z13.heap[x]? := fun x _ h => (set_other _ _ _ _ _ (by omega)).trans ((set_other _ _ _ _ _ (by omega)).trans ((set_other _ _ _ _ _ (by omega)).trans (set_other _ _ _ _ _ (by omega))))
            have F9 := F7.out (V' := ((((z13.setCell ⟨z3.heap.size, 0, none⟩ (.slice ab_u T.disk.blocks.length cb_u)).setCell ⟨z3.heap.size, 1, none⟩ (.slice au_u T.disk.waits.length cu_u)).setCell ⟨z3.heap.size, 2, none⟩ (.slice ax_u T.now.length cx_u)).setCell ⟨z3.heap.size, 3, none⟩ (.slice ay_u T.last.length cy_u))) (by simp only [World.size_setCell]; omega) hfr (by omega)
            have hCl := Cls.of hst
            refine hK.out (Cls w6) (fun _ h => h) hCl ?_
            clear hK K'
            refine wpAnyH_seg (fuel := 0) (by kernel_rfl) (fun _ d _ _ _ h => by cases d <;> exact h) hCl [14, 15] _ _ _ (by kernel_rfl) (by kernel_rfl) ?_
            simp only [opsOf_cons, opsOf_nil, consOp_some, List.getElem?_toArray, List.getElem?_cons_succ, List.getElem?_cons_zero]
            repeat (first | go_big_quiet_step (fail) | quiet_step (fail))
            refine wpQuiet_nil ?_
            refine wpAnyH_done (by kernel_rfl) ?_ _
            go_wp2
            go_meet
            exact ⟨_, _, _, _, _, _, _, rfl, rfl, rfl, F8, F9, by omega, hst⟩
          exact Each.nil
        refine Each.cons _ rfl (fun K' hK => ?_) ?_
        · go_simp
          have hs := cls_alloc hCl (.cells #[.slice none 0 0, .slice none 0 0, .slice none 0 0, .slice none 0 0] 46)
          have F12 : LK z1.heap.size (.cells #[.slice none 0 0, .slice none 0 0, .slice none 0 0, .slice none 0 0] 46) _ := cls_new hCl (.cells #[.slice none 0 0, .slice none 0 0, .slice none 0 0, .slice none 0 0] 46)
          have hlt : z1.heap.size < (z1.alloc (.cells #[.slice none 0 0, .slice none 0 0, .slice none 0 0, .slice none 0 0] 46)).heap.size := by simp
          have hst := below_step hCl.below hCl.below.size hs
          have lo_F12 := hCl.below.size
          obtain ⟨z15, hz⟩ : ∃ v, z1.alloc (.cells #[.slice none 0 0, .slice none 0 0, .slice none 0 0, .slice none 0 0] 46) = v := ⟨_, rfl⟩
          have hz2 : z1.alloc (.cells #[.slice none 0 0, .slice none 0 0, .slice none 0 0, .slice none 0 0] 46) = z15 := hz
          rw [hz] at ⊢
          rw [hz2] at hst hlt F12
          have sz_z15 := hlt
          clear hz hz2 hs hlt
          have hCl := Cls.of hst
          refine hK.out (Cls w6) (fun _ h => h) hCl ?_
          clear hK K'
          refine wpAnyH_each (fuel := 9) [5] (by kernel_rfl) (by simp) (by kernel_rfl) ?_
          refine Each.cons _ rfl (fun K' hK => ?_) Each.nil
          go_simp
          have hs := cls_alloc hCl (.cells #[.int .u8 2, .int .u32 0, .int .u32 (c.toNat : Int), .int .i64 8, .slice none 0 0] 56)
          have F5 := cls_at hCl HIT.out
          have hlt : z15.heap.size < (z15.alloc (.cells #[.int .u8 2, .int .u32 0, .int .u32 (c.toNat : Int), .int .i64 8, .slice none 0 0] 56)).heap.size := by simp
          replace F12 := F12.step hs
          have hst := below_step hCl.below hCl.below.size hs
          have lo_F5 := hCl.below.size
          obtain ⟨z16, hz⟩ : ∃ v, z15.alloc (.cells #[.int .u8 2, .int .u32 0, .int .u32 (c.toNat : Int), .int .i64 8, .slice none 0 0] 56) = v := ⟨_, rfl⟩
          have hz2 : z15.alloc (.cells #[.int .u8 2, .int .u32 0, .int .u32 (c.toNat : Int), .int .i64 8, .slice none 0 0] 56) = z16 := hz
          rw [hz] at ⊢
          rw [hz2] at hst hlt F12 F5
          have sz_z16 := hlt
          clear hz hz2 hs hlt
          have hCl := Cls.of hst
          refine hK.out (Cls w6) (fun _ h => h) hCl ?_
          clear hK K'
          refine wpAnyH_each (fuel := 8) [6] (by kernel_rfl) (by simp) (by kernel_rfl) ?_
          refine Each.cons _ rfl (fun K' hK => ?_) Each.nil
          go_simp
          have hst := hCl.below
          have hCl := Cls.of hst
          refine hK.out (Cls w6) (fun _ h => h) hCl ?_
          clear hK K'
          refine wpAnyH_each (fuel := 7) [7] (by kernel_rfl) (by simp) (by kernel_rfl) ?_
          refine Each.cons _ rfl (fun K' hK => ?_) Each.nil
          go_simp
          refine (HC.out.2.1 _ _ _ _ _ _ (HQ.out.2.1.step hCl.below).v ⟨by decide, F5.v⟩).mono ?_
          rintro e z18 ⟨b2, u2, x2, y2, rfl, hm⟩
          have hs := hm.below
          have lo_F7 := Nat.le_trans hCl.below.size (Nat.le_refl _)
          obtain ⟨ab_u, cb_u, rfl, -, -, -, -⟩ := hm.store.v.1.1
          obtain ⟨au_u, cu_u, rfl, -, -, -, -⟩ := hm.store.v.1.2
          obtain ⟨ax_u, cx_u, rfl, -, -⟩ := hm.store.v.2.1.form rfl
          obtain ⟨ay_u, cy_u, rfl, -, -⟩ := hm.store.v.2.2.form rfl
          replace F12 := F12.step hs
          replace F5 := F5.step hs
          have F7 := LP.of hm
          have sz_z18 : z16.heap.size ≤ z18.heap.size := hs.size
          have hst := below_step hCl.below hCl.below.size hs
          clear hs
          have hCl := Cls.of hst
          refine hK.out (Cls w6) (fun _ h => h) hCl ?_
          clear hK K'
          refine wpAnyH_seg (fuel := 3) (by kernel_rfl) (fun _ d _ _ _ h => by cases d <;> exact h) hCl [8, 9, 10, 11] _ _ _ (by kernel_rfl) (by kernel_rfl) ?_
          simp only [opsOf_cons, opsOf_nil, consOp_some, List.getElem?_toArray, List.getElem?_cons_succ, List.getElem?_cons_zero]
          repeat (first | go_big_quiet_step (fail) | quiet_step (fail))
          refine wpQuiet_nil ?_
          refine wpAnyH_each (fuel := 2) [13] (by kernel_rfl) (by simp) (by kernel_rfl) ?_
          refine Each.cons _ rfl (fun K' hK => ?_) Each.nil
          have hcb := LK.blk F12
          have r0 := LK.cell F12 0
          have r1 := LK.cell F12 1
          have r2 := LK.cell F12 2
          have r3 := LK.cell F12 3
          simp at r0 r1 r2 r3
          have s0 := LK.frozen F12 0
          have s1 := LK.frozen F12 1
          have s2 := LK.frozen F12 2
          have s3 := LK.frozen F12 3
          go_simp
          have F8 : LK (z1.heap.size) (.cells #[.slice ab_u T.disk.blocks.length cb_u, .slice au_u T.disk.waits.length cu_u, .slice ax_u T.now.length cx_u, .slice ay_u T.last.length cy_u] 46) ((((z18.setCell ⟨z1.heap.size, 0, none⟩ (.slice ab_u T.disk.blocks.length cb_u)).setCell ⟨z1.heap.size, 1, none⟩ (.slice au_u T.disk.waits.length cu_u)).setCell ⟨z1.heap.size, 2, none⟩ (.slice ax_u T.now.length cx_u)).setCell ⟨z1.heap.size, 3, none⟩ (.slice ay_u T.last.length cy_u)) := LK.of (set_block (set_block (set_block (set_block hcb 0 _) 1 _) 2 _) 3 _)
          have hst := Below.trans hCl.below (below_four z18 (.slice ab_u T.disk.blocks.length cb_u) (.slice au_u T.disk.waits.length cu_u) (.slice ax_u T.now.length cx_u) (.slice ay_u T.last.length cy_u) lo_F12)
          have hfr : ∀ x, x < z18.heap.size → (x < z1.heap.size ∨ z1.heap.size + 1 ≤ x) → ((((z18.setCell ⟨z1.heap.size, 0, none⟩ (.slice ab_u T.disk.blocks.length cb_u)).setCell ⟨z1.heap.size, 1, none⟩ (.slice au_u T.disk.waits.length cu_u)).setCell ⟨z1.heap.size, 2, none⟩ (.slice ax_u T.now.length cx_u)).setCell ⟨z1.heap.size, 3, none⟩ (.slice ay_u T.last.length cy_u)).heap[x]? = z18.heap[x]? := fun x _ h => (set_other _ _ _ _ _ (by omega)).trans ((set_other _ _ _ _ _ (by omega)).trans ((set_other _ _ _ _ _ (by omega)).trans (set_other _ _ _ _ _ (by omega))))
          have F9 := F7.out (V' := ((((z18.setCell ⟨z1.heap.size, 0, none⟩ (.slice ab_u T.disk.blocks.length cb_u)).setCell ⟨z1.heap.size, 1, none⟩ (.slice au_u T.disk.waits.length cu_u)).setCell ⟨z1.heap.size, 2, none⟩ (.slice ax_u T.now.length cx_u)).setCell ⟨z1.heap.size, 3, none⟩ (.slice ay_u T.last.length cy_u))) (by simp only [World.size_setCell]; omega) hfr (by omega)
          have hCl := Cls.of hst
          refine hK.out (Cls w6) (fun _ h => h) hCl ?_
          clear hK K'
          refine wpAnyH_seg (fuel := 0) (by kernel_rfl) (fun _ d _ _ _ h => by cases d <;> exact h) hCl [14, 15] _ _ _ (by kernel_rfl) (by kernel_rfl) ?_
          simp only [opsOf_cons, opsOf_nil, consOp_some, List.getElem?_toArray, List.getElem?_cons_succ, List.getElem?_cons_zero]
          repeat (first | go_big_quiet_step (fail) | quiet_step (fail))
          refine wpQuiet_nil ?_
          refine wpAnyH_done (by kernel_rfl) ?_ _
          go_wp2
          go_meet
          exact ⟨_, _, _, _, _, _, _, rfl, rfl, rfl, F8, F9, by omega, hst⟩
        exact Each.nil
      refine Each.cons _ rfl (fun K' hK => ?_) ?_
      · go_simp
        have hs := cls_alloc hCl (.cells #[.slice none 0 0, .slice none 0 0, .slice none 0 0, .slice none 0 0] 46)
        have F12 : LK z1.heap.size (.cells #[.slice none 0 0, .slice none 0 0, .slice none 0 0, .slice none 0 0] 46) _ := cls_new hCl (.cells #[.slice none 0 0, .slice none 0 0, .slice none 0 0, .slice none 0 0] 46)
        have hlt : z1.heap.size < (z1.alloc (.cells #[.slice none 0 0, .slice none 0 0, .slice none 0 0, .slice none 0 0] 46)).heap.size := by simp
        have hst := below_step hCl.below hCl.below.size hs
        have lo_F12 := hCl.below.size
        obtain ⟨z20, hz⟩ : ∃ v, z1.alloc (.cells #[.slice none 0 0, .slice none 0 0, .slice none 0 0, .slice none 0 0] 46) = v := ⟨_, rfl⟩
        have hz2 : z1.alloc (.cells #[.slice none 0 0, .slice none 0 0, .slice none 0 0, .slice none 0 0] 46) = z20 := hz
        rw [hz] at ⊢
        rw [hz2] at hst hlt F12
        have sz_z20 := hlt
        clear hz hz2 hs hlt
        have hCl := Cls.of hst
        refine hK.out (Cls w6) (fun _ h => h) hCl ?_
        clear hK K'
        refine wpAnyH_each (fuel := 10) [4] (by kernel_rfl) (by simp) (by kernel_rfl) ?_
        refine Each.cons _ rfl (fun K' hK => ?_) Each.nil
        go_simp
        have hst := hCl.below
        have hCl := Cls.of hst
        refine hK.out (Cls w6) (fun _ h => h) hCl ?_
        clear hK K'
        refine wpAnyH_each (fuel := 9) [5] (by kernel_rfl) (by simp) (by kernel_rfl) ?_
        refine Each.cons _ rfl (fun K' hK => ?_) Each.nil
        go_simp
        have hs := cls_alloc hCl (.cells #[.int .u8 2, .int .u32 0, .int .u32 (c.toNat : Int), .int .i64 8, .slice none 0 0] 56)
        have F5 := cls_at hCl HIT.out
        have hlt : z20.heap.size < (z20.alloc (.cells #[.int .u8 2, .int .u32 0, .int .u32 (c.toNat : Int), .int .i64 8, .slice none 0 0] 56)).heap.size := by simp
        replace F12 := F12.step hs
        have hst := below_step hCl.below hCl.below.size hs
        have lo_F5 := hCl.below.size
        obtain ⟨z22, hz⟩ : ∃ v, z20.alloc (.cells #[.int .u8 2, .int .u32 0, .int .u32 (c.toNat : Int), .int .i64 8, .slice none 0 0] 56) = v := ⟨_, rfl⟩
        have hz2 : z20.alloc (.cells #[.int .u8 2, .int .u32 0, .int .u32 (c.toNat : Int), .int .i64 8, .slice none 0 0] 56) = z22 := hz
        rw [hz] at ⊢
        rw [hz2] at hst hlt F12 F5
        have sz_z22 := hlt
        clear hz hz2 hs hlt
        have hCl := Cls.of hst
        refine hK.out (Cls w6) (fun _ h => h) hCl ?_
        clear hK K'
        refine wpAnyH_each (fuel := 8) [6] (by kernel_rfl) (by simp) (by kernel_rfl) ?_
        refine Each.cons _ rfl (fun K' hK => ?_) Each.nil
        go_simp
        have hst := hCl.below
        have hCl := Cls.of hst
        refine hK.out (Cls w6) (fun _ h => h) hCl ?_
        clear hK K'
        refine wpAnyH_each (fuel := 7) [7] (by kernel_rfl) (by simp) (by kernel_rfl) ?_
        refine Each.cons _ rfl (fun K' hK => ?_) Each.nil
        go_simp
        refine (HC.out.2.1 _ _ _ _ _ _ (HQ.out.2.1.step hCl.below).v ⟨by decide, F5.v⟩).mono ?_
        rintro e z24 ⟨b2, u2, x2, y2, rfl, hm⟩
        have hs := hm.below
        have lo_F7 := Nat.le_trans hCl.below.size (Nat.le_refl _)
        obtain ⟨ab_u, cb_u, rfl, -, -, -, -⟩ := hm.store.v.1.1
        obtain ⟨au_u, cu_u, rfl, -, -, -, -⟩ := hm.store.v.1.2
        obtain ⟨ax_u, cx_u, rfl, -, -⟩ := hm.store.v.2.1.form rfl
        obtain ⟨ay_u, cy_u, rfl, -, -⟩ := hm.store.v.2.2.form rfl
        replace F12 := F12.step hs
        replace F5 := F5.step hs
        have F7 := LP.of hm
        have sz_z24 : z22.heap.size ≤ z24.heap.size := hs.size
        have hst := below_step hCl.below hCl.below.size hs
        clear hs
        have hCl := Cls.of hst
        refine hK.out (Cls w6) (fun _ h => h) hCl ?_
        clear hK K'
        refine wpAnyH_seg (fuel := 3) (by kernel_rfl) (fun _ d _ _ _ h => by cases d <;> exact h) hCl [8, 9, 10, 11] _ _ _ (by kernel_rfl) (by kernel_rfl) ?_
        simp only [opsOf_cons, opsOf_nil, consOp_some, List.getElem?_toArray, List.getElem?_cons_succ, List.getElem?_cons_zero]
        repeat (first | go_big_quiet_step (fail) | quiet_step (fail))
        refine wpQuiet_nil ?_
        refine wpAnyH_each (fuel := 2) [13] (by kernel_rfl) (by simp) (by kernel_rfl) ?_
        refine Each.cons _ rfl (fun K' hK => ?_) Each.nil
        have hcb := LK.blk F12
        have r0 := LK.cell F12 0
        have r1 := LK.cell F12 1
        have r2 := LK.cell F12 2
        have r3 := LK.cell F12 3
        simp at r0 r1 r2 r3
        have s0 := LK.frozen F12 0
        have s1 := LK.frozen F12 1
        have s2 := LK.frozen F12 2
        have s3 := LK.frozen F12 3
        go_simp
        have F8 : LK (z1.heap.size) (.cells #[.slice ab_u T.disk.blocks.length cb_u, .slice au_u T.disk.waits.length cu_u, .slice ax_u T.now.length cx_u, .slice ay_u T.last.length cy_u] 46) ((((z24.setCell ⟨z1.heap.size, 0, none⟩ (.slice ab_u T.disk.blocks.length cb_u)).setCell ⟨z1.heap.size, 1, none⟩ (.slice au_u T.disk.waits.length cu_u)).setCell ⟨z1.heap.size, 2, none⟩ (.slice ax_u T.now.length cx_u)).setCell ⟨z1.heap.size, 3, none⟩ (.slice ay_u T.last.length cy_u)) := LK.of (set_block (set_block (set_block (set_block hcb 0 _) 1 _) 2 _) 3 _)
        have hst := Below.trans hCl.below (below_four z24 (.slice ab_u T.disk.blocks.length cb_u) (.slice au_u T.disk.waits.length cu_u) (.slice ax_u T.now.length cx_u) (.slice ay_u T.last.length cy_u) lo_F12)
        have hfr : ∀ x, x < z24.heap.size → (x < z1.heap.size ∨ z1.heap.size + 1 ≤ x) → ((((z24.setCell ⟨z1.heap.size, 0, none⟩ (.slice ab_u T.disk.blocks.length cb_u)).setCell ⟨z1.heap.size, 1, none⟩ (.slice au_u T.disk.waits.length cu_u)).setCell ⟨z1.heap.size, 2, none⟩ (.slice ax_u T.now.length cx_u)).setCell ⟨z1.heap.size, 3, none⟩ (.slice ay_u T.last.length cy_u)).heap[x]? = z24.heap[x]? := fun x _ h => (set_other _ _ _ _ _ (by omega)).trans ((set_other _ _ _ _ _ (by omega)).trans ((set_other _ _ _ _ _ (by omega)).trans (set_other _ _ _ _ _ (by omega))))
        have F9 := F7.out (V' := ((((z24.setCell ⟨z1.heap.size, 0, none⟩ (.slice ab_u T.disk.blocks.length cb_u)).setCell ⟨z1.heap.size, 1, none⟩ (.slice au_u T.disk.waits.length cu_u)).setCell ⟨z1.heap.size, 2, none⟩ (.slice ax_u T.now.length cx_u)).setCell ⟨z1.heap.size, 3, none⟩ (.slice ay_u T.last.length cy_u))) (by simp only [World.size_setCell]; omega) hfr (by omega)
        have hCl := Cls.of hst
        refine hK.out (Cls w6) (fun _ h => h) hCl ?_
        clear hK K'
        refine wpAnyH_seg (fuel := 0) (by kernel_rfl) (fun _ d _ _ _ h => by cases d <;> exact h) hCl [14, 15] _ _ _ (by kernel_rfl) (by kernel_rfl) ?_
        simp only [opsOf_cons, opsOf_nil, consOp_some, List.getElem?_toArray, List.getElem?_cons_succ, List.getElem?_cons_zero]
        repeat (first | go_big_quiet_step (fail) | quiet_step (fail))
        refine wpQuiet_nil ?_
        refine wpAnyH_done (by kernel_rfl) ?_ _
        go_wp2
        go_meet
        exact ⟨_, _, _, _, _, _, _, rfl, rfl, rfl, F8, F9, by omega, hst⟩
      exact Each.nil
    refine Each.cons _ rfl (fun K' hK => ?_) ?_
    · go_simp
      have hs := cls_alloc hCl (.cells #[.slice none 0 0, .slice none 0 0, .slice none 0 0, .slice none 0 0] 46)
      have F12 : LK w6.heap.size (.cells #[.slice none 0 0, .slice none 0 0, .slice none 0 0, .slice none 0 0] 46) _ := cls_new hCl (.cells #[.slice none 0 0, .slice none 0 0, .slice none 0 0, .slice none 0 0] 46)
      have hlt : w6.drew.heap.size < (w6.drew.alloc (.cells #[.slice none 0 0, .slice none 0 0, .slice none 0 0, .slice none 0 0] 46)).heap.size := by simp
      have hst := below_step hCl.below hCl.below.size hs
      have lo_F12 := hCl.below.size
      obtain ⟨z26, hz⟩ : ∃ v, (w6.alloc (.cells #[.slice none 0 0, .slice none 0 0, .slice none 0 0, .slice none 0 0] 46)).drew = v := ⟨_, rfl⟩
      have hz2 : w6.drew.alloc (.cells #[.slice none 0 0, .slice none 0 0, .slice none 0 0, .slice none 0 0] 46) = z26 := hz
      rw [hz] at ⊢
      rw [hz2] at hst hlt F12
      have sz_z26 := hlt
      clear hz hz2 hs hlt
      have hCl := Cls.of hst
      refine hK.out (Cls w6) (fun _ h => h) hCl ?_
      clear hK K'
      refine wpAnyH_each (fuel := 11) [2] (by kernel_rfl) (by simp) (by kernel_rfl) ?_
      refine Each.cons _ rfl (fun K' hK => ?_) Each.nil
      go_simp
      refine (HC.out.2.2.2 _ _).mono ?_
      rintro e z27 ⟨rfl, hs⟩
      replace F12 := F12.step hs
      have sz_z27 : z26.heap.size ≤ z27.heap.size := hs.size
      have hst := below_step hCl.below hCl.below.size hs
      clear hs
      have hCl := Cls.of hst
      refine hK.out (Cls w6) (fun _ h => h) hCl ?_
      clear hK K'
      refine wpAnyH_each (fuel := 10) [4] (by kernel_rfl) (by simp) (by kernel_rfl) ?_
      refine Each.cons _ rfl (fun K' hK => ?_) Each.nil
      go_simp
      have hst := hCl.below
      have hCl := Cls.of hst
      refine hK.out (Cls w6) (fun _ h => h) hCl ?_
      clear hK K'
      refine wpAnyH_each (fuel := 9) [5] (by kernel_rfl) (by simp) (by kernel_rfl) ?_
      refine Each.cons _ rfl (fun K' hK => ?_) Each.nil
      go_simp
      have hs := cls_alloc hCl (.cells #[.int .u8 2, .int .u32 0, .int .u32 (c.toNat : Int), .int .i64 8, .slice none 0 0] 56)
      have F5 := cls_at hCl HIT.out
      have hlt : z27.heap.size < (z27.alloc (.cells #[.int .u8 2, .int .u32 0, .int .u32 (c.toNat : Int), .int .i64 8, .slice none 0 0] 56)).heap.size := by simp
      replace F12 := F12.step hs
      have hst := below_step hCl.below hCl.below.size hs
      have lo_F5 := hCl.below.size
      obtain ⟨z29, hz⟩ : ∃ v, z27.alloc (.cells #[.int .u8 2, .int .u32 0, .int .u32 (c.toNat : Int), .int .i64 8, .slice none 0 0] 56) = v := ⟨_, rfl⟩
      have hz2 : z27.alloc (.cells #[.int .u8 2, .int .u32 0, .int .u32 (c.toNat : Int), .int .i64 8, .slice none 0 0] 56) = z29 := hz
      rw [hz] at ⊢
      rw [hz2] at hst hlt F12 F5
      have sz_z29 := hlt
      clear hz hz2 hs hlt
      have hCl := Cls.of hst
      refine hK.out (Cls w6) (fun _ h => h) hCl ?_
      clear hK K'
      refine wpAnyH_each (fuel := 8) [6] (by kernel_rfl) (by simp) (by kernel_rfl) ?_
      refine Each.cons _ rfl (fun K' hK => ?_) Each.nil
      go_simp
      have hst := hCl.below
      have hCl := Cls.of hst
      refine hK.out (Cls w6) (fun _ h => h) hCl ?_
      clear hK K'
      refine wpAnyH_each (fuel := 7) [7] (by kernel_rfl) (by simp) (by kernel_rfl) ?_
      refine Each.cons _ rfl (fun K' hK => ?_) Each.nil
      go_simp
      refine (HC.out.2.1 _ _ _ _ _ _ (HQ.out.2.1.step hCl.below).v ⟨by decide, F5.v⟩).mono ?_
      rintro e z31 ⟨b2, u2, x2, y2, rfl, hm⟩
      have hs := hm.below
      have lo_F7 := Nat.le_trans hCl.below.size (Nat.le_refl _)
      obtain ⟨ab_u, cb_u, rfl, -, -, -, -⟩ := hm.store.v.1.1
      obtain ⟨au_u, cu_u, rfl, -, -, -, -⟩ := hm.store.v.1.2
      obtain ⟨ax_u, cx_u, rfl, -, -⟩ := hm.store.v.2.1.form rfl
      obtain ⟨ay_u, cy_u, rfl, -, -⟩ := hm.store.v.2.2.form rfl
      replace F12 := F12.step hs
      replace F5 := F5.step hs
      have F7 := LP.of hm
      have sz_z31 : z29.heap.size ≤ z31.heap.size := hs.size
      have hst := below_step hCl.below hCl.below.size hs
      clear hs
      have hCl := Cls.of hst
      refine hK.out (Cls w6) (fun _ h => h) hCl ?_
      clear hK K'
      refine wpAnyH_seg (fuel := 3) (by kernel_rfl) (fun _ d _ _ _ h => by cases d <;> exact h) hCl [8, 9, 10, 11] _ _ _ (by kernel_rfl) (by kernel_rfl) ?_
      simp only [opsOf_cons, opsOf_nil, consOp_some, List.getElem?_toArray, List.getElem?_cons_succ, List.getElem?_cons_zero]
      repeat (first | go_big_quiet_step (fail) | quiet_step (fail))
      refine wpQuiet_nil ?_
      refine wpAnyH_each (fuel := 2) [13] (by kernel_rfl) (by simp) (by kernel_rfl) ?_
      refine Each.cons _ rfl (fun K' hK => ?_) Each.nil
      have hcb := LK.blk F12
      have r0 := LK.cell F12 0
      have r1 := LK.cell F12 1
      have r2 := LK.cell F12 2
      have r3 := LK.cell F12 3
      simp at r0 r1 r2 r3
      have s0 := LK.frozen F12 0
      have s1 := LK.frozen F12 1
      have s2 := LK.frozen F12 2
      have s3 := LK.frozen F12 3
      go_simp
      have F8 : LK (w6.heap.size) (.cells #[.slice ab_u T.disk.blocks.length cb_u, .slice au_u T.disk.waits.length cu_u, .slice ax_u T.now.length cx_u, .slice ay_u T.last.length cy_u] 46) ((((z31.setCell ⟨w6.heap.size, 0, none⟩ (.slice ab_u T.disk.blocks.length cb_u)).setCell ⟨w6.heap.size, 1, none⟩ (.slice au_u T.disk.waits.length cu_u)).setCell ⟨w6.heap.size, 2, none⟩ (.slice ax_u T.now.length cx_u)).setCell ⟨w6.heap.size, 3, none⟩ (.slice ay_u T.last.length cy_u)) := LK.of (set_block (set_block (set_block (set_block hcb 0 _) 1 _) 2 _) 3 _)
      have hst := Below.trans hCl.below (below_four z31 (.slice ab_u T.disk.blocks.length cb_u) (.slice au_u T.disk.waits.length cu_u) (.slice ax_u T.now.length cx_u) (.slice ay_u T.last.length cy_u) lo_F12)
      have hfr : ∀ x, x < z31.heap.size → (x < w6.heap.size ∨ w6.heap.size + 1 ≤ x) → ((((z31.setCell ⟨w6.heap.size, 0, none⟩ (.slice ab_u T.disk.blocks.length cb_u)).setCell ⟨w6.heap.size, 1, none⟩ (.slice au_u T.disk.waits.length cu_u)).setCell ⟨w6.heap.size, 2, none⟩ (.slice ax_u T.now.length cx_u)).setCell ⟨w6.heap.size, 3, none⟩ (.slice ay_u T.last.length cy_u)).heap[x]? = z31.heap[x]? := fun x _ h => (set_other _ _ _ _ _ (by omega)).trans ((set_other _ _ _ _ _ (by omega)).trans ((set_other _ _ _ _ _ (by omega)).trans (set_other _ _ _ _ _ (by omega))))
      have F9 := F7.out (V' := ((((z31.setCell ⟨w6.heap.size, 0, none⟩ (.slice ab_u T.disk.blocks.length cb_u)).setCell ⟨w6.heap.size, 1, none⟩ (.slice au_u T.disk.waits.length cu_u)).setCell ⟨w6.heap.size, 2, none⟩ (.slice ax_u T.now.length cx_u)).setCell ⟨w6.heap.size, 3, none⟩ (.slice ay_u T.last.length cy_u))) (by simp only [World.size_setCell]; omega) hfr (by omega)
      have hCl := Cls.of hst
      refine hK.out (Cls w6) (fun _ h => h) hCl ?_
      clear hK K'
      refine wpAnyH_seg (fuel := 0) (by kernel_rfl) (fun _ d _ _ _ h => by cases d <;> exact h) hCl [14, 15] _ _ _ (by kernel_rfl) (by kernel_rfl) ?_
      simp only [opsOf_cons, opsOf_nil, consOp_some, List.getElem?_toArray, List.getElem?_cons_succ, List.getElem?_cons_zero]
      repeat (first | go_big_quiet_step (fail) | quiet_step (fail))
      refine wpQuiet_nil ?_
      refine wpAnyH_done (by kernel_rfl) ?_ _
      go_wp2
      go_meet
      exact ⟨_, _, _, _, _, _, _, rfl, rfl, rfl, F8, F9, by omega, hst⟩
    exact Each.nil
  case rest =>
  obtain ⟨gT, lo, hi, bT, uT, xT, yT, rfl, rfl, rfl, q_T, P_T, lo_T, hst⟩ := hcut
  obtain ⟨wc, hwc⟩ := named_w hst
  subst hwc
  have hv := (LP.t P_T).v
  obtain ⟨ab_T, cb_T, rfl, -, -, -, -⟩ := hv.1.1
  obtain ⟨au_T, cu_T, rfl, -, -, -, -⟩ := hv.1.2
  obtain ⟨ax_T, cx_T, rfl, -, -⟩ := hv.2.1.form rfl
  obtain ⟨ay_T, cy_T, rfl, -, -⟩ := hv.2.2.form rfl
  clear hv
  clear c_q_r0 c_q_r1 c_q_r2 c_q_r3 c_q_t0 c_q_t1 c_q_t2 c_q_t3
  obtain ⟨q_r, P_t, q_t, hB⟩ := HQ.out
  clear HQ
  have sz_wc : w6.heap.size ≤ wc.heap.size := hst.size
  replace q_r := q_r.step hst
  replace P_t := P_t.step hst
  replace q_t := q_t.step hst
  replace hB := hB.step hst
  clear hst
  have HQ := Lib.hid (And.intro q_r (And.intro P_t (And.intro q_t (And.intro q_T (And.intro P_T hB)))))
  clear q_r P_t q_t q_T P_T hB
  have c_q_T0 := LK.cell HQ.out.2.2.2.1 0
  have c_q_T1 := LK.cell HQ.out.2.2.2.1 1
  have c_q_T2 := LK.cell HQ.out.2.2.2.1 2
  have c_q_T3 := LK.cell HQ.out.2.2.2.1 3
  have c_q_r0 := LK.cell HQ.out.1 0
  have c_q_r1 := LK.cell HQ.out.1 1
  have c_q_r2 := LK.cell HQ.out.1 2
  have c_q_r3 := LK.cell HQ.out.1 3
  have z_q_r0 := LK.frozen HQ.out.1 0
  have z_q_r1 := LK.frozen HQ.out.1 1
  have z_q_r2 := LK.frozen HQ.out.1 2
  have z_q_r3 := LK.frozen HQ.out.1 3
  simp at c_q_T0 c_q_T1 c_q_T2 c_q_T3 c_q_r0 c_q_r1 c_q_r2 c_q_r3
  go_wp2
  refine bodyPost_ret (v := .tuple #[.agg #[.slice ab_T T.disk.blocks.length cb_T, .slice au_T T.disk.waits.length cu_T, .slice ax_T T.now.length cx_T, .slice ay_T T.last.length cy_T], .bool true]) (by simp [results, Try.results34, go_sem, c_q_r0, c_q_r1, c_q_r2, c_q_r3]) rfl ⟨_, _, _, _, rfl, ?_⟩
  exact ((MadeL.mk ((HQ.out.2.2.2.2.1.t).more (by omega) (Lv.hi_le HQ.out.2.2.2.2.1)) HQ.out.2.2.2.2.2 : MadeL w _ (w.heap.size + 1) _ _ _ _ T).four w.heap.size _ _ _ _ (by omega) (by omega)).made (by omega)
end Go.Proofs.Ytcibihakjcenaaa

