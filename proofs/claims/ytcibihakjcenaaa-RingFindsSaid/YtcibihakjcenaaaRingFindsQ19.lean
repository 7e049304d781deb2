/- RingFinds: the words and contracts, part 19. -/
import Derived.Test.YtcibihakjcenaaaRingFindsQ1
import Derived.Test.YtcibihakjcenaaaRingFindsQ2
import Derived.Test.YtcibihakjcenaaaRingFindsQ3
import Derived.Test.YtcibihakjcenaaaRingFindsQ4
import Derived.Test.YtcibihakjcenaaaRingFindsQ5
import Derived.Test.YtcibihakjcenaaaRingFindsQ6
import Derived.Test.YtcibihakjcenaaaRingFindsQ7
import Derived.Test.YtcibihakjcenaaaRingFindsQ8
import Derived.Test.YtcibihakjcenaaaRingFindsQ9
import Derived.Test.YtcibihakjcenaaaRingFindsQ10
import Derived.Test.YtcibihakjcenaaaRingFindsQ11
import Derived.Test.YtcibihakjcenaaaRingFindsQ12
import Derived.Test.YtcibihakjcenaaaRingFindsQ13
import Derived.Test.YtcibihakjcenaaaRingFindsQ14
import Derived.Test.YtcibihakjcenaaaRingFindsQ15
import Derived.Test.YtcibihakjcenaaaRingFindsQ16
import Derived.Test.YtcibihakjcenaaaRingFindsQ17
import Derived.Test.YtcibihakjcenaaaRingFindsQ18
import Derived.WalkKit
import Derived.WalkLawsBesides
import Derived.WalkSpells
import Derived.Lib.Hide
import Derived.Laws.Rows
import Derived.Laws.AppendOwnNone
import Derived.Maps.AppendAt
import Derived.ProofKit
import Derived.Deep.Slices
import Derived.WideShapes
import Derived.RangeFuncNested
import Derived.RangeFuncBound
import Derived.RangeFuncCalls
import Derived.RangeFuncLeaves
import Derived.RangeFuncBox
import Derived.Shelf.Abstract
import Derived.Shelf.RegionOpen
import Derived.OwnWalkIn
import Derived.TacticsInMore
import Derived.LoopNIn
import Derived.LoopIn
import Derived.Lib.AppendZerosOnto
import Derived.Lib.SliceRun
import Derived.Lib.Walk
import Derived.Deep.LoopGhost
import Derived.Laws.CopyOwn
import Derived.Laws.CopyRow
import Derived.OrdersHeld
import Derived.Deep.QuietTactic
import Derived.BigQuiet
import Derived.StillTailTactics
import Derived.OpenShut
import Derived.Deep.DeepCutAuto
import Derived.Deep.RegionHeld
import Derived.Laws.MakeOwn
import Derived.KernelRfl
import Derived.BigFrameIn
import Derived.ShutString
import Derived.ChangeOld
import Derived.Below
import Derived.Shelf.SlSortCmp.SmallK
import Derived.Shelf.Small.Bits
namespace Go.Proofs.Ytcibihakjcenaaa
open Go.RowKit

set_option linter.unusedSimpArgs false
set_option maxRecDepth 100000 in
set_option maxHeartbeats 4000000 in
theorem ringFinds_walk (d : DiskL) (b_d u_d : Value) (s : SupL) (u_s : Value) (w : World) (h_d : DiskV w 0 w.heap.size b_d u_d d) (h_s : SupV w 0 w.heap.size u_s s) :
    Calls Try.prog 9 #[.agg #[b_d, u_d], .agg #[wV s.gen, .int .i64 s.root, wV s.next, wV s.table, u_s]] w fun e w' => e = .returned (.bool true) ∧ Below w.heap.size w w' := by
  obtain ⟨ab_d, cb_d, rfl, gb_d, gc_d, -, -⟩ := h_d.1
  obtain ⟨au_d, cu_d, rfl, gu_d, gv_d, -, -⟩ := h_d.2
  unfold maxLen at gc_d gv_d
  obtain ⟨s_g, s_r, s_n, s_t, s_d⟩ := s
  obtain ⟨hw_s, h_s⟩ := h_s
  dsimp only at hw_s h_s
  obtain ⟨a_s, c_s, rfl, g_s, gm_s, -, -⟩ := id h_s
  unfold maxLen at gm_s
  simp only [bV, wV]
  have hst := (((Below.refl w.heap.size w).alloc (Nat.le_refl _) (.cells #[.slice ab_d d.blocks.length cb_d, .slice au_d d.waits.length cu_d] 44)).alloc (by simp) (.cells #[.int .u32 (s_g.toNat : Int), .int .i64 s_r, .int .u32 (s_n.toNat : Int), .int .u32 (s_t.toNat : Int), .slice a_s s_d.length c_s] 25))
  have hq := two_new w (.cells #[.slice ab_d d.blocks.length cb_d, .slice au_d d.waits.length cu_d] 44) (.cells #[.int .u32 (s_g.toNat : Int), .int .i64 s_r, .int .u32 (s_n.toNat : Int), .int .u32 (s_t.toNat : Int), .slice a_s s_d.length c_s] 25)
  have q_d := LK.of hq.1
  have q_s := LK.of hq.2
  have hB : LW w _ := hst
  have D_d := (LD.of h_d (Nat.le_refl _)).step hst
  have S_s := (LS.of h_s (Nat.le_refl _)).step hst
  have sz_V : w.heap.size + 1 < ((w.alloc (.cells #[.slice ab_d d.blocks.length cb_d, .slice au_d d.waits.length cu_d] 44)).alloc (.cells #[.int .u32 (s_g.toNat : Int), .int .i64 s_r, .int .u32 (s_n.toNat : Int), .int .u32 (s_t.toNat : Int), .slice a_s s_d.length c_s] 25)).heap.size := by simp
  obtain ⟨V, hV⟩ : ∃ V, ((w.alloc (.cells #[.slice ab_d d.blocks.length cb_d, .slice au_d d.waits.length cu_d] 44)).alloc (.cells #[.int .u32 (s_g.toNat : Int), .int .i64 s_r, .int .u32 (s_n.toNat : Int), .int .u32 (s_t.toNat : Int), .slice a_s s_d.length c_s] 25)) = V := ⟨_, rfl⟩
  rw [hV] at sz_V q_d q_s D_d S_s hB
  clear hst h_d h_s hq
  have HQ := Lib.hid (And.intro q_d (And.intro q_s (And.intro D_d (And.intro S_s hB))))
  clear q_d q_s D_d S_s hB
  have c_q_d0 := LK.cell HQ.out.1 0
  have c_q_d1 := LK.cell HQ.out.1 1
  have c_q_s0 := LK.cell HQ.out.2.1 0
  have c_q_s1 := LK.cell HQ.out.2.1 1
  have c_q_s2 := LK.cell HQ.out.2.1 2
  have c_q_s3 := LK.cell HQ.out.2.1 3
  have c_q_s4 := LK.cell HQ.out.2.1 4
  simp at c_q_d0 c_q_d1 c_q_s0 c_q_s1 c_q_s2 c_q_s3 c_q_s4
  have k_g := fun V b u hh => great_any b u d V hh
  have k_t := fun V b u hh h1 h2 h3 => rdtwin_any b u d V hh h1 h2 h3
  have k_p := fun V b u hh h2 => uput_any b u d (⟨s_g, s_r, s_n, s_t, s_d⟩ : SupL) (.slice a_s s_d.length c_s) V hh (⟨hw_s, h2⟩ : SupV _ _ _ _ (⟨s_g, s_r, s_n, s_t, s_d⟩ : SupL))
  have k_q := fun V b u hh h2 => ruput_any d b u (⟨s_g, s_r, s_n, s_t, s_d⟩ : SupL) (.slice a_s s_d.length c_s) V hh (⟨hw_s, h2⟩ : SupV _ _ _ _ (⟨s_g, s_r, s_n, s_t, s_d⟩ : SupL))
  have k_f := fun V b u hh => ufind_any b u d V hh
  have k_h := fun V b u hh => rufind_any d b u V hh
  have k_s := fun V b u b2 u2 h1 h2 => rdsame_any b u b2 u2 (putU d (⟨s_g, s_r, s_n, s_t, s_d⟩ : SupL)) (putU d (⟨s_g, s_r, s_n, s_t, s_d⟩ : SupL)) V h1 h2
  have k_o := fun V b u b2 u2 h1 h2 => rdsame_any b u b2 u2 d d V h1 h2
  have k_e := fun (x : SupL) V v u h1 h2 => rusame_any x x v u V h1 h2
  simp only [decide_true, wV] at k_p k_q k_s k_o k_e
  generalize errPut d (⟨s_g, s_r, s_n, s_t, s_d⟩ : SupL) = ep at *
  generalize putU d (⟨s_g, s_r, s_n, s_t, s_d⟩ : SupL) = PD at *
  generalize errF d = ef at *
  generalize fndU d = L at *
  have HC := Lib.hid (And.intro k_g (And.intro k_t (And.intro k_p (And.intro k_q (And.intro k_f (And.intro k_h (And.intro k_s (And.intro k_o k_e))))))))
  clear k_g k_t k_p k_q k_f k_h k_s k_o k_e
  go_enter Try.func9, Try.ntmps9
  go_upto_region 1 with (fail)
  clear hV
  go_wp2_with fail
  refine (HC.out.1 _ _ _ HQ.out.2.2.1.v).mono ?_
  rintro e w1 ⟨g, rfl, hst, hg1⟩
  clear c_q_d0 c_q_d1 c_q_s0 c_q_s1 c_q_s2 c_q_s3 c_q_s4
  obtain ⟨q_d, q_s, D_d, S_s, hB⟩ := HQ.out
  clear HQ
  have sz_w1 : V.heap.size ≤ w1.heap.size := hst.size
  replace q_d := q_d.step hst
  replace q_s := q_s.step hst
  replace D_d := D_d.step hst
  replace S_s := S_s.step hst
  replace hB := hB.step hst
  clear hst
  have HQ := Lib.hid (And.intro q_d (And.intro q_s (And.intro D_d (And.intro S_s hB))))
  clear q_d q_s D_d S_s hB
  have c_q_d0 := LK.cell HQ.out.1 0
  have c_q_d1 := LK.cell HQ.out.1 1
  have c_q_s0 := LK.cell HQ.out.2.1 0
  have c_q_s1 := LK.cell HQ.out.2.1 1
  have c_q_s2 := LK.cell HQ.out.2.1 2
  have c_q_s3 := LK.cell HQ.out.2.1 3
  have c_q_s4 := LK.cell HQ.out.2.1 4
  simp at c_q_d0 c_q_d1 c_q_s0 c_q_s1 c_q_s2 c_q_s3 c_q_s4
  cases g
  case true =>
    go_wp2
    go_ret
    exact ⟨rfl, HQ.out.2.2.2.2⟩
  obtain ⟨hn1, hn2, hn3⟩ := hg1 rfl
  clear hg1
  by_cases hd : 1000 < s_d.length
  · have i3 : (1000 : Int) < s_d.length := by omega
    go_wp2
    go_ret
    exact ⟨rfl, HQ.out.2.2.2.2⟩
  have i3 : ¬ (1000 : Int) < s_d.length := by omega
  go_wp2_with fail
  refine (HC.out.2.1 _ _ _ HQ.out.2.2.1.v (by omega) (by omega) (by omega)).mono ?_
  rintro e w2 ⟨b1, u1, rfl, hm⟩
  clear c_q_d0 c_q_d1 c_q_s0 c_q_s1 c_q_s2 c_q_s3 c_q_s4
  obtain ⟨q_d, q_s, D_d, S_s, hB⟩ := HQ.out
  clear HQ
  have D_o := LD.of hm.disk (Nat.le_refl _)
  have hst := hm.below
  obtain ⟨ab_o, cb_o, rfl, -, -, -, -⟩ := hm.disk.1
  obtain ⟨au_o, cu_o, rfl, -, -, -, -⟩ := hm.disk.2
  clear hm
  have sz_w2 : w1.heap.size ≤ w2.heap.size := hst.size
  replace q_d := q_d.step hst
  replace q_s := q_s.step hst
  replace D_d := D_d.step hst
  replace S_s := S_s.step hst
  replace hB := hB.step hst
  clear hst
  have HQ := Lib.hid (And.intro q_d (And.intro q_s (And.intro D_d (And.intro S_s (And.intro D_o hB)))))
  clear q_d q_s D_d S_s D_o hB
  have c_q_d0 := LK.cell HQ.out.1 0
  have c_q_d1 := LK.cell HQ.out.1 1
  have c_q_s0 := LK.cell HQ.out.2.1 0
  have c_q_s1 := LK.cell HQ.out.2.1 1
  have c_q_s2 := LK.cell HQ.out.2.1 2
  have c_q_s3 := LK.cell HQ.out.2.1 3
  have c_q_s4 := LK.cell HQ.out.2.1 4
  simp at c_q_d0 c_q_d1 c_q_s0 c_q_s1 c_q_s2 c_q_s3 c_q_s4
  go_upto_region 4 with (fail)
  clear c_q_d0 c_q_d1 c_q_s0 c_q_s1 c_q_s2 c_q_s3 c_q_s4
  obtain ⟨q_d, q_s, D_d, S_s, D_o, hB⟩ := HQ.out
  clear HQ
  have hst := (Below.refl w2.heap.size w2).alloc (Nat.le_refl _) (.cells #[.slice ab_o d.blocks.length cb_o, .slice au_o d.waits.length cu_o] 44)
  have hlt : w2.heap.size < (w2.alloc (.cells #[.slice ab_o d.blocks.length cb_o, .slice au_o d.waits.length cu_o] 44)).heap.size := by simp
  have q_o := LK.new w2 (.cells #[.slice ab_o d.blocks.length cb_o, .slice au_o d.waits.length cu_o] 44)
  replace q_d := q_d.step hst
  replace q_s := q_s.step hst
  replace D_d := D_d.step hst
  replace S_s := S_s.step hst
  replace D_o := D_o.step hst
  replace hB := hB.step hst
  obtain ⟨w3, hw⟩ : ∃ v, w2.alloc (.cells #[.slice ab_o d.blocks.length cb_o, .slice au_o d.waits.length cu_o] 44) = v := ⟨_, rfl⟩
  rw [hw] at hlt q_o q_d q_s D_d S_s D_o hB ⊢
  clear hw hst
  have sz_w3 := hlt
  clear hlt
  have HQ := Lib.hid (And.intro q_d (And.intro q_s (And.intro D_d (And.intro S_s (And.intro D_o (And.intro q_o hB))))))
  clear q_d q_s D_d S_s D_o q_o hB
  have c_q_d0 := LK.cell HQ.out.1 0
  have c_q_d1 := LK.cell HQ.out.1 1
  have c_q_s0 := LK.cell HQ.out.2.1 0
  have c_q_s1 := LK.cell HQ.out.2.1 1
  have c_q_s2 := LK.cell HQ.out.2.1 2
  have c_q_s3 := LK.cell HQ.out.2.1 3
  have c_q_s4 := LK.cell HQ.out.2.1 4
  have c_q_o0 := LK.cell HQ.out.2.2.2.2.2.1 0
  have c_q_o1 := LK.cell HQ.out.2.2.2.2.2.1 1
  simp at c_q_d0 c_q_d1 c_q_s0 c_q_s1 c_q_s2 c_q_s3 c_q_s4 c_q_o0 c_q_o1
  go_wp2_with fail
  refine (HC.out.2.2.1 _ _ _ HQ.out.2.2.2.2.1.v HQ.out.2.2.2.1.v).mono ?_
  rintro e w4 ⟨b2, u2, rfl, hm⟩
  clear c_q_d0 c_q_d1 c_q_s0 c_q_s1 c_q_s2 c_q_s3 c_q_s4 c_q_o0 c_q_o1
  obtain ⟨q_d, q_s, D_d, S_s, D_o, q_o, hB⟩ := HQ.out
  clear HQ
  have D_A := LT.of hm
  have hst := hm.below
  obtain ⟨ab_A, cb_A, rfl, -, -, -, -⟩ := hm.v0.1
  obtain ⟨au_A, cu_A, rfl, -, -, -, -⟩ := hm.v0.2
  clear hm
  have sz_w4 : w3.heap.size ≤ w4.heap.size := hst.size
  replace q_d := q_d.step hst
  replace q_s := q_s.step hst
  replace D_d := D_d.step hst
  replace S_s := S_s.step hst
  replace D_o := D_o.step hst
  replace q_o := q_o.step hst
  replace hB := hB.step hst
  clear hst
  have HQ := Lib.hid (And.intro q_d (And.intro q_s (And.intro D_d (And.intro S_s (And.intro D_o (And.intro q_o (And.intro D_A hB)))))))
  clear q_d q_s D_d S_s D_o q_o D_A hB
  have c_q_d0 := LK.cell HQ.out.1 0
  have c_q_d1 := LK.cell HQ.out.1 1
  have c_q_s0 := LK.cell HQ.out.2.1 0
  have c_q_s1 := LK.cell HQ.out.2.1 1
  have c_q_s2 := LK.cell HQ.out.2.1 2
  have c_q_s3 := LK.cell HQ.out.2.1 3
  have c_q_s4 := LK.cell HQ.out.2.1 4
  have c_q_o0 := LK.cell HQ.out.2.2.2.2.2.1 0
  have c_q_o1 := LK.cell HQ.out.2.2.2.2.2.1 1
  simp at c_q_d0 c_q_d1 c_q_s0 c_q_s1 c_q_s2 c_q_s3 c_q_s4 c_q_o0 c_q_o1
  go_upto_region 5 with (fail)
  clear c_q_d0 c_q_d1 c_q_s0 c_q_s1 c_q_s2 c_q_s3 c_q_s4 c_q_o0 c_q_o1
  obtain ⟨q_d, q_s, D_d, S_s, D_o, q_o, D_A, hB⟩ := HQ.out
  clear HQ
  have hst := (Below.refl w4.heap.size w4).alloc (Nat.le_refl _) (.cells #[.slice ab_A PD.blocks.length cb_A, .slice au_A PD.waits.length cu_A] 44)
  have hlt : w4.heap.size < (w4.alloc (.cells #[.slice ab_A PD.blocks.length cb_A, .slice au_A PD.waits.length cu_A] 44)).heap.size := by simp
  have q_A := LK.new w4 (.cells #[.slice ab_A PD.blocks.length cb_A, .slice au_A PD.waits.length cu_A] 44)
  replace q_d := q_d.step hst
  replace q_s := q_s.step hst
  replace D_d := D_d.step hst
  replace S_s := S_s.step hst
  replace D_o := D_o.step hst
  replace q_o := q_o.step hst
  replace D_A := D_A.step hst
  replace hB := hB.step hst
  obtain ⟨w5, hw⟩ : ∃ v, w4.alloc (.cells #[.slice ab_A PD.blocks.length cb_A, .slice au_A PD.waits.length cu_A] 44) = v := ⟨_, rfl⟩
  rw [hw] at hlt q_A q_d q_s D_d S_s D_o q_o D_A hB ⊢
  clear hw hst
  have sz_w5 := hlt
  clear hlt
  have HQ := Lib.hid (And.intro q_d (And.intro q_s (And.intro D_d (And.intro S_s (And.intro D_o (And.intro q_o (And.intro D_A (And.intro q_A hB))))))))
  clear q_d q_s D_d S_s D_o q_o D_A q_A hB
  have c_q_d0 := LK.cell HQ.out.1 0
  have c_q_d1 := LK.cell HQ.out.1 1
  have c_q_s0 := LK.cell HQ.out.2.1 0
  have c_q_s1 := LK.cell HQ.out.2.1 1
  have c_q_s2 := LK.cell HQ.out.2.1 2
  have c_q_s3 := LK.cell HQ.out.2.1 3
  have c_q_s4 := LK.cell HQ.out.2.1 4
  have c_q_o0 := LK.cell HQ.out.2.2.2.2.2.1 0
  have c_q_o1 := LK.cell HQ.out.2.2.2.2.2.1 1
  have c_q_A0 := LK.cell HQ.out.2.2.2.2.2.2.2.1 0
  have c_q_A1 := LK.cell HQ.out.2.2.2.2.2.2.2.1 1
  simp at c_q_d0 c_q_d1 c_q_s0 c_q_s1 c_q_s2 c_q_s3 c_q_s4 c_q_o0 c_q_o1 c_q_A0 c_q_A1
  go_wp2_with fail
  refine (HC.out.2.2.2.1 _ _ _ HQ.out.2.2.1.v HQ.out.2.2.2.1.v).mono ?_
  rintro e w6 ⟨b3, u3, rfl, hm⟩
  clear c_q_d0 c_q_d1 c_q_s0 c_q_s1 c_q_s2 c_q_s3 c_q_s4 c_q_o0 c_q_o1 c_q_A0 c_q_A1
  obtain ⟨q_d, q_s, D_d, S_s, D_o, q_o, D_A, q_A, hB⟩ := HQ.out
  clear HQ
  have D_B := LD.of hm.disk (Nat.le_refl _)
  have hst := hm.below
  obtain ⟨ab_B, cb_B, rfl, -, -, -, -⟩ := hm.disk.1
  obtain ⟨au_B, cu_B, rfl, -, -, -, -⟩ := hm.disk.2
  clear hm
  have sz_w6 : w5.heap.size ≤ w6.heap.size := hst.size
  replace q_d := q_d.step hst
  replace q_s := q_s.step hst
  replace D_d := D_d.step hst
  replace S_s := S_s.step hst
  replace D_o := D_o.step hst
  replace q_o := q_o.step hst
  replace D_A := D_A.step hst
  replace q_A := q_A.step hst
  replace hB := hB.step hst
  clear hst
  have HQ := Lib.hid (And.intro q_d (And.intro q_s (And.intro D_d (And.intro S_s (And.intro D_o (And.intro q_o (And.intro D_A (And.intro q_A (And.intro D_B hB)))))))))
  clear q_d q_s D_d S_s D_o q_o D_A q_A D_B hB
  have c_q_d0 := LK.cell HQ.out.1 0
  have c_q_d1 := LK.cell HQ.out.1 1
  have c_q_s0 := LK.cell HQ.out.2.1 0
  have c_q_s1 := LK.cell HQ.out.2.1 1
  have c_q_s2 := LK.cell HQ.out.2.1 2
  have c_q_s3 := LK.cell HQ.out.2.1 3
  have c_q_s4 := LK.cell HQ.out.2.1 4
  have c_q_o0 := LK.cell HQ.out.2.2.2.2.2.1 0
  have c_q_o1 := LK.cell HQ.out.2.2.2.2.2.1 1
  have c_q_A0 := LK.cell HQ.out.2.2.2.2.2.2.2.1 0
  have c_q_A1 := LK.cell HQ.out.2.2.2.2.2.2.2.1 1
  simp at c_q_d0 c_q_d1 c_q_s0 c_q_s1 c_q_s2 c_q_s3 c_q_s4 c_q_o0 c_q_o1 c_q_A0 c_q_A1
  go_upto_region 6 with (fail)
  clear c_q_d0 c_q_d1 c_q_s0 c_q_s1 c_q_s2 c_q_s3 c_q_s4 c_q_o0 c_q_o1 c_q_A0 c_q_A1
  obtain ⟨q_d, q_s, D_d, S_s, D_o, q_o, D_A, q_A, D_B, hB⟩ := HQ.out
  clear HQ
  have hst := (Below.refl w6.heap.size w6).alloc (Nat.le_refl _) (.cells #[.slice ab_B PD.blocks.length cb_B, .slice au_B PD.waits.length cu_B] 44)
  have hlt : w6.heap.size < (w6.alloc (.cells #[.slice ab_B PD.blocks.length cb_B, .slice au_B PD.waits.length cu_B] 44)).heap.size := by simp
  have q_B := LK.new w6 (.cells #[.slice ab_B PD.blocks.length cb_B, .slice au_B PD.waits.length cu_B] 44)
  replace q_d := q_d.step hst
  replace q_s := q_s.step hst
  replace D_d := D_d.step hst
  replace S_s := S_s.step hst
  replace D_o := D_o.step hst
  replace q_o := q_o.step hst
  replace D_A := D_A.step hst
  replace q_A := q_A.step hst
  replace D_B := D_B.step hst
  replace hB := hB.step hst
  obtain ⟨w7, hw⟩ : ∃ v, w6.alloc (.cells #[.slice ab_B PD.blocks.length cb_B, .slice au_B PD.waits.length cu_B] 44) = v := ⟨_, rfl⟩
  rw [hw] at hlt q_B q_d q_s D_d S_s D_o q_o D_A q_A D_B hB ⊢
  clear hw hst
  have sz_w7 := hlt
  clear hlt
  have HQ := Lib.hid (And.intro q_d (And.intro q_s (And.intro D_d (And.intro S_s (And.intro D_o (And.intro q_o (And.intro D_A (And.intro q_A (And.intro D_B (And.intro q_B hB))))))))))
  clear q_d q_s D_d S_s D_o q_o D_A q_A D_B q_B hB
  have c_q_d0 := LK.cell HQ.out.1 0
  have c_q_d1 := LK.cell HQ.out.1 1
  have c_q_s0 := LK.cell HQ.out.2.1 0
  have c_q_s1 := LK.cell HQ.out.2.1 1
  have c_q_s2 := LK.cell HQ.out.2.1 2
  have c_q_s3 := LK.cell HQ.out.2.1 3
  have c_q_s4 := LK.cell HQ.out.2.1 4
  have c_q_o0 := LK.cell HQ.out.2.2.2.2.2.1 0
  have c_q_o1 := LK.cell HQ.out.2.2.2.2.2.1 1
  have c_q_A0 := LK.cell HQ.out.2.2.2.2.2.2.2.1 0
  have c_q_A1 := LK.cell HQ.out.2.2.2.2.2.2.2.1 1
  have c_q_B0 := LK.cell HQ.out.2.2.2.2.2.2.2.2.2.1 0
  have c_q_B1 := LK.cell HQ.out.2.2.2.2.2.2.2.2.2.1 1
  simp at c_q_d0 c_q_d1 c_q_s0 c_q_s1 c_q_s2 c_q_s3 c_q_s4 c_q_o0 c_q_o1 c_q_A0 c_q_A1 c_q_B0 c_q_B1
  go_wp2_with fail
  refine (HC.out.2.2.2.2.1 _ _ _ HQ.out.2.2.2.2.1.v).mono ?_
  rintro e w8 ⟨vl, rfl, hm⟩
  clear c_q_d0 c_q_d1 c_q_s0 c_q_s1 c_q_s2 c_q_s3 c_q_s4 c_q_o0 c_q_o1 c_q_A0 c_q_A1 c_q_B0 c_q_B1
  obtain ⟨q_d, q_s, D_d, S_s, D_o, q_o, D_A, q_A, D_B, q_B, hB⟩ := HQ.out
  clear HQ
  have S_l := LS.of hm.row (Nat.le_refl _)
  obtain ⟨a_l, c_l, rfl, g_l, gm_l, -, -⟩ := id hm.row
  unfold maxLen at gm_l
  have hst := hm.below
  clear hm
  have sz_w8 : w7.heap.size ≤ w8.heap.size := hst.size
  replace q_d := q_d.step hst
  replace q_s := q_s.step hst
  replace D_d := D_d.step hst
  replace S_s := S_s.step hst
  replace D_o := D_o.step hst
  replace q_o := q_o.step hst
  replace D_A := D_A.step hst
  replace q_A := q_A.step hst
  replace D_B := D_B.step hst
  replace q_B := q_B.step hst
  replace hB := hB.step hst
  clear hst
  have HQ := Lib.hid (And.intro q_d (And.intro q_s (And.intro D_d (And.intro S_s (And.intro D_o (And.intro q_o (And.intro D_A (And.intro q_A (And.intro D_B (And.intro q_B (And.intro S_l hB)))))))))))
  clear q_d q_s D_d S_s D_o q_o D_A q_A D_B q_B S_l hB
  have c_q_d0 := LK.cell HQ.out.1 0
  have c_q_d1 := LK.cell HQ.out.1 1
  have c_q_s0 := LK.cell HQ.out.2.1 0
  have c_q_s1 := LK.cell HQ.out.2.1 1
  have c_q_s2 := LK.cell HQ.out.2.1 2
  have c_q_s3 := LK.cell HQ.out.2.1 3
  have c_q_s4 := LK.cell HQ.out.2.1 4
  have c_q_o0 := LK.cell HQ.out.2.2.2.2.2.1 0
  have c_q_o1 := LK.cell HQ.out.2.2.2.2.2.1 1
  have c_q_A0 := LK.cell HQ.out.2.2.2.2.2.2.2.1 0
  have c_q_A1 := LK.cell HQ.out.2.2.2.2.2.2.2.1 1
  have c_q_B0 := LK.cell HQ.out.2.2.2.2.2.2.2.2.2.1 0
  have c_q_B1 := LK.cell HQ.out.2.2.2.2.2.2.2.2.2.1 1
  simp at c_q_d0 c_q_d1 c_q_s0 c_q_s1 c_q_s2 c_q_s3 c_q_s4 c_q_o0 c_q_o1 c_q_A0 c_q_A1 c_q_B0 c_q_B1
  go_wp2_with fail
  refine (HC.out.2.2.2.2.2.1 _ _ _ HQ.out.2.2.1.v).mono ?_
  rintro e w9 ⟨vm, rfl, hm, hst⟩
  clear c_q_d0 c_q_d1 c_q_s0 c_q_s1 c_q_s2 c_q_s3 c_q_s4 c_q_o0 c_q_o1 c_q_A0 c_q_A1 c_q_B0 c_q_B1
  obtain ⟨q_d, q_s, D_d, S_s, D_o, q_o, D_A, q_A, D_B, q_B, S_l, hB⟩ := HQ.out
  clear HQ
  have S_m := LS.of hm (Nat.le_refl _)
  obtain ⟨a_m, c_m, rfl, g_m, gm_m, -, -⟩ := id hm
  unfold maxLen at gm_m
  clear hm
  have sz_w9 : w8.heap.size ≤ w9.heap.size := hst.size
  replace q_d := q_d.step hst
  replace q_s := q_s.step hst
  replace D_d := D_d.step hst
  replace S_s := S_s.step hst
  replace D_o := D_o.step hst
  replace q_o := q_o.step hst
  replace D_A := D_A.step hst
  replace q_A := q_A.step hst
  replace D_B := D_B.step hst
  replace q_B := q_B.step hst
  replace S_l := S_l.step hst
  replace hB := hB.step hst
  clear hst
  have HQ := Lib.hid (And.intro q_d (And.intro q_s (And.intro D_d (And.intro S_s (And.intro D_o (And.intro q_o (And.intro D_A (And.intro q_A (And.intro D_B (And.intro q_B (And.intro S_l (And.intro S_m hB))))))))))))
  clear q_d q_s D_d S_s D_o q_o D_A q_A D_B q_B S_l S_m hB
  have c_q_d0 := LK.cell HQ.out.1 0
  have c_q_d1 := LK.cell HQ.out.1 1
  have c_q_s0 := LK.cell HQ.out.2.1 0
  have c_q_s1 := LK.cell HQ.out.2.1 1
  have c_q_s2 := LK.cell HQ.out.2.1 2
  have c_q_s3 := LK.cell HQ.out.2.1 3
  have c_q_s4 := LK.cell HQ.out.2.1 4
  have c_q_o0 := LK.cell HQ.out.2.2.2.2.2.1 0
  have c_q_o1 := LK.cell HQ.out.2.2.2.2.2.1 1
  have c_q_A0 := LK.cell HQ.out.2.2.2.2.2.2.2.1 0
  have c_q_A1 := LK.cell HQ.out.2.2.2.2.2.2.2.1 1
  have c_q_B0 := LK.cell HQ.out.2.2.2.2.2.2.2.2.2.1 0
  have c_q_B1 := LK.cell HQ.out.2.2.2.2.2.2.2.2.2.1 1
  simp at c_q_d0 c_q_d1 c_q_s0 c_q_s1 c_q_s2 c_q_s3 c_q_s4 c_q_o0 c_q_o1 c_q_A0 c_q_A1 c_q_B0 c_q_B1
  go_wp2_with fail
  refine (HC.out.2.2.2.2.2.2.1 _ _ _ _ _ HQ.out.2.2.2.2.2.2.1.v HQ.out.2.2.2.2.2.2.2.2.1.v).mono ?_
  rintro e w10 ⟨rfl, hst⟩
  clear c_q_d0 c_q_d1 c_q_s0 c_q_s1 c_q_s2 c_q_s3 c_q_s4 c_q_o0 c_q_o1 c_q_A0 c_q_A1 c_q_B0 c_q_B1
  obtain ⟨q_d, q_s, D_d, S_s, D_o, q_o, D_A, q_A, D_B, q_B, S_l, S_m, hB⟩ := HQ.out
  clear HQ
  have sz_w10 : w9.heap.size ≤ w10.heap.size := hst.size
  replace q_d := q_d.step hst
  replace q_s := q_s.step hst
  replace D_d := D_d.step hst
  replace S_s := S_s.step hst
  replace D_o := D_o.step hst
  replace q_o := q_o.step hst
  replace D_A := D_A.step hst
  replace q_A := q_A.step hst
  replace D_B := D_B.step hst
  replace q_B := q_B.step hst
  replace S_l := S_l.step hst
  replace S_m := S_m.step hst
  replace hB := hB.step hst
  clear hst
  have HQ := Lib.hid (And.intro q_d (And.intro q_s (And.intro D_d (And.intro S_s (And.intro D_o (And.intro q_o (And.intro D_A (And.intro q_A (And.intro D_B (And.intro q_B (And.intro S_l (And.intro S_m hB))))))))))))
  clear q_d q_s D_d S_s D_o q_o D_A q_A D_B q_B S_l S_m hB
  have c_q_d0 := LK.cell HQ.out.1 0
  have c_q_d1 := LK.cell HQ.out.1 1
  have c_q_s0 := LK.cell HQ.out.2.1 0
  have c_q_s1 := LK.cell HQ.out.2.1 1
  have c_q_s2 := LK.cell HQ.out.2.1 2
  have c_q_s3 := LK.cell HQ.out.2.1 3
  have c_q_s4 := LK.cell HQ.out.2.1 4
  have c_q_o0 := LK.cell HQ.out.2.2.2.2.2.1 0
  have c_q_o1 := LK.cell HQ.out.2.2.2.2.2.1 1
  have c_q_A0 := LK.cell HQ.out.2.2.2.2.2.2.2.1 0
  have c_q_A1 := LK.cell HQ.out.2.2.2.2.2.2.2.1 1
  have c_q_B0 := LK.cell HQ.out.2.2.2.2.2.2.2.2.2.1 0
  have c_q_B1 := LK.cell HQ.out.2.2.2.2.2.2.2.2.2.1 1
  simp at c_q_d0 c_q_d1 c_q_s0 c_q_s1 c_q_s2 c_q_s3 c_q_s4 c_q_o0 c_q_o1 c_q_A0 c_q_A1 c_q_B0 c_q_B1
  go_wp2_with fail
  go_loopw [14] (fun i wr => ∃ j : Nat, j ≤ L.length ∧ i = .int .i64 j ∧ Below w10.heap.size w10 wr) (fun i _ => L.length - (intOf i).toNat)
  case atStart => exact ⟨0, Nat.zero_le _, rfl, Below.refl _ _⟩
  case round =>
  obtain ⟨j, hj, rfl, hst⟩ := hrel
  clear c_q_d0 c_q_d1 c_q_s0 c_q_s1 c_q_s2 c_q_s3 c_q_s4 c_q_o0 c_q_o1 c_q_A0 c_q_A1 c_q_B0 c_q_B1
  obtain ⟨q_d, q_s, D_d, S_s, D_o, q_o, D_A, q_A, D_B, q_B, S_l, S_m, hB⟩ := HQ.out
  clear HQ
  replace q_d := q_d.step hst
  replace q_s := q_s.step hst
  replace D_d := D_d.step hst
  replace S_s := S_s.step hst
  replace D_o := D_o.step hst
  replace q_o := q_o.step hst
  replace D_A := D_A.step hst
  replace q_A := q_A.step hst
  replace D_B := D_B.step hst
  replace q_B := q_B.step hst
  replace S_l := S_l.step hst
  replace S_m := S_m.step hst
  replace hB := hB.step hst
  have sz_wr := hst.size
  have hW : LW w10 wr := hst
  clear hst
  have HQ := Lib.hid (And.intro q_d (And.intro q_s (And.intro D_d (And.intro S_s (And.intro D_o (And.intro q_o (And.intro D_A (And.intro q_A (And.intro D_B (And.intro q_B (And.intro S_l (And.intro S_m (And.intro hW hB)))))))))))))
  clear q_d q_s D_d S_s D_o q_o D_A q_A D_B q_B S_l S_m hW hB
  have c_q_d0 := LK.cell HQ.out.1 0
  have c_q_d1 := LK.cell HQ.out.1 1
  have c_q_s0 := LK.cell HQ.out.2.1 0
  have c_q_s1 := LK.cell HQ.out.2.1 1
  have c_q_s2 := LK.cell HQ.out.2.1 2
  have c_q_s3 := LK.cell HQ.out.2.1 3
  have c_q_s4 := LK.cell HQ.out.2.1 4
  have c_q_o0 := LK.cell HQ.out.2.2.2.2.2.1 0
  have c_q_o1 := LK.cell HQ.out.2.2.2.2.2.1 1
  have c_q_A0 := LK.cell HQ.out.2.2.2.2.2.2.2.1 0
  have c_q_A1 := LK.cell HQ.out.2.2.2.2.2.2.2.1 1
  have c_q_B0 := LK.cell HQ.out.2.2.2.2.2.2.2.2.2.1 0
  have c_q_B1 := LK.cell HQ.out.2.2.2.2.2.2.2.2.2.1 1
  simp at c_q_d0 c_q_d1 c_q_s0 c_q_s1 c_q_s2 c_q_s3 c_q_s4 c_q_o0 c_q_o1 c_q_A0 c_q_A1 c_q_B0 c_q_B1
  by_cases hlt : j < L.length
  case pos =>
    clear c_q_d0 c_q_d1 c_q_s0 c_q_s1 c_q_s2 c_q_s3 c_q_s4 c_q_o0 c_q_o1 c_q_A0 c_q_A1 c_q_B0 c_q_B1
    obtain ⟨bl, ol, cl, e1, -, zbl, -, ybl, -⟩ := Sl.at_ HQ.out.2.2.2.2.2.2.2.2.2.2.1.v (by omega)
    injection e1 with e1 _ e2
    subst e1 e2
    unfold maxLen at ybl
    obtain ⟨x0, x1, x2, x3, xa, xc, x4, xs⟩ := Sl.superAt HQ.out.2.2.2.2.2.2.2.2.2.2.1.v j _ (get_l L noU j hlt)
    have Hx := Lib.hid (LU5.of xs (Nat.le_refl _))
    clear xs
    replace x0 := fun X => ((aft_below wr X).cell (p := ⟨bl, ol + j * 5, none⟩) zbl).trans x0
    replace x1 := fun X => ((aft_below wr X).cell (p := ⟨bl, ol + j * 5 + 1, none⟩) zbl).trans x1
    replace x2 := fun X => ((aft_below wr X).cell (p := ⟨bl, ol + j * 5 + 2, none⟩) zbl).trans x2
    replace x3 := fun X => ((aft_below wr X).cell (p := ⟨bl, ol + j * 5 + 3, none⟩) zbl).trans x3
    replace x4 := fun X => ((aft_below wr X).cell (p := ⟨bl, ol + j * 5 + 4, none⟩) zbl).trans x4
    obtain ⟨bm, om, cm, e1, -, zbm, -, ybm, -⟩ := Sl.at_ HQ.out.2.2.2.2.2.2.2.2.2.2.2.1.v (by omega)
    injection e1 with e1 _ e2
    subst e1 e2
    unfold maxLen at ybm
    obtain ⟨y0, y1, y2, y3, ya, yc, y4, ys⟩ := Sl.superAt HQ.out.2.2.2.2.2.2.2.2.2.2.2.1.v j _ (get_l L noU j hlt)
    have Hy := Lib.hid (LU5.of ys (Nat.le_refl _))
    clear ys
    replace y0 := fun X => ((aft_below wr X).cell (p := ⟨bm, om + j * 5, none⟩) zbm).trans y0
    replace y1 := fun X => ((aft_below wr X).cell (p := ⟨bm, om + j * 5 + 1, none⟩) zbm).trans y1
    replace y2 := fun X => ((aft_below wr X).cell (p := ⟨bm, om + j * 5 + 2, none⟩) zbm).trans y2
    replace y3 := fun X => ((aft_below wr X).cell (p := ⟨bm, om + j * 5 + 3, none⟩) zbm).trans y3
    replace y4 := fun X => ((aft_below wr X).cell (p := ⟨bm, om + j * 5 + 4, none⟩) zbm).trans y4
    obtain ⟨X, hX⟩ : ∃ X, L.getD j noU = X := ⟨_, rfl⟩
    rw [hX] at x0 x1 x2 x3 x4 y0 y1 y2 y3 y4 Hx Hy
    clear hX
    have i6 : (j : Int) < L.length := by omega
    have i7 : ¬ (L.length : Int) ≤ j := by omega
    go_upto_region 13 with (fail)
    refine wp_region_held_drew (S := Cls wr) (by kernel_rfl) (Cls.drew wr) (fun hCl => ?_)
    refine wpAnyH_seg (fuel := 2) (by kernel_rfl) (fun _ d _ _ _ h => by cases d <;> exact h) hCl [0, 1, 2, 3, 4, 5, 6, 7] _ _ _ (by kernel_rfl) (by kernel_rfl) ?_
    simp only [opsOf_cons, opsOf_nil, consOp_some, List.getElem?_toArray, List.getElem?_cons_succ, List.getElem?_cons_zero]
    repeat (first | go_big_quiet_step (fail) | quiet_step (fail))
    refine wpQuiet_nil ?_
    refine wpAnyH_each (fuel := 1) [8] (by kernel_rfl) (by simp) (by kernel_rfl) ?_
    refine Each.cons _ rfl (fun K' hK => ?_) Each.nil
    go_simp
    refine (HC.out.2.2.2.2.2.2.2.2 X _ _ _ (LU5.step Hx.out hCl.below).v (LU5.step Hy.out hCl.below).v).mono ?_
    rintro e z1 ⟨rfl, hb⟩
    have hst := below_step hCl.below hCl.below.size hb
    clear hb
    have hCl := Cls.of hst
    refine hK.out (Cls wr) (fun _ h => h) hCl ?_
    clear hK K'
    refine wpAnyH_seg (fuel := 0) (by kernel_rfl) (fun _ d _ _ _ h => by cases d <;> exact h) hCl [9] _ _ _ (by kernel_rfl) (by kernel_rfl) ?_
    simp only [opsOf_cons, opsOf_nil, consOp_some, List.getElem?_toArray, List.getElem?_cons_succ, List.getElem?_cons_zero]
    repeat (first | go_big_quiet_step (fail) | quiet_step (fail))
    refine wpQuiet_nil ?_
    refine wpAnyH_done (by kernel_rfl) ?_ _
    have hWf := LW.step HQ.out.2.2.2.2.2.2.2.2.2.2.2.2.1 hst
    clear hst x0 y0 x1 y1 x2 y2 x3 y3 x4 y4
    go_wp2
    go_roundw
    case rel => exact ⟨j + 1, by omega, by go_num, hWf⟩
    case measure => simp [intOf]; omega
  obtain rfl : j = L.length := by omega
  go_wp2_with fail
  refine (HC.out.2.2.2.2.2.2.2.1 _ _ _ _ _ HQ.out.2.2.2.2.1.v HQ.out.2.2.1.v).mono ?_
  rintro e w11 ⟨rfl, hst⟩
  clear c_q_d0 c_q_d1 c_q_s0 c_q_s1 c_q_s2 c_q_s3 c_q_s4 c_q_o0 c_q_o1 c_q_A0 c_q_A1 c_q_B0 c_q_B1
  obtain ⟨q_d, q_s, D_d, S_s, D_o, q_o, D_A, q_A, D_B, q_B, S_l, S_m, hW, hB⟩ := HQ.out
  clear HQ
  have sz_w11 : wr.heap.size ≤ w11.heap.size := hst.size
  replace q_d := q_d.step hst
  replace q_s := q_s.step hst
  replace D_d := D_d.step hst
  replace S_s := S_s.step hst
  replace D_o := D_o.step hst
  replace q_o := q_o.step hst
  replace D_A := D_A.step hst
  replace q_A := q_A.step hst
  replace D_B := D_B.step hst
  replace q_B := q_B.step hst
  replace S_l := S_l.step hst
  replace S_m := S_m.step hst
  replace hW := hW.step hst
  replace hB := hB.step hst
  clear hst
  have HQ := Lib.hid (And.intro q_d (And.intro q_s (And.intro D_d (And.intro S_s (And.intro D_o (And.intro q_o (And.intro D_A (And.intro q_A (And.intro D_B (And.intro q_B (And.intro S_l (And.intro S_m (And.intro hW hB)))))))))))))
  clear q_d q_s D_d S_s D_o q_o D_A q_A D_B q_B S_l S_m hW hB
  have c_q_d0 := LK.cell HQ.out.1 0
  have c_q_d1 := LK.cell HQ.out.1 1
  have c_q_s0 := LK.cell HQ.out.2.1 0
  have c_q_s1 := LK.cell HQ.out.2.1 1
  have c_q_s2 := LK.cell HQ.out.2.1 2
  have c_q_s3 := LK.cell HQ.out.2.1 3
  have c_q_s4 := LK.cell HQ.out.2.1 4
  have c_q_o0 := LK.cell HQ.out.2.2.2.2.2.1 0
  have c_q_o1 := LK.cell HQ.out.2.2.2.2.2.1 1
  have c_q_A0 := LK.cell HQ.out.2.2.2.2.2.2.2.1 0
  have c_q_A1 := LK.cell HQ.out.2.2.2.2.2.2.2.1 1
  have c_q_B0 := LK.cell HQ.out.2.2.2.2.2.2.2.2.2.1 0
  have c_q_B1 := LK.cell HQ.out.2.2.2.2.2.2.2.2.2.1 1
  simp at c_q_d0 c_q_d1 c_q_s0 c_q_s1 c_q_s2 c_q_s3 c_q_s4 c_q_o0 c_q_o1 c_q_A0 c_q_A1 c_q_B0 c_q_B1
  go_wp2
  go_ret
  exact ⟨rfl, HQ.out.2.2.2.2.2.2.2.2.2.2.2.2.2⟩

end Go.Proofs.Ytcibihakjcenaaa

namespace Go.Proofs.Ytcibihakjcenaaa
open Go.ChangeShapes Go.WideShapes Go.ChangeAt Go.RowKit

section
variable {H : Type} {enc : TypeId × Value → H} {W : World} {r : Reach} {base : Nat} {spare : Nat → Bool} {held : Bool} {v : Value} {d : DataW H} {p : List MemPlace}
set_option maxRecDepth 100000 in
theorem arg_disk (hv : Value.okWide Try.prog W r base 44 v) (h : DataW.Trod enc Try.prog W 0 spare held 44 v d p) :
    ∃ (b u : Value) (x : DiskL), v = .agg #[b, u] ∧ DiskV W 0 W.heap.size b u x := by
  have ht : fieldsOf Try.prog 44 = some [(0, 41), (1, 42)] := by kernel_rfl
  have htw : fieldsOf Try.prog 143 = some [(0, 3), (1, 26)] := by kernel_rfl
  obtain ⟨cs, rfl, hsz⟩ := okW_struct ht hv
  obtain ⟨fuel, hf⟩ := h
  obtain ⟨b, u, x, hcs, hD⟩ := open_disk ht Try.underlying41 Try.underlying42 (by kernel_rfl) (by kernel_rfl) htw (by kernel_rfl) Try.underlying3 (by kernel_rfl) (by kernel_rfl) (by kernel_rfl) Try.underlying26 Try.underlying5 (by kernel_rfl) hf
  refine ⟨b, u, x, ?_, hD⟩
  congr 1
  apply Array.toList_inj.1
  exact hcs
end
end Go.Proofs.Ytcibihakjcenaaa

