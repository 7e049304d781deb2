/- RingLost: the words and contracts, part 19. -/
import Derived.Test.YtcibihakjcenaaaRingLostQ1
import Derived.Test.YtcibihakjcenaaaRingLostQ2
import Derived.Test.YtcibihakjcenaaaRingLostQ3
import Derived.Test.YtcibihakjcenaaaRingLostQ4
import Derived.Test.YtcibihakjcenaaaRingLostQ5
import Derived.Test.YtcibihakjcenaaaRingLostQ6
import Derived.Test.YtcibihakjcenaaaRingLostQ7
import Derived.Test.YtcibihakjcenaaaRingLostQ8
import Derived.Test.YtcibihakjcenaaaRingLostQ9
import Derived.Test.YtcibihakjcenaaaRingLostQ10
import Derived.Test.YtcibihakjcenaaaRingLostQ11
import Derived.Test.YtcibihakjcenaaaRingLostQ12
import Derived.Test.YtcibihakjcenaaaRingLostQ13
import Derived.Test.YtcibihakjcenaaaRingLostQ14
import Derived.Test.YtcibihakjcenaaaRingLostQ15
import Derived.Test.YtcibihakjcenaaaRingLostQ16
import Derived.Test.YtcibihakjcenaaaRingLostQ17
import Derived.Test.YtcibihakjcenaaaRingLostQ18
import Derived.WalkKit
import Derived.WalkLawsBesides
import Derived.WalkSpells
import Derived.Lib.Hide
import Derived.Laws.Rows
import Derived.Laws.AppendOwnNone
import Derived.Maps.AppendAt
import Derived.ProofKit
import Derived.Deep.Slices
import Derived.WideShapes
import Derived.RangeFuncNested
import Derived.RangeFuncBound
import Derived.RangeFuncCalls
import Derived.RangeFuncLeaves
import Derived.RangeFuncBox
import Derived.Shelf.Abstract
import Derived.Shelf.RegionOpen
import Derived.OwnWalkIn
import Derived.TacticsInMore
import Derived.LoopNIn
import Derived.LoopIn
import Derived.Lib.AppendZerosOnto
import Derived.Lib.SliceRun
import Derived.Lib.Walk
import Derived.Deep.LoopGhost
import Derived.Laws.CopyOwn
import Derived.Laws.CopyRow
import Derived.OrdersHeld
import Derived.Deep.QuietTactic
import Derived.BigQuiet
import Derived.StillTailTactics
import Derived.OpenShut
import Derived.Deep.DeepCutAuto
import Derived.Deep.RegionHeld
import Derived.Laws.MakeOwn
import Derived.KernelRfl
import Derived.BigFrameIn
import Derived.ShutString
import Derived.ChangeOld
import Derived.Below
import Derived.Shelf.SlSortCmp.SmallK
import Derived.Shelf.Small.Bits
namespace Go.Proofs.Ytcibihakjcenaaa
open Go.RowKit

set_option linter.unusedSimpArgs false
set_option maxRecDepth 100000 in
set_option maxHeartbeats 4000000 in
theorem ringLost_walk (d : DiskL) (b_d u_d : Value) (s : SupL) (u_s : Value) (kp : Bool) (w : World) (h_d : DiskV w 0 w.heap.size b_d u_d d) (h_s : SupV w 0 w.heap.size u_s s) :
    Calls Try.prog 14 #[.agg #[b_d, u_d], .agg #[wV s.gen, .int .i64 s.root, wV s.next, wV s.table, u_s], .bool kp] w fun e w' => e = .returned (.bool true) ∧ Below w.heap.size w w' := by
  obtain ⟨ab_d, cb_d, rfl, gb_d, gc_d, -, -⟩ := h_d.1
  obtain ⟨au_d, cu_d, rfl, gu_d, gv_d, -, -⟩ := h_d.2
  unfold maxLen at gc_d gv_d
  obtain ⟨s_g, s_r, s_n, s_t, s_d⟩ := s
  obtain ⟨hw_s, h_s⟩ := h_s
  dsimp only at hw_s h_s
  obtain ⟨a_s, c_s, rfl, g_s, gm_s, -, -⟩ := id h_s
  unfold maxLen at gm_s
  simp only [bV, wV]
  have hst := (((Below.refl w.heap.size w).alloc (Nat.le_refl _) (.cells #[.slice ab_d d.blocks.length cb_d, .slice au_d d.waits.length cu_d] 44)).alloc (by simp) (.cells #[.int .u32 (s_g.toNat : Int), .int .i64 s_r, .int .u32 (s_n.toNat : Int), .int .u32 (s_t.toNat : Int), .slice a_s s_d.length c_s] 25))
  have hq := two_new w (.cells #[.slice ab_d d.blocks.length cb_d, .slice au_d d.waits.length cu_d] 44) (.cells #[.int .u32 (s_g.toNat : Int), .int .i64 s_r, .int .u32 (s_n.toNat : Int), .int .u32 (s_t.toNat : Int), .slice a_s s_d.length c_s] 25)
  have q_d := LK.of hq.1
  have q_s := LK.of hq.2
  have hB : LW w _ := hst
  have D_d := (LD.of h_d (Nat.le_refl _)).step hst
  have S_s := (LS.of h_s (Nat.le_refl _)).step hst
  have sz_V : w.heap.size + 1 < ((w.alloc (.cells #[.slice ab_d d.blocks.length cb_d, .slice au_d d.waits.length cu_d] 44)).alloc (.cells #[.int .u32 (s_g.toNat : Int), .int .i64 s_r, .int .u32 (s_n.toNat : Int), .int .u32 (s_t.toNat : Int), .slice a_s s_d.length c_s] 25)).heap.size := by simp
  obtain ⟨V, hV⟩ : ∃ V, ((w.alloc (.cells #[.slice ab_d d.blocks.length cb_d, .slice au_d d.waits.length cu_d] 44)).alloc (.cells #[.int .u32 (s_g.toNat : Int), .int .i64 s_r, .int .u32 (s_n.toNat : Int), .int .u32 (s_t.toNat : Int), .slice a_s s_d.length c_s] 25)) = V := ⟨_, rfl⟩
  rw [hV] at sz_V q_d q_s D_d S_s hB
  clear hst h_d h_s hq
  have HQ := Lib.hid (And.intro q_d (And.intro q_s (And.intro D_d (And.intro S_s hB))))
  clear q_d q_s D_d S_s hB
  have c_q_d0 := LK.cell HQ.out.1 0
  have c_q_d1 := LK.cell HQ.out.1 1
  have c_q_s0 := LK.cell HQ.out.2.1 0
  have c_q_s1 := LK.cell HQ.out.2.1 1
  have c_q_s2 := LK.cell HQ.out.2.1 2
  have c_q_s3 := LK.cell HQ.out.2.1 3
  have c_q_s4 := LK.cell HQ.out.2.1 4
  simp at c_q_d0 c_q_d1 c_q_s0 c_q_s1 c_q_s2 c_q_s3 c_q_s4
  have k_g := fun V hh => great_any (.slice ab_d d.blocks.length cb_d) (.slice au_d d.waits.length cu_d) d V hh
  have k_p := fun V h1 hh => uput_any (.slice ab_d d.blocks.length cb_d) (.slice au_d d.waits.length cu_d) d (⟨s_g, s_r, s_n, s_t, s_d⟩ : SupL) (.slice a_s s_d.length c_s) V h1 (⟨hw_s, hh⟩ : SupV _ _ _ _ (⟨s_g, s_r, s_n, s_t, s_d⟩ : SupL))
  simp only [wV] at k_p
  have k_c := fun b u V h1 v h2 => dcrash_any b u (putU d (⟨s_g, s_r, s_n, s_t, s_d⟩ : SupL)) v [kp] V h1 h2
  have k_fd := fun V hh => ufind_any (.slice ab_d d.blocks.length cb_d) (.slice au_d d.waits.length cu_d) d V hh
  have k_fx := fun b u V hh => ufind_any b u (putU d (⟨s_g, s_r, s_n, s_t, s_d⟩ : SupL)) V hh
  have k_fc := fun b u V hh => ufind_any b u (crashD (putU d (⟨s_g, s_r, s_n, s_t, s_d⟩ : SupL)) [kp]) V hh
  have k_sm := fun v u l m V h1 h2 => same_any v u l m V h1 h2
  have hp := fun (h : errPut d (⟨s_g, s_r, s_n, s_t, s_d⟩ : SupL) = 0) => put_find h
  have hl := fun (hw : d.waits = []) (h : errPut d (⟨s_g, s_r, s_n, s_t, s_d⟩ : SupL) = 0) => lost_is hw h kp
  obtain ⟨X, hX⟩ : ∃ x, putU d (⟨s_g, s_r, s_n, s_t, s_d⟩ : SupL) = x := ⟨_, rfl⟩
  rw [hX] at k_p k_c k_fx k_fc hp hl
  obtain ⟨C, hC⟩ : ∃ x, crashD X [kp] = x := ⟨_, rfl⟩
  rw [hC] at k_c k_fc hl
  obtain ⟨ep, hep⟩ : ∃ x, errPut d (⟨s_g, s_r, s_n, s_t, s_d⟩ : SupL) = x := ⟨_, rfl⟩
  rw [hep] at k_p hp hl
  clear hX hC hep
  obtain ⟨fd, hfd⟩ : ∃ x, fndU d = x := ⟨_, rfl⟩
  obtain ⟨fx, hfx⟩ : ∃ x, fndU X = x := ⟨_, rfl⟩
  obtain ⟨fc, hfc⟩ : ∃ x, fndU C = x := ⟨_, rfl⟩
  obtain ⟨ed, hed⟩ : ∃ x, errF d = x := ⟨_, rfl⟩
  obtain ⟨ex, hex⟩ : ∃ x, errF X = x := ⟨_, rfl⟩
  obtain ⟨ec, hec⟩ : ∃ x, errF C = x := ⟨_, rfl⟩
  have hl2 : d.waits = [] → ep = 0 → errK X [kp] = 0 ∧ ec = (if kp then ex else ed) ∧ fc = (if kp then fx else fd) := fun h1 h2 => by
    obtain ⟨q1, q2, q3⟩ := hl h1 h2
    rw [hec] at q2
    rw [hfc] at q3
    refine ⟨q1, ?_, ?_⟩
    · rw [q2]; cases kp
      · exact hed
      · exact hex
    · rw [q3]; cases kp
      · exact hfd
      · exact hfx
  obtain ⟨ek, hek⟩ : ∃ x, errK X [kp] = x := ⟨_, rfl⟩
  rw [hek] at k_c hl2
  rw [hfd, hed] at k_fd
  rw [hfx, hex] at k_fx
  rw [hfc, hec] at k_fc
  rw [hex] at hp
  have HN := Lib.hid (And.intro hp hl2)
  clear hp hl hl2 hfd hfx hfc hed hex hec hek
  have HC := Lib.hid (And.intro k_g (And.intro k_p (And.intro k_c (And.intro k_fd (And.intro k_fx (And.intro k_fc k_sm))))))
  clear k_g k_p k_c k_fd k_fx k_fc k_sm
  go_enter Try.func14, Try.ntmps14
  go_upto_region 1 with (fail)
  clear hV
  go_wp2_with fail
  refine (alive10 V).mono ?_
  rintro e w1 ⟨rfl, hst⟩
  clear c_q_d0 c_q_d1 c_q_s0 c_q_s1 c_q_s2 c_q_s3 c_q_s4
  obtain ⟨q_d, q_s, D_d, S_s, hB⟩ := HQ.out
  clear HQ
  have sz_w1 : V.heap.size ≤ w1.heap.size := hst.size
  replace q_d := q_d.step hst
  replace q_s := q_s.step hst
  replace D_d := D_d.step hst
  replace S_s := S_s.step hst
  replace hB := hB.step hst
  clear hst
  have HQ := Lib.hid (And.intro q_d (And.intro q_s (And.intro D_d (And.intro S_s hB))))
  clear q_d q_s D_d S_s hB
  have c_q_d0 := LK.cell HQ.out.1 0
  have c_q_d1 := LK.cell HQ.out.1 1
  have c_q_s0 := LK.cell HQ.out.2.1 0
  have c_q_s1 := LK.cell HQ.out.2.1 1
  have c_q_s2 := LK.cell HQ.out.2.1 2
  have c_q_s3 := LK.cell HQ.out.2.1 3
  have c_q_s4 := LK.cell HQ.out.2.1 4
  simp at c_q_d0 c_q_d1 c_q_s0 c_q_s1 c_q_s2 c_q_s3 c_q_s4
  go_wp2_with fail
  refine (HC.out.1 _ HQ.out.2.2.1.v).mono ?_
  rintro e w2 ⟨g, rfl, hst, -⟩
  clear c_q_d0 c_q_d1 c_q_s0 c_q_s1 c_q_s2 c_q_s3 c_q_s4
  obtain ⟨q_d, q_s, D_d, S_s, hB⟩ := HQ.out
  clear HQ
  have sz_w2 : w1.heap.size ≤ w2.heap.size := hst.size
  replace q_d := q_d.step hst
  replace q_s := q_s.step hst
  replace D_d := D_d.step hst
  replace S_s := S_s.step hst
  replace hB := hB.step hst
  clear hst
  have HQ := Lib.hid (And.intro q_d (And.intro q_s (And.intro D_d (And.intro S_s hB))))
  clear q_d q_s D_d S_s hB
  have c_q_d0 := LK.cell HQ.out.1 0
  have c_q_d1 := LK.cell HQ.out.1 1
  have c_q_s0 := LK.cell HQ.out.2.1 0
  have c_q_s1 := LK.cell HQ.out.2.1 1
  have c_q_s2 := LK.cell HQ.out.2.1 2
  have c_q_s3 := LK.cell HQ.out.2.1 3
  have c_q_s4 := LK.cell HQ.out.2.1 4
  simp at c_q_d0 c_q_d1 c_q_s0 c_q_s1 c_q_s2 c_q_s3 c_q_s4
  cases g
  case true =>
    go_wp2
    go_ret
    exact ⟨rfl, HQ.out.2.2.2.2⟩
  by_cases hl : 0 < d.waits.length
  · have i1 : (0 : Int) < d.waits.length := by omega
    go_wp2
    go_ret
    exact ⟨rfl, HQ.out.2.2.2.2⟩
  have i1 : ¬ (0 : Int) < d.waits.length := by omega
  have HW := Lib.hid (List.eq_nil_of_length_eq_zero (show d.waits.length = 0 by omega))
  go_wp2_with fail
  refine (HC.out.2.1 _ HQ.out.2.2.1.v HQ.out.2.2.2.1.v).mono ?_
  rintro e w3 ⟨b1, u1, rfl, hm⟩
  clear c_q_d0 c_q_d1 c_q_s0 c_q_s1 c_q_s2 c_q_s3 c_q_s4
  obtain ⟨q_d, q_s, D_d, S_s, hB⟩ := HQ.out
  clear HQ
  have D_x := LT.of hm
  have hst := hm.below
  obtain ⟨ab_x, cb_x, rfl, -, -, -, -⟩ := hm.v0.1
  obtain ⟨au_x, cu_x, rfl, -, -, -, -⟩ := hm.v0.2
  clear hm
  have sz_w3 : w2.heap.size ≤ w3.heap.size := hst.size
  replace q_d := q_d.step hst
  replace q_s := q_s.step hst
  replace D_d := D_d.step hst
  replace S_s := S_s.step hst
  replace hB := hB.step hst
  clear hst
  have HQ := Lib.hid (And.intro q_d (And.intro q_s (And.intro D_d (And.intro S_s (And.intro D_x hB)))))
  clear q_d q_s D_d S_s D_x hB
  have c_q_d0 := LK.cell HQ.out.1 0
  have c_q_d1 := LK.cell HQ.out.1 1
  have c_q_s0 := LK.cell HQ.out.2.1 0
  have c_q_s1 := LK.cell HQ.out.2.1 1
  have c_q_s2 := LK.cell HQ.out.2.1 2
  have c_q_s3 := LK.cell HQ.out.2.1 3
  have c_q_s4 := LK.cell HQ.out.2.1 4
  simp at c_q_d0 c_q_d1 c_q_s0 c_q_s1 c_q_s2 c_q_s3 c_q_s4
  clear i1 hl
  go_upto_region 5 with (fail)
  clear c_q_d0 c_q_d1 c_q_s0 c_q_s1 c_q_s2 c_q_s3 c_q_s4
  obtain ⟨q_d, q_s, D_d, S_s, D_x, hB⟩ := HQ.out
  clear HQ
  have hst := (Below.refl w3.heap.size w3).alloc (Nat.le_refl _) (.cells #[.slice ab_x X.blocks.length cb_x, .slice au_x X.waits.length cu_x] 44)
  have hlt : w3.heap.size < (w3.alloc (.cells #[.slice ab_x X.blocks.length cb_x, .slice au_x X.waits.length cu_x] 44)).heap.size := by simp
  have q_x := LK.new w3 (.cells #[.slice ab_x X.blocks.length cb_x, .slice au_x X.waits.length cu_x] 44)
  replace q_d := q_d.step hst
  replace q_s := q_s.step hst
  replace D_d := D_d.step hst
  replace S_s := S_s.step hst
  replace D_x := D_x.step hst
  replace hB := hB.step hst
  obtain ⟨w4, hw⟩ : ∃ v, w3.alloc (.cells #[.slice ab_x X.blocks.length cb_x, .slice au_x X.waits.length cu_x] 44) = v := ⟨_, rfl⟩
  rw [hw] at hlt q_x q_d q_s D_d S_s D_x hB ⊢
  clear hw hst
  have sz_w4 := hlt
  clear hlt
  have HQ := Lib.hid (And.intro q_d (And.intro q_s (And.intro D_d (And.intro S_s (And.intro D_x (And.intro q_x hB))))))
  clear q_d q_s D_d S_s D_x q_x hB
  have c_q_d0 := LK.cell HQ.out.1 0
  have c_q_d1 := LK.cell HQ.out.1 1
  have c_q_s0 := LK.cell HQ.out.2.1 0
  have c_q_s1 := LK.cell HQ.out.2.1 1
  have c_q_s2 := LK.cell HQ.out.2.1 2
  have c_q_s3 := LK.cell HQ.out.2.1 3
  have c_q_s4 := LK.cell HQ.out.2.1 4
  have c_q_x0 := LK.cell HQ.out.2.2.2.2.2.1 0
  have c_q_x1 := LK.cell HQ.out.2.2.2.2.2.1 1
  simp at c_q_d0 c_q_d1 c_q_s0 c_q_s1 c_q_s2 c_q_s3 c_q_s4 c_q_x0 c_q_x1
  by_cases he : ep = 0
  case neg =>
    have i1 : (ep != 0) = true := by simp [he]
    go_wp2
    go_ret
    exact ⟨rfl, HQ.out.2.2.2.2.2.2⟩
  subst he
  have hex := HN.out.1 rfl
  subst hex
  obtain ⟨hk, hec, hfc⟩ := HN.out.2 HW.out rfl
  subst hk hec hfc
  clear HN
  go_wp2_with fail
  clear c_q_d0 c_q_d1 c_q_s0 c_q_s1 c_q_s2 c_q_s3 c_q_s4 c_q_x0 c_q_x1
  obtain ⟨q_d, q_s, D_d, S_s, D_x, q_x, hB⟩ := HQ.out
  clear HQ
  have hst := (Below.refl w4.heap.size w4).alloc (Nat.le_refl _) (.cells #[.bool kp] 4)
  have hlt : w4.heap.size < (w4.alloc (.cells #[.bool kp] 4)).heap.size := by simp
  have q_b := LK.new w4 (.cells #[.bool kp] 4)
  replace q_d := q_d.step hst
  replace q_s := q_s.step hst
  replace D_d := D_d.step hst
  replace S_s := S_s.step hst
  replace D_x := D_x.step hst
  replace q_x := q_x.step hst
  replace hB := hB.step hst
  obtain ⟨w5, hw⟩ : ∃ v, w4.alloc (.cells #[.bool kp] 4) = v := ⟨_, rfl⟩
  rw [hw] at hlt q_b q_d q_s D_d S_s D_x q_x hB ⊢
  clear hw hst
  have sz_w5 := hlt
  clear hlt
  have HQ := Lib.hid (And.intro q_d (And.intro q_s (And.intro D_d (And.intro S_s (And.intro D_x (And.intro q_x (And.intro q_b hB)))))))
  clear q_d q_s D_d S_s D_x q_x q_b hB
  have c_q_d0 := LK.cell HQ.out.1 0
  have c_q_d1 := LK.cell HQ.out.1 1
  have c_q_s0 := LK.cell HQ.out.2.1 0
  have c_q_s1 := LK.cell HQ.out.2.1 1
  have c_q_s2 := LK.cell HQ.out.2.1 2
  have c_q_s3 := LK.cell HQ.out.2.1 3
  have c_q_s4 := LK.cell HQ.out.2.1 4
  have c_q_x0 := LK.cell HQ.out.2.2.2.2.2.1 0
  have c_q_x1 := LK.cell HQ.out.2.2.2.2.2.1 1
  simp at c_q_d0 c_q_d1 c_q_s0 c_q_s1 c_q_s2 c_q_s3 c_q_s4 c_q_x0 c_q_x1
  refine (HC.out.2.2.1 _ _ _ HQ.out.2.2.2.2.1.v _ (bools_blk (LK.blk HQ.out.2.2.2.2.2.2.1))).mono ?_
  rintro e w6 ⟨b2, u2, rfl, hm⟩
  clear c_q_d0 c_q_d1 c_q_s0 c_q_s1 c_q_s2 c_q_s3 c_q_s4 c_q_x0 c_q_x1
  obtain ⟨q_d, q_s, D_d, S_s, D_x, q_x, q_b, hB⟩ := HQ.out
  clear HQ
  have D_c := LT.of hm
  have hst := hm.below
  obtain ⟨ab_c, cb_c, rfl, -, -, -, -⟩ := hm.v0.1
  obtain ⟨au_c, cu_c, rfl, -, -, -, -⟩ := hm.v0.2
  clear hm
  have sz_w6 : w5.heap.size ≤ w6.heap.size := hst.size
  replace q_d := q_d.step hst
  replace q_s := q_s.step hst
  replace D_d := D_d.step hst
  replace S_s := S_s.step hst
  replace D_x := D_x.step hst
  replace q_x := q_x.step hst
  replace q_b := q_b.step hst
  replace hB := hB.step hst
  clear hst
  have HQ := Lib.hid (And.intro q_d (And.intro q_s (And.intro D_d (And.intro S_s (And.intro D_x (And.intro q_x (And.intro q_b (And.intro D_c hB))))))))
  clear q_d q_s D_d S_s D_x q_x q_b D_c hB
  have c_q_d0 := LK.cell HQ.out.1 0
  have c_q_d1 := LK.cell HQ.out.1 1
  have c_q_s0 := LK.cell HQ.out.2.1 0
  have c_q_s1 := LK.cell HQ.out.2.1 1
  have c_q_s2 := LK.cell HQ.out.2.1 2
  have c_q_s3 := LK.cell HQ.out.2.1 3
  have c_q_s4 := LK.cell HQ.out.2.1 4
  have c_q_x0 := LK.cell HQ.out.2.2.2.2.2.1 0
  have c_q_x1 := LK.cell HQ.out.2.2.2.2.2.1 1
  simp at c_q_d0 c_q_d1 c_q_s0 c_q_s1 c_q_s2 c_q_s3 c_q_s4 c_q_x0 c_q_x1
  go_upto_region 8 with (fail)
  clear c_q_d0 c_q_d1 c_q_s0 c_q_s1 c_q_s2 c_q_s3 c_q_s4 c_q_x0 c_q_x1
  obtain ⟨q_d, q_s, D_d, S_s, D_x, q_x, q_b, D_c, hB⟩ := HQ.out
  clear HQ
  have hst := (Below.refl w6.heap.size w6).alloc (Nat.le_refl _) (.cells #[.slice ab_c C.blocks.length cb_c, .slice au_c C.waits.length cu_c] 44)
  have hlt : w6.heap.size < (w6.alloc (.cells #[.slice ab_c C.blocks.length cb_c, .slice au_c C.waits.length cu_c] 44)).heap.size := by simp
  have q_c := LK.new w6 (.cells #[.slice ab_c C.blocks.length cb_c, .slice au_c C.waits.length cu_c] 44)
  replace q_d := q_d.step hst
  replace q_s := q_s.step hst
  replace D_d := D_d.step hst
  replace S_s := S_s.step hst
  replace D_x := D_x.step hst
  replace q_x := q_x.step hst
  replace q_b := q_b.step hst
  replace D_c := D_c.step hst
  replace hB := hB.step hst
  obtain ⟨w7, hw⟩ : ∃ v, w6.alloc (.cells #[.slice ab_c C.blocks.length cb_c, .slice au_c C.waits.length cu_c] 44) = v := ⟨_, rfl⟩
  rw [hw] at hlt q_c q_d q_s D_d S_s D_x q_x q_b D_c hB ⊢
  clear hw hst
  have sz_w7 := hlt
  clear hlt
  have HQ := Lib.hid (And.intro q_d (And.intro q_s (And.intro D_d (And.intro S_s (And.intro D_x (And.intro q_x (And.intro q_b (And.intro D_c (And.intro q_c hB)))))))))
  clear q_d q_s D_d S_s D_x q_x q_b D_c q_c hB
  have c_q_d0 := LK.cell HQ.out.1 0
  have c_q_d1 := LK.cell HQ.out.1 1
  have c_q_s0 := LK.cell HQ.out.2.1 0
  have c_q_s1 := LK.cell HQ.out.2.1 1
  have c_q_s2 := LK.cell HQ.out.2.1 2
  have c_q_s3 := LK.cell HQ.out.2.1 3
  have c_q_s4 := LK.cell HQ.out.2.1 4
  have c_q_x0 := LK.cell HQ.out.2.2.2.2.2.1 0
  have c_q_x1 := LK.cell HQ.out.2.2.2.2.2.1 1
  have c_q_c0 := LK.cell HQ.out.2.2.2.2.2.2.2.2.1 0
  have c_q_c1 := LK.cell HQ.out.2.2.2.2.2.2.2.2.1 1
  simp at c_q_d0 c_q_d1 c_q_s0 c_q_s1 c_q_s2 c_q_s3 c_q_s4 c_q_x0 c_q_x1 c_q_c0 c_q_c1
  go_wp2_with fail
  refine (HC.out.2.2.2.1 _ HQ.out.2.2.1.v).mono ?_
  rintro e w8 ⟨v_1, rfl, hm⟩
  clear c_q_d0 c_q_d1 c_q_s0 c_q_s1 c_q_s2 c_q_s3 c_q_s4 c_q_x0 c_q_x1 c_q_c0 c_q_c1
  obtain ⟨q_d, q_s, D_d, S_s, D_x, q_x, q_b, D_c, q_c, hB⟩ := HQ.out
  clear HQ
  have S_1 := LS.of hm.row (Nat.le_refl _)
  have hst := hm.below
  obtain ⟨a_1, c_1, rfl, -, -, -, -⟩ := id hm.row
  clear hm
  have sz_w8 : w7.heap.size ≤ w8.heap.size := hst.size
  replace q_d := q_d.step hst
  replace q_s := q_s.step hst
  replace D_d := D_d.step hst
  replace S_s := S_s.step hst
  replace D_x := D_x.step hst
  replace q_x := q_x.step hst
  replace q_b := q_b.step hst
  replace D_c := D_c.step hst
  replace q_c := q_c.step hst
  replace hB := hB.step hst
  clear hst
  have HQ := Lib.hid (And.intro q_d (And.intro q_s (And.intro D_d (And.intro S_s (And.intro D_x (And.intro q_x (And.intro q_b (And.intro D_c (And.intro q_c (And.intro S_1 hB))))))))))
  clear q_d q_s D_d S_s D_x q_x q_b D_c q_c S_1 hB
  have c_q_d0 := LK.cell HQ.out.1 0
  have c_q_d1 := LK.cell HQ.out.1 1
  have c_q_s0 := LK.cell HQ.out.2.1 0
  have c_q_s1 := LK.cell HQ.out.2.1 1
  have c_q_s2 := LK.cell HQ.out.2.1 2
  have c_q_s3 := LK.cell HQ.out.2.1 3
  have c_q_s4 := LK.cell HQ.out.2.1 4
  have c_q_x0 := LK.cell HQ.out.2.2.2.2.2.1 0
  have c_q_x1 := LK.cell HQ.out.2.2.2.2.2.1 1
  have c_q_c0 := LK.cell HQ.out.2.2.2.2.2.2.2.2.1 0
  have c_q_c1 := LK.cell HQ.out.2.2.2.2.2.2.2.2.1 1
  simp at c_q_d0 c_q_d1 c_q_s0 c_q_s1 c_q_s2 c_q_s3 c_q_s4 c_q_x0 c_q_x1 c_q_c0 c_q_c1
  go_wp2_with fail
  refine (HC.out.2.2.2.2.1 _ _ _ HQ.out.2.2.2.2.1.v).mono ?_
  rintro e w9 ⟨v_2, rfl, hm⟩
  clear c_q_d0 c_q_d1 c_q_s0 c_q_s1 c_q_s2 c_q_s3 c_q_s4 c_q_x0 c_q_x1 c_q_c0 c_q_c1
  obtain ⟨q_d, q_s, D_d, S_s, D_x, q_x, q_b, D_c, q_c, S_1, hB⟩ := HQ.out
  clear HQ
  have S_2 := LS.of hm.row (Nat.le_refl _)
  have hst := hm.below
  obtain ⟨a_2, c_2, rfl, -, -, -, -⟩ := id hm.row
  clear hm
  have sz_w9 : w8.heap.size ≤ w9.heap.size := hst.size
  replace q_d := q_d.step hst
  replace q_s := q_s.step hst
  replace D_d := D_d.step hst
  replace S_s := S_s.step hst
  replace D_x := D_x.step hst
  replace q_x := q_x.step hst
  replace q_b := q_b.step hst
  replace D_c := D_c.step hst
  replace q_c := q_c.step hst
  replace S_1 := S_1.step hst
  replace hB := hB.step hst
  clear hst
  have HQ := Lib.hid (And.intro q_d (And.intro q_s (And.intro D_d (And.intro S_s (And.intro D_x (And.intro q_x (And.intro q_b (And.intro D_c (And.intro q_c (And.intro S_1 (And.intro S_2 hB)))))))))))
  clear q_d q_s D_d S_s D_x q_x q_b D_c q_c S_1 S_2 hB
  have c_q_d0 := LK.cell HQ.out.1 0
  have c_q_d1 := LK.cell HQ.out.1 1
  have c_q_s0 := LK.cell HQ.out.2.1 0
  have c_q_s1 := LK.cell HQ.out.2.1 1
  have c_q_s2 := LK.cell HQ.out.2.1 2
  have c_q_s3 := LK.cell HQ.out.2.1 3
  have c_q_s4 := LK.cell HQ.out.2.1 4
  have c_q_x0 := LK.cell HQ.out.2.2.2.2.2.1 0
  have c_q_x1 := LK.cell HQ.out.2.2.2.2.2.1 1
  have c_q_c0 := LK.cell HQ.out.2.2.2.2.2.2.2.2.1 0
  have c_q_c1 := LK.cell HQ.out.2.2.2.2.2.2.2.2.1 1
  simp at c_q_d0 c_q_d1 c_q_s0 c_q_s1 c_q_s2 c_q_s3 c_q_s4 c_q_x0 c_q_x1 c_q_c0 c_q_c1
  go_wp2_with fail
  refine (HC.out.2.2.2.2.2.1 _ _ _ HQ.out.2.2.2.2.2.2.2.1.v).mono ?_
  rintro e w10 ⟨v_3, rfl, hm⟩
  clear c_q_d0 c_q_d1 c_q_s0 c_q_s1 c_q_s2 c_q_s3 c_q_s4 c_q_x0 c_q_x1 c_q_c0 c_q_c1
  obtain ⟨q_d, q_s, D_d, S_s, D_x, q_x, q_b, D_c, q_c, S_1, S_2, hB⟩ := HQ.out
  clear HQ
  have S_3 := LS.of hm.row (Nat.le_refl _)
  have hst := hm.below
  obtain ⟨a_3, c_3, rfl, -, -, -, -⟩ := id hm.row
  clear hm
  have sz_w10 : w9.heap.size ≤ w10.heap.size := hst.size
  replace q_d := q_d.step hst
  replace q_s := q_s.step hst
  replace D_d := D_d.step hst
  replace S_s := S_s.step hst
  replace D_x := D_x.step hst
  replace q_x := q_x.step hst
  replace q_b := q_b.step hst
  replace D_c := D_c.step hst
  replace q_c := q_c.step hst
  replace S_1 := S_1.step hst
  replace S_2 := S_2.step hst
  replace hB := hB.step hst
  clear hst
  have HQ := Lib.hid (And.intro q_d (And.intro q_s (And.intro D_d (And.intro S_s (And.intro D_x (And.intro q_x (And.intro q_b (And.intro D_c (And.intro q_c (And.intro S_1 (And.intro S_2 (And.intro S_3 hB))))))))))))
  clear q_d q_s D_d S_s D_x q_x q_b D_c q_c S_1 S_2 S_3 hB
  have c_q_d0 := LK.cell HQ.out.1 0
  have c_q_d1 := LK.cell HQ.out.1 1
  have c_q_s0 := LK.cell HQ.out.2.1 0
  have c_q_s1 := LK.cell HQ.out.2.1 1
  have c_q_s2 := LK.cell HQ.out.2.1 2
  have c_q_s3 := LK.cell HQ.out.2.1 3
  have c_q_s4 := LK.cell HQ.out.2.1 4
  have c_q_x0 := LK.cell HQ.out.2.2.2.2.2.1 0
  have c_q_x1 := LK.cell HQ.out.2.2.2.2.2.1 1
  have c_q_c0 := LK.cell HQ.out.2.2.2.2.2.2.2.2.1 0
  have c_q_c1 := LK.cell HQ.out.2.2.2.2.2.2.2.2.1 1
  simp at c_q_d0 c_q_d1 c_q_s0 c_q_s1 c_q_s2 c_q_s3 c_q_s4 c_q_x0 c_q_x1 c_q_c0 c_q_c1
  cases kp
  case false =>
    have i2 : (ed == ed) = true := by simp
    go_wp2_with fail
    refine (HC.out.2.2.2.2.2.2 _ _ _ _ _ HQ.out.2.2.2.2.2.2.2.2.2.2.2.1.v HQ.out.2.2.2.2.2.2.2.2.2.1.v).mono ?_
    rintro e w11 ⟨rfl, hst⟩
    clear c_q_d0 c_q_d1 c_q_s0 c_q_s1 c_q_s2 c_q_s3 c_q_s4 c_q_x0 c_q_x1 c_q_c0 c_q_c1
    obtain ⟨q_d, q_s, D_d, S_s, D_x, q_x, q_b, D_c, q_c, S_1, S_2, S_3, hB⟩ := HQ.out
    clear HQ
    have sz_w11 : w10.heap.size ≤ w11.heap.size := hst.size
    replace q_d := q_d.step hst
    replace q_s := q_s.step hst
    replace D_d := D_d.step hst
    replace S_s := S_s.step hst
    replace D_x := D_x.step hst
    replace q_x := q_x.step hst
    replace q_b := q_b.step hst
    replace D_c := D_c.step hst
    replace q_c := q_c.step hst
    replace S_1 := S_1.step hst
    replace S_2 := S_2.step hst
    replace S_3 := S_3.step hst
    replace hB := hB.step hst
    clear hst
    have HQ := Lib.hid (And.intro q_d (And.intro q_s (And.intro D_d (And.intro S_s (And.intro D_x (And.intro q_x (And.intro q_b (And.intro D_c (And.intro q_c (And.intro S_1 (And.intro S_2 (And.intro S_3 hB))))))))))))
    clear q_d q_s D_d S_s D_x q_x q_b D_c q_c S_1 S_2 S_3 hB
    have c_q_d0 := LK.cell HQ.out.1 0
    have c_q_d1 := LK.cell HQ.out.1 1
    have c_q_s0 := LK.cell HQ.out.2.1 0
    have c_q_s1 := LK.cell HQ.out.2.1 1
    have c_q_s2 := LK.cell HQ.out.2.1 2
    have c_q_s3 := LK.cell HQ.out.2.1 3
    have c_q_s4 := LK.cell HQ.out.2.1 4
    have c_q_x0 := LK.cell HQ.out.2.2.2.2.2.1 0
    have c_q_x1 := LK.cell HQ.out.2.2.2.2.2.1 1
    have c_q_c0 := LK.cell HQ.out.2.2.2.2.2.2.2.2.1 0
    have c_q_c1 := LK.cell HQ.out.2.2.2.2.2.2.2.2.1 1
    simp at c_q_d0 c_q_d1 c_q_s0 c_q_s1 c_q_s2 c_q_s3 c_q_s4 c_q_x0 c_q_x1 c_q_c0 c_q_c1
    have i3 : decide (fd = fd) = true := by simp
    go_wp2
    go_ret
    exact ⟨rfl, HQ.out.2.2.2.2.2.2.2.2.2.2.2.2⟩
  case true =>
    have i2 : ((0 : Int) == (0 : Int)) = true := by simp
    go_wp2_with fail
    refine (HC.out.2.2.2.2.2.2 _ _ _ _ _ HQ.out.2.2.2.2.2.2.2.2.2.2.2.1.v HQ.out.2.2.2.2.2.2.2.2.2.2.1.v).mono ?_
    rintro e w11 ⟨rfl, hst⟩
    clear c_q_d0 c_q_d1 c_q_s0 c_q_s1 c_q_s2 c_q_s3 c_q_s4 c_q_x0 c_q_x1 c_q_c0 c_q_c1
    obtain ⟨q_d, q_s, D_d, S_s, D_x, q_x, q_b, D_c, q_c, S_1, S_2, S_3, hB⟩ := HQ.out
    clear HQ
    have sz_w11 : w10.heap.size ≤ w11.heap.size := hst.size
    replace q_d := q_d.step hst
    replace q_s := q_s.step hst
    replace D_d := D_d.step hst
    replace S_s := S_s.step hst
    replace D_x := D_x.step hst
    replace q_x := q_x.step hst
    replace q_b := q_b.step hst
    replace D_c := D_c.step hst
    replace q_c := q_c.step hst
    replace S_1 := S_1.step hst
    replace S_2 := S_2.step hst
    replace S_3 := S_3.step hst
    replace hB := hB.step hst
    clear hst
    have HQ := Lib.hid (And.intro q_d (And.intro q_s (And.intro D_d (And.intro S_s (And.intro D_x (And.intro q_x (And.intro q_b (And.intro D_c (And.intro q_c (And.intro S_1 (And.intro S_2 (And.intro S_3 hB))))))))))))
    clear q_d q_s D_d S_s D_x q_x q_b D_c q_c S_1 S_2 S_3 hB
    have c_q_d0 := LK.cell HQ.out.1 0
    have c_q_d1 := LK.cell HQ.out.1 1
    have c_q_s0 := LK.cell HQ.out.2.1 0
    have c_q_s1 := LK.cell HQ.out.2.1 1
    have c_q_s2 := LK.cell HQ.out.2.1 2
    have c_q_s3 := LK.cell HQ.out.2.1 3
    have c_q_s4 := LK.cell HQ.out.2.1 4
    have c_q_x0 := LK.cell HQ.out.2.2.2.2.2.1 0
    have c_q_x1 := LK.cell HQ.out.2.2.2.2.2.1 1
    have c_q_c0 := LK.cell HQ.out.2.2.2.2.2.2.2.2.1 0
    have c_q_c1 := LK.cell HQ.out.2.2.2.2.2.2.2.2.1 1
    simp at c_q_d0 c_q_d1 c_q_s0 c_q_s1 c_q_s2 c_q_s3 c_q_s4 c_q_x0 c_q_x1 c_q_c0 c_q_c1
    have i3 : decide (fx = fx) = true := by simp
    go_wp2
    go_ret
    exact ⟨rfl, HQ.out.2.2.2.2.2.2.2.2.2.2.2.2⟩
end Go.Proofs.Ytcibihakjcenaaa

namespace Go.Proofs.Ytcibihakjcenaaa
open Go.ChangeShapes Go.WideShapes Go.ChangeAt Go.RowKit

section
variable {H : Type} {enc : TypeId × Value → H} {W : World} {r : Reach} {base : Nat} {spare : Nat → Bool} {held : Bool} {v : Value} {d : DataW H} {p : List MemPlace}
set_option maxRecDepth 100000 in
theorem arg_disk (hv : Value.okWide Try.prog W r base 44 v) (h : DataW.Trod enc Try.prog W 0 spare held 44 v d p) :
    ∃ (b u : Value) (x : DiskL), v = .agg #[b, u] ∧ DiskV W 0 W.heap.size b u x := by
  have ht : fieldsOf Try.prog 44 = some [(0, 41), (1, 42)] := by kernel_rfl
  have htw : fieldsOf Try.prog 143 = some [(0, 3), (1, 26)] := by kernel_rfl
  obtain ⟨cs, rfl, hsz⟩ := okW_struct ht hv
  obtain ⟨fuel, hf⟩ := h
  obtain ⟨b, u, x, hcs, hD⟩ := open_disk ht Try.underlying41 Try.underlying42 (by kernel_rfl) (by kernel_rfl) htw (by kernel_rfl) Try.underlying3 (by kernel_rfl) (by kernel_rfl) (by kernel_rfl) Try.underlying26 Try.underlying5 (by kernel_rfl) hf
  refine ⟨b, u, x, ?_, hD⟩
  congr 1
  apply Array.toList_inj.1
  exact hcs
end
end Go.Proofs.Ytcibihakjcenaaa

