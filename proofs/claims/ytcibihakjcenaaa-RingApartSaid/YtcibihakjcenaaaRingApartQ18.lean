/- RingApart: the words and contracts, part 18. -/
import Derived.Test.YtcibihakjcenaaaRingApartQ1
import Derived.Test.YtcibihakjcenaaaRingApartQ2
import Derived.Test.YtcibihakjcenaaaRingApartQ3
import Derived.Test.YtcibihakjcenaaaRingApartQ4
import Derived.Test.YtcibihakjcenaaaRingApartQ5
import Derived.Test.YtcibihakjcenaaaRingApartQ6
import Derived.Test.YtcibihakjcenaaaRingApartQ7
import Derived.Test.YtcibihakjcenaaaRingApartQ8
import Derived.Test.YtcibihakjcenaaaRingApartQ9
import Derived.Test.YtcibihakjcenaaaRingApartQ10
import Derived.Test.YtcibihakjcenaaaRingApartQ11
import Derived.Test.YtcibihakjcenaaaRingApartQ12
import Derived.Test.YtcibihakjcenaaaRingApartQ13
import Derived.Test.YtcibihakjcenaaaRingApartQ14
import Derived.Test.YtcibihakjcenaaaRingApartQ15
import Derived.Test.YtcibihakjcenaaaRingApartQ16
import Derived.Test.YtcibihakjcenaaaRingApartQ17
import Derived.WalkKit
import Derived.WalkLawsBesides
import Derived.WalkSpells
import Derived.Lib.Hide
import Derived.Laws.Rows
import Derived.Laws.AppendOwnNone
import Derived.Maps.AppendAt
import Derived.ProofKit
import Derived.Deep.Slices
import Derived.WideShapes
import Derived.RangeFuncNested
import Derived.RangeFuncBound
import Derived.RangeFuncCalls
import Derived.RangeFuncLeaves
import Derived.RangeFuncBox
import Derived.Shelf.Abstract
import Derived.Shelf.RegionOpen
import Derived.OwnWalkIn
import Derived.TacticsInMore
import Derived.LoopNIn
import Derived.LoopIn
import Derived.Lib.AppendZerosOnto
import Derived.Lib.SliceRun
import Derived.Lib.Walk
import Derived.Deep.LoopGhost
import Derived.Laws.CopyOwn
import Derived.Laws.CopyRow
import Derived.OrdersHeld
import Derived.Deep.QuietTactic
import Derived.BigQuiet
import Derived.StillTailTactics
import Derived.OpenShut
import Derived.Deep.DeepCutAuto
import Derived.Deep.RegionHeld
import Derived.Laws.MakeOwn
import Derived.KernelRfl
import Derived.BigFrameIn
import Derived.ShutString
import Derived.ChangeOld
import Derived.Below
import Derived.Shelf.SlSortCmp.SmallK
import Derived.Shelf.Small.Bits
namespace Go.Proofs.Ytcibihakjcenaaa
open Go.RowKit

set_option linter.unusedSimpArgs false
theorem apart_is {d : DiskL} {s t : SupL} (h1 : errPut d s = 0) (h2 : errPut (putU d s) t = 0) (h3 : errPut d t = 0) (h4 : errPut (putU d t) s = 0) (hne : slotU s.gen ≠ slotU t.gen) : fndU (putU (putU d s) t) = fndU (putU (putU d t) s) :=
  (fnd_eq ((put_may h2).trans (put_may h4).symm) (findU_comm h1 h2 h3 h4 hne)).2
theorem twice_is {d : DiskL} {t : SupL} (h1 : errPut d t = 0) (h2 : errPut (putU d t) t = 0) : errF (putU (putU d t) t) = 0 ∧ fndU (putU (putU d t) t) = fndU (putU d t) :=
  ⟨put_find h2, (fnd_eq ((put_may h2).trans (put_may h1).symm) (findU_twice h1 h2)).2⟩
theorem behind_is {d : DiskL} {t : SupL} {p : Int} {l : List UInt8} (h1 : errPut d t = 0) (h2 : errW (putU d t) p l = 0) (hp : 4 ≤ p) : errF (writeD (putU d t) p l) = 0 ∧ fndU (writeD (putU d t) p l) = fndU (putU d t) := by
  obtain ⟨q1, q2⟩ := fnd_eq ((write_may h2).2.trans (put_may h1).symm) (findU_write h2 hp)
  exact ⟨q1.trans (put_find h1), q2⟩

set_option maxRecDepth 100000 in
set_option maxHeartbeats 4000000 in
theorem ringApart_walk (d : DiskL) (b_d u_d : Value) (s : SupL) (u_s : Value) (t : SupL) (u_t : Value) (p : Int) (v_l : Value) (l : List UInt8) (w : World) (h_d : DiskV w 0 w.heap.size b_d u_d d) (h_s : SupV w 0 w.heap.size u_s s) (h_t : SupV w 0 w.heap.size u_t t) (_wp : (Lit.int .i64 p).wf = true) (h_l : Bytes w 0 w.heap.size v_l l) :
    Calls Try.prog 13 #[.agg #[b_d, u_d], .agg #[wV s.gen, .int .i64 s.root, wV s.next, wV s.table, u_s], .agg #[wV t.gen, .int .i64 t.root, wV t.next, wV t.table, u_t], .int .i64 p, v_l] w fun e w' => e = .returned (.bool true) ∧ Below w.heap.size w w' := by
  obtain ⟨ab_d, cb_d, rfl, gb_d, gc_d, -, -⟩ := h_d.1
  obtain ⟨au_d, cu_d, rfl, gu_d, gv_d, -, -⟩ := h_d.2
  unfold maxLen at gc_d gv_d
  obtain ⟨s_g, s_r, s_n, s_t, s_d⟩ := s
  obtain ⟨hw_s, h_s⟩ := h_s
  dsimp only at hw_s h_s
  obtain ⟨a_s, c_s, rfl, g_s, gm_s, -, -⟩ := id h_s
  unfold maxLen at gm_s
  simp only [bV, wV]
  obtain ⟨t_g, t_r, t_n, t_t, t_d⟩ := t
  obtain ⟨hw_t, h_t⟩ := h_t
  dsimp only at hw_t h_t
  obtain ⟨a_t, c_t, rfl, g_t, gm_t, -, -⟩ := id h_t
  unfold maxLen at gm_t
  dsimp only
  obtain ⟨a_l, c_l, rfl, g_l, gm_l⟩ := h_l.form rfl
  unfold maxLen at gm_l
  have hst := ((((Below.refl w.heap.size w).alloc (Nat.le_refl _) (.cells #[.slice ab_d d.blocks.length cb_d, .slice au_d d.waits.length cu_d] 44)).alloc (by simp) (.cells #[.int .u32 (s_g.toNat : Int), .int .i64 s_r, .int .u32 (s_n.toNat : Int), .int .u32 (s_t.toNat : Int), .slice a_s s_d.length c_s] 25)).alloc (by simp; omega) (.cells #[.int .u32 (t_g.toNat : Int), .int .i64 t_r, .int .u32 (t_n.toNat : Int), .int .u32 (t_t.toNat : Int), .slice a_t t_d.length c_t] 25))
  have hq := three_new w (.cells #[.slice ab_d d.blocks.length cb_d, .slice au_d d.waits.length cu_d] 44) (.cells #[.int .u32 (s_g.toNat : Int), .int .i64 s_r, .int .u32 (s_n.toNat : Int), .int .u32 (s_t.toNat : Int), .slice a_s s_d.length c_s] 25) (.cells #[.int .u32 (t_g.toNat : Int), .int .i64 t_r, .int .u32 (t_n.toNat : Int), .int .u32 (t_t.toNat : Int), .slice a_t t_d.length c_t] 25)
  have q_d := LK.of hq.1
  have q_s := LK.of hq.2.1
  have q_t := LK.of hq.2.2
  have hB : LW w _ := hst
  have D_d := (LD.of h_d (Nat.le_refl _)).step hst
  have S_s := (LS.of h_s (Nat.le_refl _)).step hst
  have S_t := (LS.of h_t (Nat.le_refl _)).step hst
  have B_l := (LB.of h_l (Nat.le_refl _)).step hst
  have sz_V : w.heap.size + 2 < (((w.alloc (.cells #[.slice ab_d d.blocks.length cb_d, .slice au_d d.waits.length cu_d] 44)).alloc (.cells #[.int .u32 (s_g.toNat : Int), .int .i64 s_r, .int .u32 (s_n.toNat : Int), .int .u32 (s_t.toNat : Int), .slice a_s s_d.length c_s] 25)).alloc (.cells #[.int .u32 (t_g.toNat : Int), .int .i64 t_r, .int .u32 (t_n.toNat : Int), .int .u32 (t_t.toNat : Int), .slice a_t t_d.length c_t] 25)).heap.size := by simp
  obtain ⟨V, hV⟩ : ∃ V, (((w.alloc (.cells #[.slice ab_d d.blocks.length cb_d, .slice au_d d.waits.length cu_d] 44)).alloc (.cells #[.int .u32 (s_g.toNat : Int), .int .i64 s_r, .int .u32 (s_n.toNat : Int), .int .u32 (s_t.toNat : Int), .slice a_s s_d.length c_s] 25)).alloc (.cells #[.int .u32 (t_g.toNat : Int), .int .i64 t_r, .int .u32 (t_n.toNat : Int), .int .u32 (t_t.toNat : Int), .slice a_t t_d.length c_t] 25)) = V := ⟨_, rfl⟩
  rw [hV] at sz_V q_d q_s q_t D_d S_s S_t B_l hB
  clear hst h_d h_s h_t h_l hq
  have HQ := Lib.hid (And.intro q_d (And.intro q_s (And.intro q_t (And.intro D_d (And.intro S_s (And.intro S_t (And.intro B_l hB)))))))
  clear q_d q_s q_t D_d S_s S_t B_l hB
  have c_q_d0 := LK.cell HQ.out.1 0
  have c_q_d1 := LK.cell HQ.out.1 1
  have c_q_s0 := LK.cell HQ.out.2.1 0
  have c_q_s1 := LK.cell HQ.out.2.1 1
  have c_q_s2 := LK.cell HQ.out.2.1 2
  have c_q_s3 := LK.cell HQ.out.2.1 3
  have c_q_s4 := LK.cell HQ.out.2.1 4
  have c_q_t0 := LK.cell HQ.out.2.2.1 0
  have c_q_t1 := LK.cell HQ.out.2.2.1 1
  have c_q_t2 := LK.cell HQ.out.2.2.1 2
  have c_q_t3 := LK.cell HQ.out.2.2.1 3
  have c_q_t4 := LK.cell HQ.out.2.2.1 4
  simp at c_q_d0 c_q_d1 c_q_s0 c_q_s1 c_q_s2 c_q_s3 c_q_s4 c_q_t0 c_q_t1 c_q_t2 c_q_t3 c_q_t4
  have k_g := fun V hh => great_any (.slice ab_d d.blocks.length cb_d) (.slice au_d d.waits.length cu_d) d V hh
  have k_p1 := fun V h1 hh => uput_any (.slice ab_d d.blocks.length cb_d) (.slice au_d d.waits.length cu_d) d (⟨s_g, s_r, s_n, s_t, s_d⟩ : SupL) (.slice a_s s_d.length c_s) V h1 (⟨hw_s, hh⟩ : SupV _ _ _ _ (⟨s_g, s_r, s_n, s_t, s_d⟩ : SupL))
  have k_p2 := fun b u V h1 hh => uput_any b u (putU d (⟨s_g, s_r, s_n, s_t, s_d⟩ : SupL)) (⟨t_g, t_r, t_n, t_t, t_d⟩ : SupL) (.slice a_t t_d.length c_t) V h1 (⟨hw_t, hh⟩ : SupV _ _ _ _ (⟨t_g, t_r, t_n, t_t, t_d⟩ : SupL))
  have k_p3 := fun V h1 hh => uput_any (.slice ab_d d.blocks.length cb_d) (.slice au_d d.waits.length cu_d) d (⟨t_g, t_r, t_n, t_t, t_d⟩ : SupL) (.slice a_t t_d.length c_t) V h1 (⟨hw_t, hh⟩ : SupV _ _ _ _ (⟨t_g, t_r, t_n, t_t, t_d⟩ : SupL))
  have k_p4 := fun b u V h1 hh => uput_any b u (putU d (⟨t_g, t_r, t_n, t_t, t_d⟩ : SupL)) (⟨s_g, s_r, s_n, s_t, s_d⟩ : SupL) (.slice a_s s_d.length c_s) V h1 (⟨hw_s, hh⟩ : SupV _ _ _ _ (⟨s_g, s_r, s_n, s_t, s_d⟩ : SupL))
  have k_p5 := fun b u V h1 hh => uput_any b u (putU (putU d (⟨s_g, s_r, s_n, s_t, s_d⟩ : SupL)) (⟨t_g, t_r, t_n, t_t, t_d⟩ : SupL)) (⟨t_g, t_r, t_n, t_t, t_d⟩ : SupL) (.slice a_t t_d.length c_t) V h1 (⟨hw_t, hh⟩ : SupV _ _ _ _ (⟨t_g, t_r, t_n, t_t, t_d⟩ : SupL))
  simp only [wV] at k_p1 k_p2 k_p3 k_p4 k_p5
  have k_w := fun b u V h1 hh => dwrite_any b u (putU (putU d (⟨s_g, s_r, s_n, s_t, s_d⟩ : SupL)) (⟨t_g, t_r, t_n, t_t, t_d⟩ : SupL)) p (.slice a_l l.length c_l) l V h1 hh
  have k_fx := fun b u V hh => ufind_any b u (putU (putU d (⟨s_g, s_r, s_n, s_t, s_d⟩ : SupL)) (⟨t_g, t_r, t_n, t_t, t_d⟩ : SupL)) V hh
  have k_fy := fun b u V hh => ufind_any b u (putU (putU d (⟨t_g, t_r, t_n, t_t, t_d⟩ : SupL)) (⟨s_g, s_r, s_n, s_t, s_d⟩ : SupL)) V hh
  have k_fa := fun b u V hh => ufind_any b u (putU (putU (putU d (⟨s_g, s_r, s_n, s_t, s_d⟩ : SupL)) (⟨t_g, t_r, t_n, t_t, t_d⟩ : SupL)) (⟨t_g, t_r, t_n, t_t, t_d⟩ : SupL)) V hh
  have k_fw := fun b u V hh => ufind_any b u (writeD (putU (putU d (⟨s_g, s_r, s_n, s_t, s_d⟩ : SupL)) (⟨t_g, t_r, t_n, t_t, t_d⟩ : SupL)) p l) V hh
  have k_sm := fun v u l m V h1 h2 => same_any v u l m V h1 h2
  have k_sl := fun (g : UInt32) V => uslot_any g V
  simp only [wV] at k_sl
  have h1 := fun (h : errPut (putU d (⟨s_g, s_r, s_n, s_t, s_d⟩ : SupL)) (⟨t_g, t_r, t_n, t_t, t_d⟩ : SupL) = 0) => put_find h
  have h2 := fun (h : errPut (putU d (⟨t_g, t_r, t_n, t_t, t_d⟩ : SupL)) (⟨s_g, s_r, s_n, s_t, s_d⟩ : SupL) = 0) => put_find h
  have h3 := fun (q1 : errPut d (⟨s_g, s_r, s_n, s_t, s_d⟩ : SupL) = 0) (q2 : errPut (putU d (⟨s_g, s_r, s_n, s_t, s_d⟩ : SupL)) (⟨t_g, t_r, t_n, t_t, t_d⟩ : SupL) = 0) (q3 : errPut d (⟨t_g, t_r, t_n, t_t, t_d⟩ : SupL) = 0) (q4 : errPut (putU d (⟨t_g, t_r, t_n, t_t, t_d⟩ : SupL)) (⟨s_g, s_r, s_n, s_t, s_d⟩ : SupL) = 0) (hne : slotU s_g ≠ slotU t_g) => apart_is q1 q2 q3 q4 hne
  have h4 := fun (q1 : errPut (putU d (⟨s_g, s_r, s_n, s_t, s_d⟩ : SupL)) (⟨t_g, t_r, t_n, t_t, t_d⟩ : SupL) = 0) (q2 : errPut (putU (putU d (⟨s_g, s_r, s_n, s_t, s_d⟩ : SupL)) (⟨t_g, t_r, t_n, t_t, t_d⟩ : SupL)) (⟨t_g, t_r, t_n, t_t, t_d⟩ : SupL) = 0) => twice_is q1 q2
  have h5 := fun (q1 : errPut (putU d (⟨s_g, s_r, s_n, s_t, s_d⟩ : SupL)) (⟨t_g, t_r, t_n, t_t, t_d⟩ : SupL) = 0) (q2 : errW (putU (putU d (⟨s_g, s_r, s_n, s_t, s_d⟩ : SupL)) (⟨t_g, t_r, t_n, t_t, t_d⟩ : SupL)) p l = 0) (hp : 4 ≤ p) => behind_is q1 q2 hp
  obtain ⟨X1, h0⟩ : ∃ x, putU d (⟨s_g, s_r, s_n, s_t, s_d⟩ : SupL) = x := ⟨_, rfl⟩
  simp only [h0] at k_p1 k_p2 k_p5 k_w k_fx k_fa k_fw h1 h3 h4 h5
  clear h0
  obtain ⟨X2, h0⟩ : ∃ x, putU X1 (⟨t_g, t_r, t_n, t_t, t_d⟩ : SupL) = x := ⟨_, rfl⟩
  simp only [h0] at k_p2 k_p5 k_w k_fx k_fa k_fw h1 h3 h4 h5
  clear h0
  obtain ⟨Y1, h0⟩ : ∃ x, putU d (⟨t_g, t_r, t_n, t_t, t_d⟩ : SupL) = x := ⟨_, rfl⟩
  simp only [h0] at k_p3 k_p4 k_fy h2 h3
  clear h0
  obtain ⟨Y2, h0⟩ : ∃ x, putU Y1 (⟨s_g, s_r, s_n, s_t, s_d⟩ : SupL) = x := ⟨_, rfl⟩
  simp only [h0] at k_p4 k_fy h2 h3
  clear h0
  obtain ⟨A, h0⟩ : ∃ x, putU X2 (⟨t_g, t_r, t_n, t_t, t_d⟩ : SupL) = x := ⟨_, rfl⟩
  simp only [h0] at k_p5 k_fa h4
  clear h0
  obtain ⟨W, h0⟩ : ∃ x, writeD X2 p l = x := ⟨_, rfl⟩
  simp only [h0] at k_w k_fw h5
  clear h0
  obtain ⟨e1, h0⟩ : ∃ x, errPut d (⟨s_g, s_r, s_n, s_t, s_d⟩ : SupL) = x := ⟨_, rfl⟩
  simp only [h0] at k_p1 h3
  clear h0
  obtain ⟨e2, h0⟩ : ∃ x, errPut X1 (⟨t_g, t_r, t_n, t_t, t_d⟩ : SupL) = x := ⟨_, rfl⟩
  simp only [h0] at k_p2 h1 h3 h4 h5
  clear h0
  obtain ⟨e3, h0⟩ : ∃ x, errPut d (⟨t_g, t_r, t_n, t_t, t_d⟩ : SupL) = x := ⟨_, rfl⟩
  simp only [h0] at k_p3 h3
  clear h0
  obtain ⟨e4, h0⟩ : ∃ x, errPut Y1 (⟨s_g, s_r, s_n, s_t, s_d⟩ : SupL) = x := ⟨_, rfl⟩
  simp only [h0] at k_p4 h2 h3
  clear h0
  obtain ⟨e7, h0⟩ : ∃ x, errPut X2 (⟨t_g, t_r, t_n, t_t, t_d⟩ : SupL) = x := ⟨_, rfl⟩
  simp only [h0] at k_p5 h4
  clear h0
  obtain ⟨e9, h0⟩ : ∃ x, errW X2 p l = x := ⟨_, rfl⟩
  simp only [h0] at k_w h5
  clear h0
  obtain ⟨fx, h0⟩ : ∃ x, fndU X2 = x := ⟨_, rfl⟩
  simp only [h0] at k_fx h3 h4 h5
  clear h0
  obtain ⟨fy, h0⟩ : ∃ x, fndU Y2 = x := ⟨_, rfl⟩
  simp only [h0] at k_fy h3
  clear h0
  obtain ⟨fa, h0⟩ : ∃ x, fndU A = x := ⟨_, rfl⟩
  simp only [h0] at k_fa h4
  clear h0
  obtain ⟨fw, h0⟩ : ∃ x, fndU W = x := ⟨_, rfl⟩
  simp only [h0] at k_fw h5
  clear h0
  obtain ⟨ex, h0⟩ : ∃ x, errF X2 = x := ⟨_, rfl⟩
  simp only [h0] at k_fx h1
  clear h0
  obtain ⟨ey, h0⟩ : ∃ x, errF Y2 = x := ⟨_, rfl⟩
  simp only [h0] at k_fy h2
  clear h0
  obtain ⟨ea, h0⟩ : ∃ x, errF A = x := ⟨_, rfl⟩
  simp only [h0] at k_fa h4
  clear h0
  obtain ⟨ew, h0⟩ : ∃ x, errF W = x := ⟨_, rfl⟩
  simp only [h0] at k_fw h5
  clear h0
  have HN := Lib.hid (And.intro h1 (And.intro h2 (And.intro h3 (And.intro h4 h5))))
  clear h1 h2 h3 h4 h5
  have HC := Lib.hid (And.intro k_g (And.intro k_p1 (And.intro k_p2 (And.intro k_p3 (And.intro k_p4 (And.intro k_p5 (And.intro k_w (And.intro k_fx (And.intro k_fy (And.intro k_fa (And.intro k_fw (And.intro k_sm k_sl))))))))))))
  clear k_g k_p1 k_p2 k_p3 k_p4 k_p5 k_w k_fx k_fy k_fa k_fw k_sm k_sl
  go_enter Try.func13, Try.ntmps13
  go_upto_region 1 with (fail)
  clear hV
  go_wp2_with fail
  refine (alive10 V).mono ?_
  rintro e w1 ⟨rfl, hst⟩
  clear c_q_d0 c_q_d1 c_q_s0 c_q_s1 c_q_s2 c_q_s3 c_q_s4 c_q_t0 c_q_t1 c_q_t2 c_q_t3 c_q_t4
  obtain ⟨q_d, q_s, q_t, D_d, S_s, S_t, B_l, hB⟩ := HQ.out
  clear HQ
  have sz_w1 : V.heap.size ≤ w1.heap.size := hst.size
  replace q_d := q_d.step hst
  replace q_s := q_s.step hst
  replace q_t := q_t.step hst
  replace D_d := D_d.step hst
  replace S_s := S_s.step hst
  replace S_t := S_t.step hst
  replace B_l := B_l.step hst
  replace hB := hB.step hst
  clear hst
  have HQ := Lib.hid (And.intro q_d (And.intro q_s (And.intro q_t (And.intro D_d (And.intro S_s (And.intro S_t (And.intro B_l hB)))))))
  clear q_d q_s q_t D_d S_s S_t B_l hB
  have c_q_d0 := LK.cell HQ.out.1 0
  have c_q_d1 := LK.cell HQ.out.1 1
  have c_q_s0 := LK.cell HQ.out.2.1 0
  have c_q_s1 := LK.cell HQ.out.2.1 1
  have c_q_s2 := LK.cell HQ.out.2.1 2
  have c_q_s3 := LK.cell HQ.out.2.1 3
  have c_q_s4 := LK.cell HQ.out.2.1 4
  have c_q_t0 := LK.cell HQ.out.2.2.1 0
  have c_q_t1 := LK.cell HQ.out.2.2.1 1
  have c_q_t2 := LK.cell HQ.out.2.2.1 2
  have c_q_t3 := LK.cell HQ.out.2.2.1 3
  have c_q_t4 := LK.cell HQ.out.2.2.1 4
  simp at c_q_d0 c_q_d1 c_q_s0 c_q_s1 c_q_s2 c_q_s3 c_q_s4 c_q_t0 c_q_t1 c_q_t2 c_q_t3 c_q_t4
  go_wp2_with fail
  refine (HC.out.1 _ HQ.out.2.2.2.1.v).mono ?_
  rintro e w2 ⟨g, rfl, hst, -⟩
  clear c_q_d0 c_q_d1 c_q_s0 c_q_s1 c_q_s2 c_q_s3 c_q_s4 c_q_t0 c_q_t1 c_q_t2 c_q_t3 c_q_t4
  obtain ⟨q_d, q_s, q_t, D_d, S_s, S_t, B_l, hB⟩ := HQ.out
  clear HQ
  have sz_w2 : w1.heap.size ≤ w2.heap.size := hst.size
  replace q_d := q_d.step hst
  replace q_s := q_s.step hst
  replace q_t := q_t.step hst
  replace D_d := D_d.step hst
  replace S_s := S_s.step hst
  replace S_t := S_t.step hst
  replace B_l := B_l.step hst
  replace hB := hB.step hst
  clear hst
  have HQ := Lib.hid (And.intro q_d (And.intro q_s (And.intro q_t (And.intro D_d (And.intro S_s (And.intro S_t (And.intro B_l hB)))))))
  clear q_d q_s q_t D_d S_s S_t B_l hB
  have c_q_d0 := LK.cell HQ.out.1 0
  have c_q_d1 := LK.cell HQ.out.1 1
  have c_q_s0 := LK.cell HQ.out.2.1 0
  have c_q_s1 := LK.cell HQ.out.2.1 1
  have c_q_s2 := LK.cell HQ.out.2.1 2
  have c_q_s3 := LK.cell HQ.out.2.1 3
  have c_q_s4 := LK.cell HQ.out.2.1 4
  have c_q_t0 := LK.cell HQ.out.2.2.1 0
  have c_q_t1 := LK.cell HQ.out.2.2.1 1
  have c_q_t2 := LK.cell HQ.out.2.2.1 2
  have c_q_t3 := LK.cell HQ.out.2.2.1 3
  have c_q_t4 := LK.cell HQ.out.2.2.1 4
  simp at c_q_d0 c_q_d1 c_q_s0 c_q_s1 c_q_s2 c_q_s3 c_q_s4 c_q_t0 c_q_t1 c_q_t2 c_q_t3 c_q_t4
  cases g
  case true =>
    go_wp2
    go_ret
    exact ⟨rfl, HQ.out.2.2.2.2.2.2.2⟩
  by_cases hl : 10000 < l.length
  · have i1 : (10000 : Int) < l.length := by omega
    go_wp2
    go_ret
    exact ⟨rfl, HQ.out.2.2.2.2.2.2.2⟩
  have i1 : decide ((10000 : Int) < l.length) = false := by simp; omega
  have i2 : ¬ 10000 < l.length := hl
  go_wp2_with fail
  refine (HC.out.2.1 _ HQ.out.2.2.2.1.v HQ.out.2.2.2.2.1.v).mono ?_
  rintro e w3 ⟨b1, u1, rfl, hm⟩
  clear c_q_d0 c_q_d1 c_q_s0 c_q_s1 c_q_s2 c_q_s3 c_q_s4 c_q_t0 c_q_t1 c_q_t2 c_q_t3 c_q_t4
  obtain ⟨q_d, q_s, q_t, D_d, S_s, S_t, B_l, hB⟩ := HQ.out
  clear HQ
  have D_x := LT.of hm
  have hst := hm.below
  obtain ⟨ab_x, cb_x, rfl, -, -, -, -⟩ := hm.v0.1
  obtain ⟨au_x, cu_x, rfl, -, -, -, -⟩ := hm.v0.2
  clear hm
  have sz_w3 : w2.heap.size ≤ w3.heap.size := hst.size
  replace q_d := q_d.step hst
  replace q_s := q_s.step hst
  replace q_t := q_t.step hst
  replace D_d := D_d.step hst
  replace S_s := S_s.step hst
  replace S_t := S_t.step hst
  replace B_l := B_l.step hst
  replace hB := hB.step hst
  clear hst
  have HQ := Lib.hid (And.intro q_d (And.intro q_s (And.intro q_t (And.intro D_d (And.intro S_s (And.intro S_t (And.intro B_l (And.intro D_x hB))))))))
  clear q_d q_s q_t D_d S_s S_t B_l D_x hB
  have c_q_d0 := LK.cell HQ.out.1 0
  have c_q_d1 := LK.cell HQ.out.1 1
  have c_q_s0 := LK.cell HQ.out.2.1 0
  have c_q_s1 := LK.cell HQ.out.2.1 1
  have c_q_s2 := LK.cell HQ.out.2.1 2
  have c_q_s3 := LK.cell HQ.out.2.1 3
  have c_q_s4 := LK.cell HQ.out.2.1 4
  have c_q_t0 := LK.cell HQ.out.2.2.1 0
  have c_q_t1 := LK.cell HQ.out.2.2.1 1
  have c_q_t2 := LK.cell HQ.out.2.2.1 2
  have c_q_t3 := LK.cell HQ.out.2.2.1 3
  have c_q_t4 := LK.cell HQ.out.2.2.1 4
  simp at c_q_d0 c_q_d1 c_q_s0 c_q_s1 c_q_s2 c_q_s3 c_q_s4 c_q_t0 c_q_t1 c_q_t2 c_q_t3 c_q_t4
  clear i1 i2 hl
  go_upto_region 5 with (fail)
  clear c_q_d0 c_q_d1 c_q_s0 c_q_s1 c_q_s2 c_q_s3 c_q_s4 c_q_t0 c_q_t1 c_q_t2 c_q_t3 c_q_t4
  obtain ⟨q_d, q_s, q_t, D_d, S_s, S_t, B_l, D_x, hB⟩ := HQ.out
  clear HQ
  have hst := (Below.refl w3.heap.size w3).alloc (Nat.le_refl _) (.cells #[.slice ab_x X1.blocks.length cb_x, .slice au_x X1.waits.length cu_x] 44)
  have hlt : w3.heap.size < (w3.alloc (.cells #[.slice ab_x X1.blocks.length cb_x, .slice au_x X1.waits.length cu_x] 44)).heap.size := by simp
  have q_x := LK.new w3 (.cells #[.slice ab_x X1.blocks.length cb_x, .slice au_x X1.waits.length cu_x] 44)
  replace q_d := q_d.step hst
  replace q_s := q_s.step hst
  replace q_t := q_t.step hst
  replace D_d := D_d.step hst
  replace S_s := S_s.step hst
  replace S_t := S_t.step hst
  replace B_l := B_l.step hst
  replace D_x := D_x.step hst
  replace hB := hB.step hst
  obtain ⟨w4, hw⟩ : ∃ v, w3.alloc (.cells #[.slice ab_x X1.blocks.length cb_x, .slice au_x X1.waits.length cu_x] 44) = v := ⟨_, rfl⟩
  rw [hw] at hlt q_x q_d q_s q_t D_d S_s S_t B_l D_x hB ⊢
  clear hw hst
  have sz_w4 := hlt
  clear hlt
  have HQ := Lib.hid (And.intro q_d (And.intro q_s (And.intro q_t (And.intro D_d (And.intro S_s (And.intro S_t (And.intro B_l (And.intro D_x (And.intro q_x hB)))))))))
  clear q_d q_s q_t D_d S_s S_t B_l D_x q_x hB
  have c_q_d0 := LK.cell HQ.out.1 0
  have c_q_d1 := LK.cell HQ.out.1 1
  have c_q_s0 := LK.cell HQ.out.2.1 0
  have c_q_s1 := LK.cell HQ.out.2.1 1
  have c_q_s2 := LK.cell HQ.out.2.1 2
  have c_q_s3 := LK.cell HQ.out.2.1 3
  have c_q_s4 := LK.cell HQ.out.2.1 4
  have c_q_t0 := LK.cell HQ.out.2.2.1 0
  have c_q_t1 := LK.cell HQ.out.2.2.1 1
  have c_q_t2 := LK.cell HQ.out.2.2.1 2
  have c_q_t3 := LK.cell HQ.out.2.2.1 3
  have c_q_t4 := LK.cell HQ.out.2.2.1 4
  have c_q_x0 := LK.cell HQ.out.2.2.2.2.2.2.2.2.1 0
  have c_q_x1 := LK.cell HQ.out.2.2.2.2.2.2.2.2.1 1
  simp at c_q_d0 c_q_d1 c_q_s0 c_q_s1 c_q_s2 c_q_s3 c_q_s4 c_q_t0 c_q_t1 c_q_t2 c_q_t3 c_q_t4 c_q_x0 c_q_x1
  go_wp2_with fail
  refine (HC.out.2.2.1 _ _ _ HQ.out.2.2.2.2.2.2.2.1.v HQ.out.2.2.2.2.2.1.v).mono ?_
  rintro e w5 ⟨b2, u2, rfl, hm⟩
  clear c_q_d0 c_q_d1 c_q_s0 c_q_s1 c_q_s2 c_q_s3 c_q_s4 c_q_t0 c_q_t1 c_q_t2 c_q_t3 c_q_t4 c_q_x0 c_q_x1
  obtain ⟨q_d, q_s, q_t, D_d, S_s, S_t, B_l, D_x, q_x, hB⟩ := HQ.out
  clear HQ
  have D_z := LT.of hm
  have hst := hm.below
  obtain ⟨ab_z, cb_z, rfl, -, -, -, -⟩ := hm.v0.1
  obtain ⟨au_z, cu_z, rfl, -, -, -, -⟩ := hm.v0.2
  clear hm
  have sz_w5 : w4.heap.size ≤ w5.heap.size := hst.size
  replace q_d := q_d.step hst
  replace q_s := q_s.step hst
  replace q_t := q_t.step hst
  replace D_d := D_d.step hst
  replace S_s := S_s.step hst
  replace S_t := S_t.step hst
  replace B_l := B_l.step hst
  replace D_x := D_x.step hst
  replace q_x := q_x.step hst
  replace hB := hB.step hst
  clear hst
  have HQ := Lib.hid (And.intro q_d (And.intro q_s (And.intro q_t (And.intro D_d (And.intro S_s (And.intro S_t (And.intro B_l (And.intro D_x (And.intro q_x (And.intro D_z hB))))))))))
  clear q_d q_s q_t D_d S_s S_t B_l D_x q_x D_z hB
  have c_q_d0 := LK.cell HQ.out.1 0
  have c_q_d1 := LK.cell HQ.out.1 1
  have c_q_s0 := LK.cell HQ.out.2.1 0
  have c_q_s1 := LK.cell HQ.out.2.1 1
  have c_q_s2 := LK.cell HQ.out.2.1 2
  have c_q_s3 := LK.cell HQ.out.2.1 3
  have c_q_s4 := LK.cell HQ.out.2.1 4
  have c_q_t0 := LK.cell HQ.out.2.2.1 0
  have c_q_t1 := LK.cell HQ.out.2.2.1 1
  have c_q_t2 := LK.cell HQ.out.2.2.1 2
  have c_q_t3 := LK.cell HQ.out.2.2.1 3
  have c_q_t4 := LK.cell HQ.out.2.2.1 4
  have c_q_x0 := LK.cell HQ.out.2.2.2.2.2.2.2.2.1 0
  have c_q_x1 := LK.cell HQ.out.2.2.2.2.2.2.2.2.1 1
  have z_q_x0 := LK.frozen HQ.out.2.2.2.2.2.2.2.2.1 0
  have z_q_x1 := LK.frozen HQ.out.2.2.2.2.2.2.2.2.1 1
  simp at c_q_d0 c_q_d1 c_q_s0 c_q_s1 c_q_s2 c_q_s3 c_q_s4 c_q_t0 c_q_t1 c_q_t2 c_q_t3 c_q_t4 c_q_x0 c_q_x1
  go_upto_region 6 with (fail)
  clear z_q_x0 z_q_x1 c_q_d0 c_q_d1 c_q_s0 c_q_s1 c_q_s2 c_q_s3 c_q_s4 c_q_t0 c_q_t1 c_q_t2 c_q_t3 c_q_t4 c_q_x0 c_q_x1
  obtain ⟨q_d, q_s, q_t, D_d, S_s, S_t, B_l, D_x, q_x, D_z, hB⟩ := HQ.out
  clear HQ
  have hcb := LK.blk q_x
  have hF : LK (w3.heap.size) (.cells #[.slice ab_z X2.blocks.length cb_z, .slice au_z X2.waits.length cu_z] 44) ((w5.setCell ⟨w3.heap.size, 0, none⟩ (.slice ab_z X2.blocks.length cb_z)).setCell ⟨w3.heap.size, 1, none⟩ (.slice au_z X2.waits.length cu_z)) := LK.of (set_block (set_block hcb 0 _) 1 _)
  have hbel : Below (w3.heap.size) w5 ((w5.setCell ⟨w3.heap.size, 0, none⟩ (.slice ab_z X2.blocks.length cb_z)).setCell ⟨w3.heap.size, 1, none⟩ (.slice au_z X2.waits.length cu_z)) := ((Below.refl _ w5).setCell (p := ⟨w3.heap.size, 0, none⟩) (Nat.le_refl _) _).setCell (p := ⟨w3.heap.size, 1, none⟩) (Nat.le_refl _) _
  have hfr : ∀ x, x < w5.heap.size → (x < w3.heap.size ∨ w3.heap.size + 1 ≤ x) → ((w5.setCell ⟨w3.heap.size, 0, none⟩ (.slice ab_z X2.blocks.length cb_z)).setCell ⟨w3.heap.size, 1, none⟩ (.slice au_z X2.waits.length cu_z)).heap[x]? = w5.heap[x]? := fun x _ h => (set_other _ _ _ _ _ (by omega)).trans ((set_other _ _ _ _ _ (by omega)))
  have hs4 : ((w5.setCell ⟨w3.heap.size, 0, none⟩ (.slice ab_z X2.blocks.length cb_z)).setCell ⟨w3.heap.size, 1, none⟩ (.slice au_z X2.waits.length cu_z)).heap.size = w5.heap.size := by simp only [World.size_setCell]
  replace q_d := q_d.out (Nat.le_of_eq hs4.symm) hfr (by omega)
  replace q_s := q_s.out (Nat.le_of_eq hs4.symm) hfr (by omega)
  replace q_t := q_t.out (Nat.le_of_eq hs4.symm) hfr (by omega)
  replace D_d := D_d.out (Nat.le_of_eq hs4.symm) hfr (by omega)
  replace S_s := S_s.out (Nat.le_of_eq hs4.symm) hfr (by omega)
  replace S_t := S_t.out (Nat.le_of_eq hs4.symm) hfr (by omega)
  replace B_l := B_l.out (Nat.le_of_eq hs4.symm) hfr (by omega)
  replace D_x := D_x.out (Nat.le_of_eq hs4.symm) hfr (by omega)
  replace D_z := D_z.out (Nat.le_of_eq hs4.symm) hfr (by omega)
  replace hB := hB.outB hbel (by omega)
  replace q_x := hF
  obtain ⟨w6, hw⟩ : ∃ v, ((w5.setCell ⟨w3.heap.size, 0, none⟩ (.slice ab_z X2.blocks.length cb_z)).setCell ⟨w3.heap.size, 1, none⟩ (.slice au_z X2.waits.length cu_z)) = v := ⟨_, rfl⟩
  rw [hw] at hs4 q_d q_s q_t D_d S_s S_t B_l D_x q_x D_z hB ⊢
  have sz_w6 := Nat.le_of_eq hs4
  have sy_w6 := Nat.le_of_eq hs4.symm
  clear hw hF hbel hfr hcb hs4
  have HQ := Lib.hid (And.intro q_d (And.intro q_s (And.intro q_t (And.intro D_d (And.intro S_s (And.intro S_t (And.intro B_l (And.intro D_x (And.intro q_x (And.intro D_z hB))))))))))
  clear q_d q_s q_t D_d S_s S_t B_l D_x q_x D_z hB
  have c_q_d0 := LK.cell HQ.out.1 0
  have c_q_d1 := LK.cell HQ.out.1 1
  have c_q_s0 := LK.cell HQ.out.2.1 0
  have c_q_s1 := LK.cell HQ.out.2.1 1
  have c_q_s2 := LK.cell HQ.out.2.1 2
  have c_q_s3 := LK.cell HQ.out.2.1 3
  have c_q_s4 := LK.cell HQ.out.2.1 4
  have c_q_t0 := LK.cell HQ.out.2.2.1 0
  have c_q_t1 := LK.cell HQ.out.2.2.1 1
  have c_q_t2 := LK.cell HQ.out.2.2.1 2
  have c_q_t3 := LK.cell HQ.out.2.2.1 3
  have c_q_t4 := LK.cell HQ.out.2.2.1 4
  have c_q_x0 := LK.cell HQ.out.2.2.2.2.2.2.2.2.1 0
  have c_q_x1 := LK.cell HQ.out.2.2.2.2.2.2.2.2.1 1
  simp at c_q_d0 c_q_d1 c_q_s0 c_q_s1 c_q_s2 c_q_s3 c_q_s4 c_q_t0 c_q_t1 c_q_t2 c_q_t3 c_q_t4 c_q_x0 c_q_x1
  go_wp2_with fail
  refine (HC.out.2.2.2.1 _ HQ.out.2.2.2.1.v HQ.out.2.2.2.2.2.1.v).mono ?_
  rintro e w7 ⟨b3, u3, rfl, hm⟩
  clear c_q_d0 c_q_d1 c_q_s0 c_q_s1 c_q_s2 c_q_s3 c_q_s4 c_q_t0 c_q_t1 c_q_t2 c_q_t3 c_q_t4 c_q_x0 c_q_x1
  obtain ⟨q_d, q_s, q_t, D_d, S_s, S_t, B_l, D_x, q_x, D_z, hB⟩ := HQ.out
  clear HQ
  have D_y := LT.of hm
  have hst := hm.below
  obtain ⟨ab_y, cb_y, rfl, -, -, -, -⟩ := hm.v0.1
  obtain ⟨au_y, cu_y, rfl, -, -, -, -⟩ := hm.v0.2
  clear hm
  have sz_w7 : w6.heap.size ≤ w7.heap.size := hst.size
  replace q_d := q_d.step hst
  replace q_s := q_s.step hst
  replace q_t := q_t.step hst
  replace D_d := D_d.step hst
  replace S_s := S_s.step hst
  replace S_t := S_t.step hst
  replace B_l := B_l.step hst
  replace D_x := D_x.step hst
  replace q_x := q_x.step hst
  replace D_z := D_z.step hst
  replace hB := hB.step hst
  clear hst
  have HQ := Lib.hid (And.intro q_d (And.intro q_s (And.intro q_t (And.intro D_d (And.intro S_s (And.intro S_t (And.intro B_l (And.intro D_x (And.intro q_x (And.intro D_z (And.intro D_y hB)))))))))))
  clear q_d q_s q_t D_d S_s S_t B_l D_x q_x D_z D_y hB
  have c_q_d0 := LK.cell HQ.out.1 0
  have c_q_d1 := LK.cell HQ.out.1 1
  have c_q_s0 := LK.cell HQ.out.2.1 0
  have c_q_s1 := LK.cell HQ.out.2.1 1
  have c_q_s2 := LK.cell HQ.out.2.1 2
  have c_q_s3 := LK.cell HQ.out.2.1 3
  have c_q_s4 := LK.cell HQ.out.2.1 4
  have c_q_t0 := LK.cell HQ.out.2.2.1 0
  have c_q_t1 := LK.cell HQ.out.2.2.1 1
  have c_q_t2 := LK.cell HQ.out.2.2.1 2
  have c_q_t3 := LK.cell HQ.out.2.2.1 3
  have c_q_t4 := LK.cell HQ.out.2.2.1 4
  have c_q_x0 := LK.cell HQ.out.2.2.2.2.2.2.2.2.1 0
  have c_q_x1 := LK.cell HQ.out.2.2.2.2.2.2.2.2.1 1
  simp at c_q_d0 c_q_d1 c_q_s0 c_q_s1 c_q_s2 c_q_s3 c_q_s4 c_q_t0 c_q_t1 c_q_t2 c_q_t3 c_q_t4 c_q_x0 c_q_x1
  go_upto_region 7 with (fail)
  clear c_q_d0 c_q_d1 c_q_s0 c_q_s1 c_q_s2 c_q_s3 c_q_s4 c_q_t0 c_q_t1 c_q_t2 c_q_t3 c_q_t4 c_q_x0 c_q_x1
  obtain ⟨q_d, q_s, q_t, D_d, S_s, S_t, B_l, D_x, q_x, D_z, D_y, hB⟩ := HQ.out
  clear HQ
  have hst := (Below.refl w7.heap.size w7).alloc (Nat.le_refl _) (.cells #[.slice ab_y Y1.blocks.length cb_y, .slice au_y Y1.waits.length cu_y] 44)
  have hlt : w7.heap.size < (w7.alloc (.cells #[.slice ab_y Y1.blocks.length cb_y, .slice au_y Y1.waits.length cu_y] 44)).heap.size := by simp
  have q_y := LK.new w7 (.cells #[.slice ab_y Y1.blocks.length cb_y, .slice au_y Y1.waits.length cu_y] 44)
  replace q_d := q_d.step hst
  replace q_s := q_s.step hst
  replace q_t := q_t.step hst
  replace D_d := D_d.step hst
  replace S_s := S_s.step hst
  replace S_t := S_t.step hst
  replace B_l := B_l.step hst
  replace D_x := D_x.step hst
  replace q_x := q_x.step hst
  replace D_z := D_z.step hst
  replace D_y := D_y.step hst
  replace hB := hB.step hst
  obtain ⟨w8, hw⟩ : ∃ v, w7.alloc (.cells #[.slice ab_y Y1.blocks.length cb_y, .slice au_y Y1.waits.length cu_y] 44) = v := ⟨_, rfl⟩
  rw [hw] at hlt q_y q_d q_s q_t D_d S_s S_t B_l D_x q_x D_z D_y hB ⊢
  clear hw hst
  have sz_w8 := hlt
  clear hlt
  have HQ := Lib.hid (And.intro q_d (And.intro q_s (And.intro q_t (And.intro D_d (And.intro S_s (And.intro S_t (And.intro B_l (And.intro D_x (And.intro q_x (And.intro D_z (And.intro D_y (And.intro q_y hB))))))))))))
  clear q_d q_s q_t D_d S_s S_t B_l D_x q_x D_z D_y q_y hB
  have c_q_d0 := LK.cell HQ.out.1 0
  have c_q_d1 := LK.cell HQ.out.1 1
  have c_q_s0 := LK.cell HQ.out.2.1 0
  have c_q_s1 := LK.cell HQ.out.2.1 1
  have c_q_s2 := LK.cell HQ.out.2.1 2
  have c_q_s3 := LK.cell HQ.out.2.1 3
  have c_q_s4 := LK.cell HQ.out.2.1 4
  have c_q_t0 := LK.cell HQ.out.2.2.1 0
  have c_q_t1 := LK.cell HQ.out.2.2.1 1
  have c_q_t2 := LK.cell HQ.out.2.2.1 2
  have c_q_t3 := LK.cell HQ.out.2.2.1 3
  have c_q_t4 := LK.cell HQ.out.2.2.1 4
  have c_q_x0 := LK.cell HQ.out.2.2.2.2.2.2.2.2.1 0
  have c_q_x1 := LK.cell HQ.out.2.2.2.2.2.2.2.2.1 1
  have c_q_y0 := LK.cell HQ.out.2.2.2.2.2.2.2.2.2.2.2.1 0
  have c_q_y1 := LK.cell HQ.out.2.2.2.2.2.2.2.2.2.2.2.1 1
  simp at c_q_d0 c_q_d1 c_q_s0 c_q_s1 c_q_s2 c_q_s3 c_q_s4 c_q_t0 c_q_t1 c_q_t2 c_q_t3 c_q_t4 c_q_x0 c_q_x1 c_q_y0 c_q_y1
  go_wp2_with fail
  refine (HC.out.2.2.2.2.1 _ _ _ HQ.out.2.2.2.2.2.2.2.2.2.2.1.v HQ.out.2.2.2.2.1.v).mono ?_
  rintro e w9 ⟨b4, u4, rfl, hm⟩
  clear c_q_d0 c_q_d1 c_q_s0 c_q_s1 c_q_s2 c_q_s3 c_q_s4 c_q_t0 c_q_t1 c_q_t2 c_q_t3 c_q_t4 c_q_x0 c_q_x1 c_q_y0 c_q_y1
  obtain ⟨q_d, q_s, q_t, D_d, S_s, S_t, B_l, D_x, q_x, D_z, D_y, q_y, hB⟩ := HQ.out
  clear HQ
  have D_v := LT.of hm
  have hst := hm.below
  obtain ⟨ab_v, cb_v, rfl, -, -, -, -⟩ := hm.v0.1
  obtain ⟨au_v, cu_v, rfl, -, -, -, -⟩ := hm.v0.2
  clear hm
  have sz_w9 : w8.heap.size ≤ w9.heap.size := hst.size
  replace q_d := q_d.step hst
  replace q_s := q_s.step hst
  replace q_t := q_t.step hst
  replace D_d := D_d.step hst
  replace S_s := S_s.step hst
  replace S_t := S_t.step hst
  replace B_l := B_l.step hst
  replace D_x := D_x.step hst
  replace q_x := q_x.step hst
  replace D_z := D_z.step hst
  replace D_y := D_y.step hst
  replace q_y := q_y.step hst
  replace hB := hB.step hst
  clear hst
  have HQ := Lib.hid (And.intro q_d (And.intro q_s (And.intro q_t (And.intro D_d (And.intro S_s (And.intro S_t (And.intro B_l (And.intro D_x (And.intro q_x (And.intro D_z (And.intro D_y (And.intro q_y (And.intro D_v hB)))))))))))))
  clear q_d q_s q_t D_d S_s S_t B_l D_x q_x D_z D_y q_y D_v hB
  have c_q_d0 := LK.cell HQ.out.1 0
  have c_q_d1 := LK.cell HQ.out.1 1
  have c_q_s0 := LK.cell HQ.out.2.1 0
  have c_q_s1 := LK.cell HQ.out.2.1 1
  have c_q_s2 := LK.cell HQ.out.2.1 2
  have c_q_s3 := LK.cell HQ.out.2.1 3
  have c_q_s4 := LK.cell HQ.out.2.1 4
  have c_q_t0 := LK.cell HQ.out.2.2.1 0
  have c_q_t1 := LK.cell HQ.out.2.2.1 1
  have c_q_t2 := LK.cell HQ.out.2.2.1 2
  have c_q_t3 := LK.cell HQ.out.2.2.1 3
  have c_q_t4 := LK.cell HQ.out.2.2.1 4
  have c_q_x0 := LK.cell HQ.out.2.2.2.2.2.2.2.2.1 0
  have c_q_x1 := LK.cell HQ.out.2.2.2.2.2.2.2.2.1 1
  have c_q_y0 := LK.cell HQ.out.2.2.2.2.2.2.2.2.2.2.2.1 0
  have c_q_y1 := LK.cell HQ.out.2.2.2.2.2.2.2.2.2.2.2.1 1
  have z_q_y0 := LK.frozen HQ.out.2.2.2.2.2.2.2.2.2.2.2.1 0
  have z_q_y1 := LK.frozen HQ.out.2.2.2.2.2.2.2.2.2.2.2.1 1
  simp at c_q_d0 c_q_d1 c_q_s0 c_q_s1 c_q_s2 c_q_s3 c_q_s4 c_q_t0 c_q_t1 c_q_t2 c_q_t3 c_q_t4 c_q_x0 c_q_x1 c_q_y0 c_q_y1
  go_upto_region 8 with (fail)
  clear z_q_y0 z_q_y1 c_q_d0 c_q_d1 c_q_s0 c_q_s1 c_q_s2 c_q_s3 c_q_s4 c_q_t0 c_q_t1 c_q_t2 c_q_t3 c_q_t4 c_q_x0 c_q_x1 c_q_y0 c_q_y1
  obtain ⟨q_d, q_s, q_t, D_d, S_s, S_t, B_l, D_x, q_x, D_z, D_y, q_y, D_v, hB⟩ := HQ.out
  clear HQ
  have hcb := LK.blk q_y
  have hF : LK (w7.heap.size) (.cells #[.slice ab_v Y2.blocks.length cb_v, .slice au_v Y2.waits.length cu_v] 44) ((w9.setCell ⟨w7.heap.size, 0, none⟩ (.slice ab_v Y2.blocks.length cb_v)).setCell ⟨w7.heap.size, 1, none⟩ (.slice au_v Y2.waits.length cu_v)) := LK.of (set_block (set_block hcb 0 _) 1 _)
  have hbel : Below (w7.heap.size) w9 ((w9.setCell ⟨w7.heap.size, 0, none⟩ (.slice ab_v Y2.blocks.length cb_v)).setCell ⟨w7.heap.size, 1, none⟩ (.slice au_v Y2.waits.length cu_v)) := ((Below.refl _ w9).setCell (p := ⟨w7.heap.size, 0, none⟩) (Nat.le_refl _) _).setCell (p := ⟨w7.heap.size, 1, none⟩) (Nat.le_refl _) _
  have hfr : ∀ x, x < w9.heap.size → (x < w7.heap.size ∨ w7.heap.size + 1 ≤ x) → ((w9.setCell ⟨w7.heap.size, 0, none⟩ (.slice ab_v Y2.blocks.length cb_v)).setCell ⟨w7.heap.size, 1, none⟩ (.slice au_v Y2.waits.length cu_v)).heap[x]? = w9.heap[x]? := fun x _ h => (set_other _ _ _ _ _ (by omega)).trans ((set_other _ _ _ _ _ (by omega)))
  have hs4 : ((w9.setCell ⟨w7.heap.size, 0, none⟩ (.slice ab_v Y2.blocks.length cb_v)).setCell ⟨w7.heap.size, 1, none⟩ (.slice au_v Y2.waits.length cu_v)).heap.size = w9.heap.size := by simp only [World.size_setCell]
  replace q_d := q_d.out (Nat.le_of_eq hs4.symm) hfr (by omega)
  replace q_s := q_s.out (Nat.le_of_eq hs4.symm) hfr (by omega)
  replace q_t := q_t.out (Nat.le_of_eq hs4.symm) hfr (by omega)
  replace D_d := D_d.out (Nat.le_of_eq hs4.symm) hfr (by omega)
  replace S_s := S_s.out (Nat.le_of_eq hs4.symm) hfr (by omega)
  replace S_t := S_t.out (Nat.le_of_eq hs4.symm) hfr (by omega)
  replace B_l := B_l.out (Nat.le_of_eq hs4.symm) hfr (by omega)
  replace D_x := D_x.out (Nat.le_of_eq hs4.symm) hfr (by omega)
  replace q_x := q_x.out (Nat.le_of_eq hs4.symm) hfr (by omega)
  replace D_z := D_z.out (Nat.le_of_eq hs4.symm) hfr (by omega)
  replace D_y := D_y.out (Nat.le_of_eq hs4.symm) hfr (by omega)
  replace D_v := D_v.out (Nat.le_of_eq hs4.symm) hfr (by omega)
  replace hB := hB.outB hbel (by omega)
  replace q_y := hF
  obtain ⟨w10, hw⟩ : ∃ v, ((w9.setCell ⟨w7.heap.size, 0, none⟩ (.slice ab_v Y2.blocks.length cb_v)).setCell ⟨w7.heap.size, 1, none⟩ (.slice au_v Y2.waits.length cu_v)) = v := ⟨_, rfl⟩
  rw [hw] at hs4 q_d q_s q_t D_d S_s S_t B_l D_x q_x D_z D_y q_y D_v hB ⊢
  have sz_w10 := Nat.le_of_eq hs4
  have sy_w10 := Nat.le_of_eq hs4.symm
  clear hw hF hbel hfr hcb hs4
  have HQ := Lib.hid (And.intro q_d (And.intro q_s (And.intro q_t (And.intro D_d (And.intro S_s (And.intro S_t (And.intro B_l (And.intro D_x (And.intro q_x (And.intro D_z (And.intro D_y (And.intro q_y (And.intro D_v hB)))))))))))))
  clear q_d q_s q_t D_d S_s S_t B_l D_x q_x D_z D_y q_y D_v hB
  have c_q_d0 := LK.cell HQ.out.1 0
  have c_q_d1 := LK.cell HQ.out.1 1
  have c_q_s0 := LK.cell HQ.out.2.1 0
  have c_q_s1 := LK.cell HQ.out.2.1 1
  have c_q_s2 := LK.cell HQ.out.2.1 2
  have c_q_s3 := LK.cell HQ.out.2.1 3
  have c_q_s4 := LK.cell HQ.out.2.1 4
  have c_q_t0 := LK.cell HQ.out.2.2.1 0
  have c_q_t1 := LK.cell HQ.out.2.2.1 1
  have c_q_t2 := LK.cell HQ.out.2.2.1 2
  have c_q_t3 := LK.cell HQ.out.2.2.1 3
  have c_q_t4 := LK.cell HQ.out.2.2.1 4
  have c_q_x0 := LK.cell HQ.out.2.2.2.2.2.2.2.2.1 0
  have c_q_x1 := LK.cell HQ.out.2.2.2.2.2.2.2.2.1 1
  have c_q_y0 := LK.cell HQ.out.2.2.2.2.2.2.2.2.2.2.2.1 0
  have c_q_y1 := LK.cell HQ.out.2.2.2.2.2.2.2.2.2.2.2.1 1
  simp at c_q_d0 c_q_d1 c_q_s0 c_q_s1 c_q_s2 c_q_s3 c_q_s4 c_q_t0 c_q_t1 c_q_t2 c_q_t3 c_q_t4 c_q_x0 c_q_x1 c_q_y0 c_q_y1
  by_cases he1 : e1 = 0
  case neg =>
    have i1 : (e1 != 0) = true := by simp [he1]
    go_wp2
    go_ret
    exact ⟨rfl, HQ.out.2.2.2.2.2.2.2.2.2.2.2.2.2⟩
  subst he1
  by_cases he2 : e2 = 0
  case neg =>
    have i1 : (e2 != 0) = true := by simp [he2]
    go_wp2
    go_ret
    exact ⟨rfl, HQ.out.2.2.2.2.2.2.2.2.2.2.2.2.2⟩
  subst he2
  by_cases he3 : e3 = 0
  case neg =>
    have i1 : (e3 != 0) = true := by simp [he3]
    go_wp2
    go_ret
    exact ⟨rfl, HQ.out.2.2.2.2.2.2.2.2.2.2.2.2.2⟩
  subst he3
  by_cases he4 : e4 = 0
  case neg =>
    have i1 : (e4 != 0) = true := by simp [he4]
    go_wp2
    go_ret
    exact ⟨rfl, HQ.out.2.2.2.2.2.2.2.2.2.2.2.2.2⟩
  subst he4
  have t1 := HN.out.1 (by trivial)
  have t2 := HN.out.2.1 (by trivial)
  subst t1 t2
  go_wp2_with fail
  refine (HC.out.2.2.2.2.2.2.2.1 _ _ _ HQ.out.2.2.2.2.2.2.2.2.2.1.v).mono ?_
  rintro e w11 ⟨v_1, rfl, hm⟩
  clear c_q_d0 c_q_d1 c_q_s0 c_q_s1 c_q_s2 c_q_s3 c_q_s4 c_q_t0 c_q_t1 c_q_t2 c_q_t3 c_q_t4 c_q_x0 c_q_x1 c_q_y0 c_q_y1
  obtain ⟨q_d, q_s, q_t, D_d, S_s, S_t, B_l, D_x, q_x, D_z, D_y, q_y, D_v, hB⟩ := HQ.out
  clear HQ
  have S_1 := LS.of hm.row (Nat.le_refl _)
  have hst := hm.below
  obtain ⟨a_1, c_1, rfl, -, -, -, -⟩ := id hm.row
  clear hm
  have sz_w11 : w10.heap.size ≤ w11.heap.size := hst.size
  replace q_d := q_d.step hst
  replace q_s := q_s.step hst
  replace q_t := q_t.step hst
  replace D_d := D_d.step hst
  replace S_s := S_s.step hst
  replace S_t := S_t.step hst
  replace B_l := B_l.step hst
  replace D_x := D_x.step hst
  replace q_x := q_x.step hst
  replace D_z := D_z.step hst
  replace D_y := D_y.step hst
  replace q_y := q_y.step hst
  replace D_v := D_v.step hst
  replace hB := hB.step hst
  clear hst
  have HQ := Lib.hid (And.intro q_d (And.intro q_s (And.intro q_t (And.intro D_d (And.intro S_s (And.intro S_t (And.intro B_l (And.intro D_x (And.intro q_x (And.intro D_z (And.intro D_y (And.intro q_y (And.intro D_v (And.intro S_1 hB))))))))))))))
  clear q_d q_s q_t D_d S_s S_t B_l D_x q_x D_z D_y q_y D_v S_1 hB
  have c_q_d0 := LK.cell HQ.out.1 0
  have c_q_d1 := LK.cell HQ.out.1 1
  have c_q_s0 := LK.cell HQ.out.2.1 0
  have c_q_s1 := LK.cell HQ.out.2.1 1
  have c_q_s2 := LK.cell HQ.out.2.1 2
  have c_q_s3 := LK.cell HQ.out.2.1 3
  have c_q_s4 := LK.cell HQ.out.2.1 4
  have c_q_t0 := LK.cell HQ.out.2.2.1 0
  have c_q_t1 := LK.cell HQ.out.2.2.1 1
  have c_q_t2 := LK.cell HQ.out.2.2.1 2
  have c_q_t3 := LK.cell HQ.out.2.2.1 3
  have c_q_t4 := LK.cell HQ.out.2.2.1 4
  have c_q_x0 := LK.cell HQ.out.2.2.2.2.2.2.2.2.1 0
  have c_q_x1 := LK.cell HQ.out.2.2.2.2.2.2.2.2.1 1
  have c_q_y0 := LK.cell HQ.out.2.2.2.2.2.2.2.2.2.2.2.1 0
  have c_q_y1 := LK.cell HQ.out.2.2.2.2.2.2.2.2.2.2.2.1 1
  simp at c_q_d0 c_q_d1 c_q_s0 c_q_s1 c_q_s2 c_q_s3 c_q_s4 c_q_t0 c_q_t1 c_q_t2 c_q_t3 c_q_t4 c_q_x0 c_q_x1 c_q_y0 c_q_y1
  go_wp2_with fail
  refine (HC.out.2.2.2.2.2.2.2.2.1 _ _ _ HQ.out.2.2.2.2.2.2.2.2.2.2.2.2.1.v).mono ?_
  rintro e w12 ⟨v_2, rfl, hm⟩
  clear c_q_d0 c_q_d1 c_q_s0 c_q_s1 c_q_s2 c_q_s3 c_q_s4 c_q_t0 c_q_t1 c_q_t2 c_q_t3 c_q_t4 c_q_x0 c_q_x1 c_q_y0 c_q_y1
  obtain ⟨q_d, q_s, q_t, D_d, S_s, S_t, B_l, D_x, q_x, D_z, D_y, q_y, D_v, S_1, hB⟩ := HQ.out
  clear HQ
  have S_2 := LS.of hm.row (Nat.le_refl _)
  have hst := hm.below
  obtain ⟨a_2, c_2, rfl, -, -, -, -⟩ := id hm.row
  clear hm
  have sz_w12 : w11.heap.size ≤ w12.heap.size := hst.size
  replace q_d := q_d.step hst
  replace q_s := q_s.step hst
  replace q_t := q_t.step hst
  replace D_d := D_d.step hst
  replace S_s := S_s.step hst
  replace S_t := S_t.step hst
  replace B_l := B_l.step hst
  replace D_x := D_x.step hst
  replace q_x := q_x.step hst
  replace D_z := D_z.step hst
  replace D_y := D_y.step hst
  replace q_y := q_y.step hst
  replace D_v := D_v.step hst
  replace S_1 := S_1.step hst
  replace hB := hB.step hst
  clear hst
  have HQ := Lib.hid (And.intro q_d (And.intro q_s (And.intro q_t (And.intro D_d (And.intro S_s (And.intro S_t (And.intro B_l (And.intro D_x (And.intro q_x (And.intro D_z (And.intro D_y (And.intro q_y (And.intro D_v (And.intro S_1 (And.intro S_2 hB)))))))))))))))
  clear q_d q_s q_t D_d S_s S_t B_l D_x q_x D_z D_y q_y D_v S_1 S_2 hB
  have c_q_d0 := LK.cell HQ.out.1 0
  have c_q_d1 := LK.cell HQ.out.1 1
  have c_q_s0 := LK.cell HQ.out.2.1 0
  have c_q_s1 := LK.cell HQ.out.2.1 1
  have c_q_s2 := LK.cell HQ.out.2.1 2
  have c_q_s3 := LK.cell HQ.out.2.1 3
  have c_q_s4 := LK.cell HQ.out.2.1 4
  have c_q_t0 := LK.cell HQ.out.2.2.1 0
  have c_q_t1 := LK.cell HQ.out.2.2.1 1
  have c_q_t2 := LK.cell HQ.out.2.2.1 2
  have c_q_t3 := LK.cell HQ.out.2.2.1 3
  have c_q_t4 := LK.cell HQ.out.2.2.1 4
  have c_q_x0 := LK.cell HQ.out.2.2.2.2.2.2.2.2.1 0
  have c_q_x1 := LK.cell HQ.out.2.2.2.2.2.2.2.2.1 1
  have c_q_y0 := LK.cell HQ.out.2.2.2.2.2.2.2.2.2.2.2.1 0
  have c_q_y1 := LK.cell HQ.out.2.2.2.2.2.2.2.2.2.2.2.1 1
  simp at c_q_d0 c_q_d1 c_q_s0 c_q_s1 c_q_s2 c_q_s3 c_q_s4 c_q_t0 c_q_t1 c_q_t2 c_q_t3 c_q_t4 c_q_x0 c_q_x1 c_q_y0 c_q_y1
  obtain ⟨zs, hzs⟩ : ∃ x, slotU s_g = x := ⟨_, rfl⟩
  obtain ⟨zt, hzt⟩ : ∃ x, slotU t_g = x := ⟨_, rfl⟩
  have ks := HC.out.2.2.2.2.2.2.2.2.2.2.2.2 s_g
  have kt := HC.out.2.2.2.2.2.2.2.2.2.2.2.2 t_g
  have hf := HN.out.2.2.1 (by trivial) (by trivial) (by trivial) (by trivial)
  rw [hzs] at ks hf
  rw [hzt] at kt hf
  have KSL := Lib.hid (And.intro ks (And.intro kt hf))
  clear ks kt hf hzs hzt
  go_upto_region 12 with (fail)
  go_cut [112] (fun t wx => t = .bool false ∧ Below w12.heap.size w12 wx)
  case first =>
    clear c_q_d0 c_q_d1 c_q_s0 c_q_s1 c_q_s2 c_q_s3 c_q_s4 c_q_t0 c_q_t1 c_q_t2 c_q_t3 c_q_t4 c_q_x0 c_q_x1 c_q_y0 c_q_y1
    have x_q_s := fun X => LK.cell (HQ.out.2.1.step (aft_below w12 X)) 0
    have x_q_t := fun X => LK.cell (HQ.out.2.2.1.step (aft_below w12 X)) 0
    simp at x_q_s x_q_t
    by_cases hs : zs = zt
    · have i3 : ((zs : Int) != zt) = false := by simp; omega
      refine wp_region_held_drew (S := Cls w12) (by kernel_rfl) (Cls.drew w12) (fun hCl => ?_)
      refine wpAnyH_seg (fuel := 10) (by kernel_rfl) (fun _ d _ _ _ h => by cases d <;> exact h) hCl [0, 1, 2, 3, 4, 5, 6, 7, 8, 10, 11] _ _ _ (by kernel_rfl) (by kernel_rfl) ?_
      simp only [opsOf_cons, opsOf_nil, consOp_some, List.getElem?_toArray, List.getElem?_cons_succ, List.getElem?_cons_zero]
      repeat (first | go_big_quiet_step (fail) | quiet_step (fail))
      refine wpQuiet_nil ?_
      refine wpAnyH_each (fuel := 9) [9] (by kernel_rfl) (by simp) (by kernel_rfl) ?_
      refine Each.cons _ rfl (fun K' hK => ?_) Each.nil
      go_simp
      refine (KSL.out.1 _).mono ?_
      rintro e z1 ⟨rfl, rfl⟩
      have hst := hCl.below
      have hCl := Cls.of hst
      refine hK.out (Cls w12) (fun _ h => h) hCl ?_
      clear hK K'
      refine wpAnyH_each (fuel := 8) [12] (by kernel_rfl) (by simp) (by kernel_rfl) ?_
      refine Each.cons _ rfl (fun K' hK => ?_) Each.nil
      go_simp
      refine (KSL.out.2.1 _).mono ?_
      rintro e z2 ⟨rfl, rfl⟩
      have hst := hCl.below
      have hCl := Cls.of hst
      refine hK.out (Cls w12) (fun _ h => h) hCl ?_
      clear hK K'
      refine wpAnyH_seg (fuel := 4) (by kernel_rfl) (fun _ d _ _ _ h => by cases d <;> exact h) hCl [13, 14, 15, 16] _ _ _ (by kernel_rfl) (by kernel_rfl) ?_
      simp only [opsOf_cons, opsOf_nil, consOp_some, List.getElem?_toArray, List.getElem?_cons_succ, List.getElem?_cons_zero]
      repeat (first | go_big_quiet_step (fail) | quiet_step (fail))
      refine wpQuiet_nil ?_
      refine wpAnyH_each (fuel := 3) [17] (by kernel_rfl) (by simp) (by kernel_rfl) ?_
      refine Each.cons _ rfl (fun K' hK => ?_) Each.nil
      go_simp
      have hst := hCl.below
      have hCl := Cls.of hst
      refine hK.out (Cls w12) (fun _ h => h) hCl ?_
      clear hK K'
      refine wpAnyH_seg (fuel := 0) (by kernel_rfl) (fun _ d _ _ _ h => by cases d <;> exact h) hCl [18, 19, 20] _ _ _ (by kernel_rfl) (by kernel_rfl) ?_
      simp only [opsOf_cons, opsOf_nil, consOp_some, List.getElem?_toArray, List.getElem?_cons_succ, List.getElem?_cons_zero]
      repeat (first | go_big_quiet_step (fail) | quiet_step (fail))
      refine wpQuiet_nil ?_
      refine wpAnyH_done (by kernel_rfl) ?_ _
      go_wp2
      go_meet
      exact ⟨rfl, hst⟩
    have i3 : ((zs : Int) != zt) = true := by simp; omega
    have hff := KSL.out.2.2 hs
    subst hff
    have i4 : decide (fx = fx) = true := by simp
    refine wp_region_held_drew (S := Cls w12) (by kernel_rfl) (Cls.drew w12) (fun hCl => ?_)
    refine wpAnyH_seg (fuel := 10) (by kernel_rfl) (fun _ d _ _ _ h => by cases d <;> exact h) hCl [0, 1, 2, 3, 4, 5, 6, 7, 8, 10, 11] _ _ _ (by kernel_rfl) (by kernel_rfl) ?_
    simp only [opsOf_cons, opsOf_nil, consOp_some, List.getElem?_toArray, List.getElem?_cons_succ, List.getElem?_cons_zero]
    repeat (first | go_big_quiet_step (fail) | quiet_step (fail))
    refine wpQuiet_nil ?_
    refine wpAnyH_each (fuel := 9) [9] (by kernel_rfl) (by simp) (by kernel_rfl) ?_
    refine Each.cons _ rfl (fun K' hK => ?_) Each.nil
    go_simp
    refine (KSL.out.1 _).mono ?_
    rintro e z1 ⟨rfl, rfl⟩
    have hst := hCl.below
    have hCl := Cls.of hst
    refine hK.out (Cls w12) (fun _ h => h) hCl ?_
    clear hK K'
    refine wpAnyH_each (fuel := 8) [12] (by kernel_rfl) (by simp) (by kernel_rfl) ?_
    refine Each.cons _ rfl (fun K' hK => ?_) Each.nil
    go_simp
    refine (KSL.out.2.1 _).mono ?_
    rintro e z2 ⟨rfl, rfl⟩
    have hst := hCl.below
    have hCl := Cls.of hst
    refine hK.out (Cls w12) (fun _ h => h) hCl ?_
    clear hK K'
    refine wpAnyH_seg (fuel := 4) (by kernel_rfl) (fun _ d _ _ _ h => by cases d <;> exact h) hCl [13, 14, 15, 16] _ _ _ (by kernel_rfl) (by kernel_rfl) ?_
    simp only [opsOf_cons, opsOf_nil, consOp_some, List.getElem?_toArray, List.getElem?_cons_succ, List.getElem?_cons_zero]
    repeat (first | go_big_quiet_step (fail) | quiet_step (fail))
    refine wpQuiet_nil ?_
    refine wpAnyH_each (fuel := 3) [17] (by kernel_rfl) (by simp) (by kernel_rfl) ?_
    refine Each.cons _ rfl (fun K' hK => ?_) Each.nil
    go_simp
    refine (HC.out.2.2.2.2.2.2.2.2.2.2.2.1 _ _ _ _ _ (HQ.out.2.2.2.2.2.2.2.2.2.2.2.2.2.1.step hCl.below).v (HQ.out.2.2.2.2.2.2.2.2.2.2.2.2.2.2.1.step hCl.below).v).mono ?_
    rintro e z3 ⟨rfl, hb⟩
    have hst := below_step hCl.below hCl.below.size hb
    clear hb
    have hCl := Cls.of hst
    refine hK.out (Cls w12) (fun _ h => h) hCl ?_
    clear hK K'
    refine wpAnyH_seg (fuel := 0) (by kernel_rfl) (fun _ d _ _ _ h => by cases d <;> exact h) hCl [18, 19, 20] _ _ _ (by kernel_rfl) (by kernel_rfl) ?_
    simp only [opsOf_cons, opsOf_nil, consOp_some, List.getElem?_toArray, List.getElem?_cons_succ, List.getElem?_cons_zero]
    repeat (first | go_big_quiet_step (fail) | quiet_step (fail))
    refine wpQuiet_nil ?_
    refine wpAnyH_done (by kernel_rfl) ?_ _
    go_wp2
    go_meet
    exact ⟨rfl, hst⟩
  case rest =>
  obtain ⟨rfl, hst⟩ := hcut
  obtain ⟨wc, hwc⟩ := named_w hst
  subst hwc
  clear c_q_d0 c_q_d1 c_q_s0 c_q_s1 c_q_s2 c_q_s3 c_q_s4 c_q_t0 c_q_t1 c_q_t2 c_q_t3 c_q_t4 c_q_x0 c_q_x1 c_q_y0 c_q_y1
  obtain ⟨q_d, q_s, q_t, D_d, S_s, S_t, B_l, D_x, q_x, D_z, D_y, q_y, D_v, S_1, S_2, hB⟩ := HQ.out
  clear HQ
  have sz_wc : w12.heap.size ≤ wc.heap.size := hst.size
  replace q_d := q_d.step hst
  replace q_s := q_s.step hst
  replace q_t := q_t.step hst
  replace D_d := D_d.step hst
  replace S_s := S_s.step hst
  replace S_t := S_t.step hst
  replace B_l := B_l.step hst
  replace D_x := D_x.step hst
  replace q_x := q_x.step hst
  replace D_z := D_z.step hst
  replace D_y := D_y.step hst
  replace q_y := q_y.step hst
  replace D_v := D_v.step hst
  replace S_1 := S_1.step hst
  replace S_2 := S_2.step hst
  replace hB := hB.step hst
  clear hst KSL
  have HQ := Lib.hid (And.intro q_d (And.intro q_s (And.intro q_t (And.intro D_d (And.intro S_s (And.intro S_t (And.intro B_l (And.intro D_x (And.intro q_x (And.intro D_z (And.intro D_y (And.intro q_y (And.intro D_v (And.intro S_1 (And.intro S_2 hB)))))))))))))))
  clear q_d q_s q_t D_d S_s S_t B_l D_x q_x D_z D_y q_y D_v S_1 S_2 hB
  have c_q_d0 := LK.cell HQ.out.1 0
  have c_q_d1 := LK.cell HQ.out.1 1
  have c_q_s0 := LK.cell HQ.out.2.1 0
  have c_q_s1 := LK.cell HQ.out.2.1 1
  have c_q_s2 := LK.cell HQ.out.2.1 2
  have c_q_s3 := LK.cell HQ.out.2.1 3
  have c_q_s4 := LK.cell HQ.out.2.1 4
  have c_q_t0 := LK.cell HQ.out.2.2.1 0
  have c_q_t1 := LK.cell HQ.out.2.2.1 1
  have c_q_t2 := LK.cell HQ.out.2.2.1 2
  have c_q_t3 := LK.cell HQ.out.2.2.1 3
  have c_q_t4 := LK.cell HQ.out.2.2.1 4
  have c_q_x0 := LK.cell HQ.out.2.2.2.2.2.2.2.2.1 0
  have c_q_x1 := LK.cell HQ.out.2.2.2.2.2.2.2.2.1 1
  have c_q_y0 := LK.cell HQ.out.2.2.2.2.2.2.2.2.2.2.2.1 0
  have c_q_y1 := LK.cell HQ.out.2.2.2.2.2.2.2.2.2.2.2.1 1
  simp at c_q_d0 c_q_d1 c_q_s0 c_q_s1 c_q_s2 c_q_s3 c_q_s4 c_q_t0 c_q_t1 c_q_t2 c_q_t3 c_q_t4 c_q_x0 c_q_x1 c_q_y0 c_q_y1
  go_wp2_with fail
  refine (HC.out.2.2.2.2.2.1 _ _ _ HQ.out.2.2.2.2.2.2.2.2.2.1.v HQ.out.2.2.2.2.2.1.v).mono ?_
  rintro e w13 ⟨b5, u5, rfl, hm⟩
  clear c_q_d0 c_q_d1 c_q_s0 c_q_s1 c_q_s2 c_q_s3 c_q_s4 c_q_t0 c_q_t1 c_q_t2 c_q_t3 c_q_t4 c_q_x0 c_q_x1 c_q_y0 c_q_y1
  obtain ⟨q_d, q_s, q_t, D_d, S_s, S_t, B_l, D_x, q_x, D_z, D_y, q_y, D_v, S_1, S_2, hB⟩ := HQ.out
  clear HQ
  have D_r := LT.of hm
  have hst := hm.below
  obtain ⟨ab_r, cb_r, rfl, -, -, -, -⟩ := hm.v0.1
  obtain ⟨au_r, cu_r, rfl, -, -, -, -⟩ := hm.v0.2
  clear hm
  have sz_w13 : wc.heap.size ≤ w13.heap.size := hst.size
  replace q_d := q_d.step hst
  replace q_s := q_s.step hst
  replace q_t := q_t.step hst
  replace D_d := D_d.step hst
  replace S_s := S_s.step hst
  replace S_t := S_t.step hst
  replace B_l := B_l.step hst
  replace D_x := D_x.step hst
  replace q_x := q_x.step hst
  replace D_z := D_z.step hst
  replace D_y := D_y.step hst
  replace q_y := q_y.step hst
  replace D_v := D_v.step hst
  replace S_1 := S_1.step hst
  replace S_2 := S_2.step hst
  replace hB := hB.step hst
  clear hst
  have HQ := Lib.hid (And.intro q_d (And.intro q_s (And.intro q_t (And.intro D_d (And.intro S_s (And.intro S_t (And.intro B_l (And.intro D_x (And.intro q_x (And.intro D_z (And.intro D_y (And.intro q_y (And.intro D_v (And.intro S_1 (And.intro S_2 (And.intro D_r hB))))))))))))))))
  clear q_d q_s q_t D_d S_s S_t B_l D_x q_x D_z D_y q_y D_v S_1 S_2 D_r hB
  have c_q_d0 := LK.cell HQ.out.1 0
  have c_q_d1 := LK.cell HQ.out.1 1
  have c_q_s0 := LK.cell HQ.out.2.1 0
  have c_q_s1 := LK.cell HQ.out.2.1 1
  have c_q_s2 := LK.cell HQ.out.2.1 2
  have c_q_s3 := LK.cell HQ.out.2.1 3
  have c_q_s4 := LK.cell HQ.out.2.1 4
  have c_q_t0 := LK.cell HQ.out.2.2.1 0
  have c_q_t1 := LK.cell HQ.out.2.2.1 1
  have c_q_t2 := LK.cell HQ.out.2.2.1 2
  have c_q_t3 := LK.cell HQ.out.2.2.1 3
  have c_q_t4 := LK.cell HQ.out.2.2.1 4
  have c_q_x0 := LK.cell HQ.out.2.2.2.2.2.2.2.2.1 0
  have c_q_x1 := LK.cell HQ.out.2.2.2.2.2.2.2.2.1 1
  have c_q_y0 := LK.cell HQ.out.2.2.2.2.2.2.2.2.2.2.2.1 0
  have c_q_y1 := LK.cell HQ.out.2.2.2.2.2.2.2.2.2.2.2.1 1
  simp at c_q_d0 c_q_d1 c_q_s0 c_q_s1 c_q_s2 c_q_s3 c_q_s4 c_q_t0 c_q_t1 c_q_t2 c_q_t3 c_q_t4 c_q_x0 c_q_x1 c_q_y0 c_q_y1
  go_upto_region 15 with (fail)
  clear c_q_d0 c_q_d1 c_q_s0 c_q_s1 c_q_s2 c_q_s3 c_q_s4 c_q_t0 c_q_t1 c_q_t2 c_q_t3 c_q_t4 c_q_x0 c_q_x1 c_q_y0 c_q_y1
  obtain ⟨q_d, q_s, q_t, D_d, S_s, S_t, B_l, D_x, q_x, D_z, D_y, q_y, D_v, S_1, S_2, D_r, hB⟩ := HQ.out
  clear HQ
  have hst := (Below.refl w13.heap.size w13).alloc (Nat.le_refl _) (.cells #[.slice ab_r A.blocks.length cb_r, .slice au_r A.waits.length cu_r] 44)
  have hlt : w13.heap.size < (w13.alloc (.cells #[.slice ab_r A.blocks.length cb_r, .slice au_r A.waits.length cu_r] 44)).heap.size := by simp
  have q_r := LK.new w13 (.cells #[.slice ab_r A.blocks.length cb_r, .slice au_r A.waits.length cu_r] 44)
  replace q_d := q_d.step hst
  replace q_s := q_s.step hst
  replace q_t := q_t.step hst
  replace D_d := D_d.step hst
  replace S_s := S_s.step hst
  replace S_t := S_t.step hst
  replace B_l := B_l.step hst
  replace D_x := D_x.step hst
  replace q_x := q_x.step hst
  replace D_z := D_z.step hst
  replace D_y := D_y.step hst
  replace q_y := q_y.step hst
  replace D_v := D_v.step hst
  replace S_1 := S_1.step hst
  replace S_2 := S_2.step hst
  replace D_r := D_r.step hst
  replace hB := hB.step hst
  obtain ⟨w14, hw⟩ : ∃ v, w13.alloc (.cells #[.slice ab_r A.blocks.length cb_r, .slice au_r A.waits.length cu_r] 44) = v := ⟨_, rfl⟩
  rw [hw] at hlt q_r q_d q_s q_t D_d S_s S_t B_l D_x q_x D_z D_y q_y D_v S_1 S_2 D_r hB ⊢
  clear hw hst
  have sz_w14 := hlt
  clear hlt
  have HQ := Lib.hid (And.intro q_d (And.intro q_s (And.intro q_t (And.intro D_d (And.intro S_s (And.intro S_t (And.intro B_l (And.intro D_x (And.intro q_x (And.intro D_z (And.intro D_y (And.intro q_y (And.intro D_v (And.intro S_1 (And.intro S_2 (And.intro D_r (And.intro q_r hB)))))))))))))))))
  clear q_d q_s q_t D_d S_s S_t B_l D_x q_x D_z D_y q_y D_v S_1 S_2 D_r q_r hB
  have c_q_d0 := LK.cell HQ.out.1 0
  have c_q_d1 := LK.cell HQ.out.1 1
  have c_q_s0 := LK.cell HQ.out.2.1 0
  have c_q_s1 := LK.cell HQ.out.2.1 1
  have c_q_s2 := LK.cell HQ.out.2.1 2
  have c_q_s3 := LK.cell HQ.out.2.1 3
  have c_q_s4 := LK.cell HQ.out.2.1 4
  have c_q_t0 := LK.cell HQ.out.2.2.1 0
  have c_q_t1 := LK.cell HQ.out.2.2.1 1
  have c_q_t2 := LK.cell HQ.out.2.2.1 2
  have c_q_t3 := LK.cell HQ.out.2.2.1 3
  have c_q_t4 := LK.cell HQ.out.2.2.1 4
  have c_q_x0 := LK.cell HQ.out.2.2.2.2.2.2.2.2.1 0
  have c_q_x1 := LK.cell HQ.out.2.2.2.2.2.2.2.2.1 1
  have c_q_y0 := LK.cell HQ.out.2.2.2.2.2.2.2.2.2.2.2.1 0
  have c_q_y1 := LK.cell HQ.out.2.2.2.2.2.2.2.2.2.2.2.1 1
  have c_q_r0 := LK.cell HQ.out.2.2.2.2.2.2.2.2.2.2.2.2.2.2.2.2.1 0
  have c_q_r1 := LK.cell HQ.out.2.2.2.2.2.2.2.2.2.2.2.2.2.2.2.2.1 1
  simp at c_q_d0 c_q_d1 c_q_s0 c_q_s1 c_q_s2 c_q_s3 c_q_s4 c_q_t0 c_q_t1 c_q_t2 c_q_t3 c_q_t4 c_q_x0 c_q_x1 c_q_y0 c_q_y1 c_q_r0 c_q_r1
  go_wp2_with fail
  refine (HC.out.2.2.2.2.2.2.2.2.2.1 _ _ _ HQ.out.2.2.2.2.2.2.2.2.2.2.2.2.2.2.2.1.v).mono ?_
  rintro e w15 ⟨v_3, rfl, hm⟩
  clear c_q_d0 c_q_d1 c_q_s0 c_q_s1 c_q_s2 c_q_s3 c_q_s4 c_q_t0 c_q_t1 c_q_t2 c_q_t3 c_q_t4 c_q_x0 c_q_x1 c_q_y0 c_q_y1 c_q_r0 c_q_r1
  obtain ⟨q_d, q_s, q_t, D_d, S_s, S_t, B_l, D_x, q_x, D_z, D_y, q_y, D_v, S_1, S_2, D_r, q_r, hB⟩ := HQ.out
  clear HQ
  have S_3 := LS.of hm.row (Nat.le_refl _)
  have hst := hm.below
  obtain ⟨a_3, c_3, rfl, -, -, -, -⟩ := id hm.row
  clear hm
  have sz_w15 : w14.heap.size ≤ w15.heap.size := hst.size
  replace q_d := q_d.step hst
  replace q_s := q_s.step hst
  replace q_t := q_t.step hst
  replace D_d := D_d.step hst
  replace S_s := S_s.step hst
  replace S_t := S_t.step hst
  replace B_l := B_l.step hst
  replace D_x := D_x.step hst
  replace q_x := q_x.step hst
  replace D_z := D_z.step hst
  replace D_y := D_y.step hst
  replace q_y := q_y.step hst
  replace D_v := D_v.step hst
  replace S_1 := S_1.step hst
  replace S_2 := S_2.step hst
  replace D_r := D_r.step hst
  replace q_r := q_r.step hst
  replace hB := hB.step hst
  clear hst
  have HQ := Lib.hid (And.intro q_d (And.intro q_s (And.intro q_t (And.intro D_d (And.intro S_s (And.intro S_t (And.intro B_l (And.intro D_x (And.intro q_x (And.intro D_z (And.intro D_y (And.intro q_y (And.intro D_v (And.intro S_1 (And.intro S_2 (And.intro D_r (And.intro q_r (And.intro S_3 hB))))))))))))))))))
  clear q_d q_s q_t D_d S_s S_t B_l D_x q_x D_z D_y q_y D_v S_1 S_2 D_r q_r S_3 hB
  have c_q_d0 := LK.cell HQ.out.1 0
  have c_q_d1 := LK.cell HQ.out.1 1
  have c_q_s0 := LK.cell HQ.out.2.1 0
  have c_q_s1 := LK.cell HQ.out.2.1 1
  have c_q_s2 := LK.cell HQ.out.2.1 2
  have c_q_s3 := LK.cell HQ.out.2.1 3
  have c_q_s4 := LK.cell HQ.out.2.1 4
  have c_q_t0 := LK.cell HQ.out.2.2.1 0
  have c_q_t1 := LK.cell HQ.out.2.2.1 1
  have c_q_t2 := LK.cell HQ.out.2.2.1 2
  have c_q_t3 := LK.cell HQ.out.2.2.1 3
  have c_q_t4 := LK.cell HQ.out.2.2.1 4
  have c_q_x0 := LK.cell HQ.out.2.2.2.2.2.2.2.2.1 0
  have c_q_x1 := LK.cell HQ.out.2.2.2.2.2.2.2.2.1 1
  have c_q_y0 := LK.cell HQ.out.2.2.2.2.2.2.2.2.2.2.2.1 0
  have c_q_y1 := LK.cell HQ.out.2.2.2.2.2.2.2.2.2.2.2.1 1
  have c_q_r0 := LK.cell HQ.out.2.2.2.2.2.2.2.2.2.2.2.2.2.2.2.2.1 0
  have c_q_r1 := LK.cell HQ.out.2.2.2.2.2.2.2.2.2.2.2.2.2.2.2.2.1 1
  simp at c_q_d0 c_q_d1 c_q_s0 c_q_s1 c_q_s2 c_q_s3 c_q_s4 c_q_t0 c_q_t1 c_q_t2 c_q_t3 c_q_t4 c_q_x0 c_q_x1 c_q_y0 c_q_y1 c_q_r0 c_q_r1
  by_cases h7 : e7 = 0
  case neg =>
    have i5 : (e7 == 0) = false := by simp [h7]
    go_wp2_with fail
    refine (HC.out.2.2.2.2.2.2.1 _ _ _ HQ.out.2.2.2.2.2.2.2.2.2.1.v HQ.out.2.2.2.2.2.2.1.v).mono ?_
    rintro e w16 ⟨b6, u6, rfl, hm⟩
    clear c_q_d0 c_q_d1 c_q_s0 c_q_s1 c_q_s2 c_q_s3 c_q_s4 c_q_t0 c_q_t1 c_q_t2 c_q_t3 c_q_t4 c_q_x0 c_q_x1 c_q_y0 c_q_y1 c_q_r0 c_q_r1
    obtain ⟨q_d, q_s, q_t, D_d, S_s, S_t, B_l, D_x, q_x, D_z, D_y, q_y, D_v, S_1, S_2, D_r, q_r, S_3, hB⟩ := HQ.out
    clear HQ
    have D_w := LT.of hm
    have hst := hm.below
    obtain ⟨ab_w, cb_w, rfl, -, -, -, -⟩ := hm.v0.1
    obtain ⟨au_w, cu_w, rfl, -, -, -, -⟩ := hm.v0.2
    clear hm
    have sz_w16 : w15.heap.size ≤ w16.heap.size := hst.size
    replace q_d := q_d.step hst
    replace q_s := q_s.step hst
    replace q_t := q_t.step hst
    replace D_d := D_d.step hst
    replace S_s := S_s.step hst
    replace S_t := S_t.step hst
    replace B_l := B_l.step hst
    replace D_x := D_x.step hst
    replace q_x := q_x.step hst
    replace D_z := D_z.step hst
    replace D_y := D_y.step hst
    replace q_y := q_y.step hst
    replace D_v := D_v.step hst
    replace S_1 := S_1.step hst
    replace S_2 := S_2.step hst
    replace D_r := D_r.step hst
    replace q_r := q_r.step hst
    replace S_3 := S_3.step hst
    replace hB := hB.step hst
    clear hst
    have HQ := Lib.hid (And.intro q_d (And.intro q_s (And.intro q_t (And.intro D_d (And.intro S_s (And.intro S_t (And.intro B_l (And.intro D_x (And.intro q_x (And.intro D_z (And.intro D_y (And.intro q_y (And.intro D_v (And.intro S_1 (And.intro S_2 (And.intro D_r (And.intro q_r (And.intro S_3 (And.intro D_w hB)))))))))))))))))))
    clear q_d q_s q_t D_d S_s S_t B_l D_x q_x D_z D_y q_y D_v S_1 S_2 D_r q_r S_3 D_w hB
    have c_q_d0 := LK.cell HQ.out.1 0
    have c_q_d1 := LK.cell HQ.out.1 1
    have c_q_s0 := LK.cell HQ.out.2.1 0
    have c_q_s1 := LK.cell HQ.out.2.1 1
    have c_q_s2 := LK.cell HQ.out.2.1 2
    have c_q_s3 := LK.cell HQ.out.2.1 3
    have c_q_s4 := LK.cell HQ.out.2.1 4
    have c_q_t0 := LK.cell HQ.out.2.2.1 0
    have c_q_t1 := LK.cell HQ.out.2.2.1 1
    have c_q_t2 := LK.cell HQ.out.2.2.1 2
    have c_q_t3 := LK.cell HQ.out.2.2.1 3
    have c_q_t4 := LK.cell HQ.out.2.2.1 4
    have c_q_x0 := LK.cell HQ.out.2.2.2.2.2.2.2.2.1 0
    have c_q_x1 := LK.cell HQ.out.2.2.2.2.2.2.2.2.1 1
    have c_q_y0 := LK.cell HQ.out.2.2.2.2.2.2.2.2.2.2.2.1 0
    have c_q_y1 := LK.cell HQ.out.2.2.2.2.2.2.2.2.2.2.2.1 1
    have c_q_r0 := LK.cell HQ.out.2.2.2.2.2.2.2.2.2.2.2.2.2.2.2.2.1 0
    have c_q_r1 := LK.cell HQ.out.2.2.2.2.2.2.2.2.2.2.2.2.2.2.2.2.1 1
    simp at c_q_d0 c_q_d1 c_q_s0 c_q_s1 c_q_s2 c_q_s3 c_q_s4 c_q_t0 c_q_t1 c_q_t2 c_q_t3 c_q_t4 c_q_x0 c_q_x1 c_q_y0 c_q_y1 c_q_r0 c_q_r1
    go_upto_region 19 with (fail)
    clear c_q_d0 c_q_d1 c_q_s0 c_q_s1 c_q_s2 c_q_s3 c_q_s4 c_q_t0 c_q_t1 c_q_t2 c_q_t3 c_q_t4 c_q_x0 c_q_x1 c_q_y0 c_q_y1 c_q_r0 c_q_r1
    obtain ⟨q_d, q_s, q_t, D_d, S_s, S_t, B_l, D_x, q_x, D_z, D_y, q_y, D_v, S_1, S_2, D_r, q_r, S_3, D_w, hB⟩ := HQ.out
    clear HQ
    have hst := (Below.refl w16.heap.size w16).alloc (Nat.le_refl _) (.cells #[.slice ab_w W.blocks.length cb_w, .slice au_w W.waits.length cu_w] 44)
    have hlt : w16.heap.size < (w16.alloc (.cells #[.slice ab_w W.blocks.length cb_w, .slice au_w W.waits.length cu_w] 44)).heap.size := by simp
    have q_w := LK.new w16 (.cells #[.slice ab_w W.blocks.length cb_w, .slice au_w W.waits.length cu_w] 44)
    replace q_d := q_d.step hst
    replace q_s := q_s.step hst
    replace q_t := q_t.step hst
    replace D_d := D_d.step hst
    replace S_s := S_s.step hst
    replace S_t := S_t.step hst
    replace B_l := B_l.step hst
    replace D_x := D_x.step hst
    replace q_x := q_x.step hst
    replace D_z := D_z.step hst
    replace D_y := D_y.step hst
    replace q_y := q_y.step hst
    replace D_v := D_v.step hst
    replace S_1 := S_1.step hst
    replace S_2 := S_2.step hst
    replace D_r := D_r.step hst
    replace q_r := q_r.step hst
    replace S_3 := S_3.step hst
    replace D_w := D_w.step hst
    replace hB := hB.step hst
    obtain ⟨w17, hw⟩ : ∃ v, w16.alloc (.cells #[.slice ab_w W.blocks.length cb_w, .slice au_w W.waits.length cu_w] 44) = v := ⟨_, rfl⟩
    rw [hw] at hlt q_w q_d q_s q_t D_d S_s S_t B_l D_x q_x D_z D_y q_y D_v S_1 S_2 D_r q_r S_3 D_w hB ⊢
    clear hw hst
    have sz_w17 := hlt
    clear hlt
    have HQ := Lib.hid (And.intro q_d (And.intro q_s (And.intro q_t (And.intro D_d (And.intro S_s (And.intro S_t (And.intro B_l (And.intro D_x (And.intro q_x (And.intro D_z (And.intro D_y (And.intro q_y (And.intro D_v (And.intro S_1 (And.intro S_2 (And.intro D_r (And.intro q_r (And.intro S_3 (And.intro D_w (And.intro q_w hB))))))))))))))))))))
    clear q_d q_s q_t D_d S_s S_t B_l D_x q_x D_z D_y q_y D_v S_1 S_2 D_r q_r S_3 D_w q_w hB
    have c_q_d0 := LK.cell HQ.out.1 0
    have c_q_d1 := LK.cell HQ.out.1 1
    have c_q_s0 := LK.cell HQ.out.2.1 0
    have c_q_s1 := LK.cell HQ.out.2.1 1
    have c_q_s2 := LK.cell HQ.out.2.1 2
    have c_q_s3 := LK.cell HQ.out.2.1 3
    have c_q_s4 := LK.cell HQ.out.2.1 4
    have c_q_t0 := LK.cell HQ.out.2.2.1 0
    have c_q_t1 := LK.cell HQ.out.2.2.1 1
    have c_q_t2 := LK.cell HQ.out.2.2.1 2
    have c_q_t3 := LK.cell HQ.out.2.2.1 3
    have c_q_t4 := LK.cell HQ.out.2.2.1 4
    have c_q_x0 := LK.cell HQ.out.2.2.2.2.2.2.2.2.1 0
    have c_q_x1 := LK.cell HQ.out.2.2.2.2.2.2.2.2.1 1
    have c_q_y0 := LK.cell HQ.out.2.2.2.2.2.2.2.2.2.2.2.1 0
    have c_q_y1 := LK.cell HQ.out.2.2.2.2.2.2.2.2.2.2.2.1 1
    have c_q_r0 := LK.cell HQ.out.2.2.2.2.2.2.2.2.2.2.2.2.2.2.2.2.1 0
    have c_q_r1 := LK.cell HQ.out.2.2.2.2.2.2.2.2.2.2.2.2.2.2.2.2.1 1
    have c_q_w0 := LK.cell HQ.out.2.2.2.2.2.2.2.2.2.2.2.2.2.2.2.2.2.2.2.1 0
    have c_q_w1 := LK.cell HQ.out.2.2.2.2.2.2.2.2.2.2.2.2.2.2.2.2.2.2.2.1 1
    simp at c_q_d0 c_q_d1 c_q_s0 c_q_s1 c_q_s2 c_q_s3 c_q_s4 c_q_t0 c_q_t1 c_q_t2 c_q_t3 c_q_t4 c_q_x0 c_q_x1 c_q_y0 c_q_y1 c_q_r0 c_q_r1 c_q_w0 c_q_w1
    by_cases h9 : e9 = 0
    case neg =>
      have i5 : (e9 != 0) = true := by simp [h9]
      go_wp2
      go_ret
      exact ⟨rfl, HQ.out.2.2.2.2.2.2.2.2.2.2.2.2.2.2.2.2.2.2.2.2⟩
    subst h9
    by_cases hp : p < 4
    · skip
      go_wp2
      go_ret
      exact ⟨rfl, HQ.out.2.2.2.2.2.2.2.2.2.2.2.2.2.2.2.2.2.2.2.2⟩
    have i6 : decide (p < 4) = false := by simp; omega
    obtain ⟨t5, t6⟩ := HN.out.2.2.2.2 (by trivial) (by trivial) (by omega)
    subst t5 t6
    go_wp2_with fail
    refine (HC.out.2.2.2.2.2.2.2.2.2.2.1 _ _ _ HQ.out.2.2.2.2.2.2.2.2.2.2.2.2.2.2.2.2.2.2.1.v).mono ?_
    rintro e w18 ⟨v_4, rfl, hm⟩
    clear c_q_d0 c_q_d1 c_q_s0 c_q_s1 c_q_s2 c_q_s3 c_q_s4 c_q_t0 c_q_t1 c_q_t2 c_q_t3 c_q_t4 c_q_x0 c_q_x1 c_q_y0 c_q_y1 c_q_r0 c_q_r1 c_q_w0 c_q_w1
    obtain ⟨q_d, q_s, q_t, D_d, S_s, S_t, B_l, D_x, q_x, D_z, D_y, q_y, D_v, S_1, S_2, D_r, q_r, S_3, D_w, q_w, hB⟩ := HQ.out
    clear HQ
    have S_4 := LS.of hm.row (Nat.le_refl _)
    have hst := hm.below
    obtain ⟨a_4, c_4, rfl, -, -, -, -⟩ := id hm.row
    clear hm
    have sz_w18 : w17.heap.size ≤ w18.heap.size := hst.size
    replace q_d := q_d.step hst
    replace q_s := q_s.step hst
    replace q_t := q_t.step hst
    replace D_d := D_d.step hst
    replace S_s := S_s.step hst
    replace S_t := S_t.step hst
    replace B_l := B_l.step hst
    replace D_x := D_x.step hst
    replace q_x := q_x.step hst
    replace D_z := D_z.step hst
    replace D_y := D_y.step hst
    replace q_y := q_y.step hst
    replace D_v := D_v.step hst
    replace S_1 := S_1.step hst
    replace S_2 := S_2.step hst
    replace D_r := D_r.step hst
    replace q_r := q_r.step hst
    replace S_3 := S_3.step hst
    replace D_w := D_w.step hst
    replace q_w := q_w.step hst
    replace hB := hB.step hst
    clear hst
    have HQ := Lib.hid (And.intro q_d (And.intro q_s (And.intro q_t (And.intro D_d (And.intro S_s (And.intro S_t (And.intro B_l (And.intro D_x (And.intro q_x (And.intro D_z (And.intro D_y (And.intro q_y (And.intro D_v (And.intro S_1 (And.intro S_2 (And.intro D_r (And.intro q_r (And.intro S_3 (And.intro D_w (And.intro q_w (And.intro S_4 hB)))))))))))))))))))))
    clear q_d q_s q_t D_d S_s S_t B_l D_x q_x D_z D_y q_y D_v S_1 S_2 D_r q_r S_3 D_w q_w S_4 hB
    have c_q_d0 := LK.cell HQ.out.1 0
    have c_q_d1 := LK.cell HQ.out.1 1
    have c_q_s0 := LK.cell HQ.out.2.1 0
    have c_q_s1 := LK.cell HQ.out.2.1 1
    have c_q_s2 := LK.cell HQ.out.2.1 2
    have c_q_s3 := LK.cell HQ.out.2.1 3
    have c_q_s4 := LK.cell HQ.out.2.1 4
    have c_q_t0 := LK.cell HQ.out.2.2.1 0
    have c_q_t1 := LK.cell HQ.out.2.2.1 1
    have c_q_t2 := LK.cell HQ.out.2.2.1 2
    have c_q_t3 := LK.cell HQ.out.2.2.1 3
    have c_q_t4 := LK.cell HQ.out.2.2.1 4
    have c_q_x0 := LK.cell HQ.out.2.2.2.2.2.2.2.2.1 0
    have c_q_x1 := LK.cell HQ.out.2.2.2.2.2.2.2.2.1 1
    have c_q_y0 := LK.cell HQ.out.2.2.2.2.2.2.2.2.2.2.2.1 0
    have c_q_y1 := LK.cell HQ.out.2.2.2.2.2.2.2.2.2.2.2.1 1
    have c_q_r0 := LK.cell HQ.out.2.2.2.2.2.2.2.2.2.2.2.2.2.2.2.2.1 0
    have c_q_r1 := LK.cell HQ.out.2.2.2.2.2.2.2.2.2.2.2.2.2.2.2.2.1 1
    have c_q_w0 := LK.cell HQ.out.2.2.2.2.2.2.2.2.2.2.2.2.2.2.2.2.2.2.2.1 0
    have c_q_w1 := LK.cell HQ.out.2.2.2.2.2.2.2.2.2.2.2.2.2.2.2.2.2.2.2.1 1
    simp at c_q_d0 c_q_d1 c_q_s0 c_q_s1 c_q_s2 c_q_s3 c_q_s4 c_q_t0 c_q_t1 c_q_t2 c_q_t3 c_q_t4 c_q_x0 c_q_x1 c_q_y0 c_q_y1 c_q_r0 c_q_r1 c_q_w0 c_q_w1
    go_wp2_with fail
    refine (HC.out.2.2.2.2.2.2.2.2.2.2.2.1 _ _ _ _ _ HQ.out.2.2.2.2.2.2.2.2.2.2.2.2.2.2.2.2.2.2.2.2.1.v HQ.out.2.2.2.2.2.2.2.2.2.2.2.2.2.1.v).mono ?_
    rintro e w19 ⟨rfl, hst⟩
    clear c_q_d0 c_q_d1 c_q_s0 c_q_s1 c_q_s2 c_q_s3 c_q_s4 c_q_t0 c_q_t1 c_q_t2 c_q_t3 c_q_t4 c_q_x0 c_q_x1 c_q_y0 c_q_y1 c_q_r0 c_q_r1 c_q_w0 c_q_w1
    obtain ⟨q_d, q_s, q_t, D_d, S_s, S_t, B_l, D_x, q_x, D_z, D_y, q_y, D_v, S_1, S_2, D_r, q_r, S_3, D_w, q_w, S_4, hB⟩ := HQ.out
    clear HQ
    have sz_w19 : w18.heap.size ≤ w19.heap.size := hst.size
    replace q_d := q_d.step hst
    replace q_s := q_s.step hst
    replace q_t := q_t.step hst
    replace D_d := D_d.step hst
    replace S_s := S_s.step hst
    replace S_t := S_t.step hst
    replace B_l := B_l.step hst
    replace D_x := D_x.step hst
    replace q_x := q_x.step hst
    replace D_z := D_z.step hst
    replace D_y := D_y.step hst
    replace q_y := q_y.step hst
    replace D_v := D_v.step hst
    replace S_1 := S_1.step hst
    replace S_2 := S_2.step hst
    replace D_r := D_r.step hst
    replace q_r := q_r.step hst
    replace S_3 := S_3.step hst
    replace D_w := D_w.step hst
    replace q_w := q_w.step hst
    replace S_4 := S_4.step hst
    replace hB := hB.step hst
    clear hst
    have HQ := Lib.hid (And.intro q_d (And.intro q_s (And.intro q_t (And.intro D_d (And.intro S_s (And.intro S_t (And.intro B_l (And.intro D_x (And.intro q_x (And.intro D_z (And.intro D_y (And.intro q_y (And.intro D_v (And.intro S_1 (And.intro S_2 (And.intro D_r (And.intro q_r (And.intro S_3 (And.intro D_w (And.intro q_w (And.intro S_4 hB)))))))))))))))))))))
    clear q_d q_s q_t D_d S_s S_t B_l D_x q_x D_z D_y q_y D_v S_1 S_2 D_r q_r S_3 D_w q_w S_4 hB
    have c_q_d0 := LK.cell HQ.out.1 0
    have c_q_d1 := LK.cell HQ.out.1 1
    have c_q_s0 := LK.cell HQ.out.2.1 0
    have c_q_s1 := LK.cell HQ.out.2.1 1
    have c_q_s2 := LK.cell HQ.out.2.1 2
    have c_q_s3 := LK.cell HQ.out.2.1 3
    have c_q_s4 := LK.cell HQ.out.2.1 4
    have c_q_t0 := LK.cell HQ.out.2.2.1 0
    have c_q_t1 := LK.cell HQ.out.2.2.1 1
    have c_q_t2 := LK.cell HQ.out.2.2.1 2
    have c_q_t3 := LK.cell HQ.out.2.2.1 3
    have c_q_t4 := LK.cell HQ.out.2.2.1 4
    have c_q_x0 := LK.cell HQ.out.2.2.2.2.2.2.2.2.1 0
    have c_q_x1 := LK.cell HQ.out.2.2.2.2.2.2.2.2.1 1
    have c_q_y0 := LK.cell HQ.out.2.2.2.2.2.2.2.2.2.2.2.1 0
    have c_q_y1 := LK.cell HQ.out.2.2.2.2.2.2.2.2.2.2.2.1 1
    have c_q_r0 := LK.cell HQ.out.2.2.2.2.2.2.2.2.2.2.2.2.2.2.2.2.1 0
    have c_q_r1 := LK.cell HQ.out.2.2.2.2.2.2.2.2.2.2.2.2.2.2.2.2.1 1
    have c_q_w0 := LK.cell HQ.out.2.2.2.2.2.2.2.2.2.2.2.2.2.2.2.2.2.2.2.1 0
    have c_q_w1 := LK.cell HQ.out.2.2.2.2.2.2.2.2.2.2.2.2.2.2.2.2.2.2.2.1 1
    simp at c_q_d0 c_q_d1 c_q_s0 c_q_s1 c_q_s2 c_q_s3 c_q_s4 c_q_t0 c_q_t1 c_q_t2 c_q_t3 c_q_t4 c_q_x0 c_q_x1 c_q_y0 c_q_y1 c_q_r0 c_q_r1 c_q_w0 c_q_w1
    go_wp2
    go_ret
    exact ⟨rfl, HQ.out.2.2.2.2.2.2.2.2.2.2.2.2.2.2.2.2.2.2.2.2.2⟩
  subst h7
  obtain ⟨t3, t4⟩ := HN.out.2.2.2.1 (by trivial) (by trivial)
  subst t3 t4
  go_wp2_with fail
  refine (HC.out.2.2.2.2.2.2.2.2.2.2.2.1 _ _ _ _ _ HQ.out.2.2.2.2.2.2.2.2.2.2.2.2.2.2.2.2.2.1.v HQ.out.2.2.2.2.2.2.2.2.2.2.2.2.2.1.v).mono ?_
  rintro e w16 ⟨rfl, hst⟩
  clear c_q_d0 c_q_d1 c_q_s0 c_q_s1 c_q_s2 c_q_s3 c_q_s4 c_q_t0 c_q_t1 c_q_t2 c_q_t3 c_q_t4 c_q_x0 c_q_x1 c_q_y0 c_q_y1 c_q_r0 c_q_r1
  obtain ⟨q_d, q_s, q_t, D_d, S_s, S_t, B_l, D_x, q_x, D_z, D_y, q_y, D_v, S_1, S_2, D_r, q_r, S_3, hB⟩ := HQ.out
  clear HQ
  have sz_w16 : w15.heap.size ≤ w16.heap.size := hst.size
  replace q_d := q_d.step hst
  replace q_s := q_s.step hst
  replace q_t := q_t.step hst
  replace D_d := D_d.step hst
  replace S_s := S_s.step hst
  replace S_t := S_t.step hst
  replace B_l := B_l.step hst
  replace D_x := D_x.step hst
  replace q_x := q_x.step hst
  replace D_z := D_z.step hst
  replace D_y := D_y.step hst
  replace q_y := q_y.step hst
  replace D_v := D_v.step hst
  replace S_1 := S_1.step hst
  replace S_2 := S_2.step hst
  replace D_r := D_r.step hst
  replace q_r := q_r.step hst
  replace S_3 := S_3.step hst
  replace hB := hB.step hst
  clear hst
  have HQ := Lib.hid (And.intro q_d (And.intro q_s (And.intro q_t (And.intro D_d (And.intro S_s (And.intro S_t (And.intro B_l (And.intro D_x (And.intro q_x (And.intro D_z (And.intro D_y (And.intro q_y (And.intro D_v (And.intro S_1 (And.intro S_2 (And.intro D_r (And.intro q_r (And.intro S_3 hB))))))))))))))))))
  clear q_d q_s q_t D_d S_s S_t B_l D_x q_x D_z D_y q_y D_v S_1 S_2 D_r q_r S_3 hB
  have c_q_d0 := LK.cell HQ.out.1 0
  have c_q_d1 := LK.cell HQ.out.1 1
  have c_q_s0 := LK.cell HQ.out.2.1 0
  have c_q_s1 := LK.cell HQ.out.2.1 1
  have c_q_s2 := LK.cell HQ.out.2.1 2
  have c_q_s3 := LK.cell HQ.out.2.1 3
  have c_q_s4 := LK.cell HQ.out.2.1 4
  have c_q_t0 := LK.cell HQ.out.2.2.1 0
  have c_q_t1 := LK.cell HQ.out.2.2.1 1
  have c_q_t2 := LK.cell HQ.out.2.2.1 2
  have c_q_t3 := LK.cell HQ.out.2.2.1 3
  have c_q_t4 := LK.cell HQ.out.2.2.1 4
  have c_q_x0 := LK.cell HQ.out.2.2.2.2.2.2.2.2.1 0
  have c_q_x1 := LK.cell HQ.out.2.2.2.2.2.2.2.2.1 1
  have c_q_y0 := LK.cell HQ.out.2.2.2.2.2.2.2.2.2.2.2.1 0
  have c_q_y1 := LK.cell HQ.out.2.2.2.2.2.2.2.2.2.2.2.1 1
  have c_q_r0 := LK.cell HQ.out.2.2.2.2.2.2.2.2.2.2.2.2.2.2.2.2.1 0
  have c_q_r1 := LK.cell HQ.out.2.2.2.2.2.2.2.2.2.2.2.2.2.2.2.2.1 1
  simp at c_q_d0 c_q_d1 c_q_s0 c_q_s1 c_q_s2 c_q_s3 c_q_s4 c_q_t0 c_q_t1 c_q_t2 c_q_t3 c_q_t4 c_q_x0 c_q_x1 c_q_y0 c_q_y1 c_q_r0 c_q_r1
  go_wp2_with fail
  refine (HC.out.2.2.2.2.2.2.1 _ _ _ HQ.out.2.2.2.2.2.2.2.2.2.1.v HQ.out.2.2.2.2.2.2.1.v).mono ?_
  rintro e w17 ⟨b6, u6, rfl, hm⟩
  clear c_q_d0 c_q_d1 c_q_s0 c_q_s1 c_q_s2 c_q_s3 c_q_s4 c_q_t0 c_q_t1 c_q_t2 c_q_t3 c_q_t4 c_q_x0 c_q_x1 c_q_y0 c_q_y1 c_q_r0 c_q_r1
  obtain ⟨q_d, q_s, q_t, D_d, S_s, S_t, B_l, D_x, q_x, D_z, D_y, q_y, D_v, S_1, S_2, D_r, q_r, S_3, hB⟩ := HQ.out
  clear HQ
  have D_w := LT.of hm
  have hst := hm.below
  obtain ⟨ab_w, cb_w, rfl, -, -, -, -⟩ := hm.v0.1
  obtain ⟨au_w, cu_w, rfl, -, -, -, -⟩ := hm.v0.2
  clear hm
  have sz_w17 : w16.heap.size ≤ w17.heap.size := hst.size
  replace q_d := q_d.step hst
  replace q_s := q_s.step hst
  replace q_t := q_t.step hst
  replace D_d := D_d.step hst
  replace S_s := S_s.step hst
  replace S_t := S_t.step hst
  replace B_l := B_l.step hst
  replace D_x := D_x.step hst
  replace q_x := q_x.step hst
  replace D_z := D_z.step hst
  replace D_y := D_y.step hst
  replace q_y := q_y.step hst
  replace D_v := D_v.step hst
  replace S_1 := S_1.step hst
  replace S_2 := S_2.step hst
  replace D_r := D_r.step hst
  replace q_r := q_r.step hst
  replace S_3 := S_3.step hst
  replace hB := hB.step hst
  clear hst
  have HQ := Lib.hid (And.intro q_d (And.intro q_s (And.intro q_t (And.intro D_d (And.intro S_s (And.intro S_t (And.intro B_l (And.intro D_x (And.intro q_x (And.intro D_z (And.intro D_y (And.intro q_y (And.intro D_v (And.intro S_1 (And.intro S_2 (And.intro D_r (And.intro q_r (And.intro S_3 (And.intro D_w hB)))))))))))))))))))
  clear q_d q_s q_t D_d S_s S_t B_l D_x q_x D_z D_y q_y D_v S_1 S_2 D_r q_r S_3 D_w hB
  have c_q_d0 := LK.cell HQ.out.1 0
  have c_q_d1 := LK.cell HQ.out.1 1
  have c_q_s0 := LK.cell HQ.out.2.1 0
  have c_q_s1 := LK.cell HQ.out.2.1 1
  have c_q_s2 := LK.cell HQ.out.2.1 2
  have c_q_s3 := LK.cell HQ.out.2.1 3
  have c_q_s4 := LK.cell HQ.out.2.1 4
  have c_q_t0 := LK.cell HQ.out.2.2.1 0
  have c_q_t1 := LK.cell HQ.out.2.2.1 1
  have c_q_t2 := LK.cell HQ.out.2.2.1 2
  have c_q_t3 := LK.cell HQ.out.2.2.1 3
  have c_q_t4 := LK.cell HQ.out.2.2.1 4
  have c_q_x0 := LK.cell HQ.out.2.2.2.2.2.2.2.2.1 0
  have c_q_x1 := LK.cell HQ.out.2.2.2.2.2.2.2.2.1 1
  have c_q_y0 := LK.cell HQ.out.2.2.2.2.2.2.2.2.2.2.2.1 0
  have c_q_y1 := LK.cell HQ.out.2.2.2.2.2.2.2.2.2.2.2.1 1
  have c_q_r0 := LK.cell HQ.out.2.2.2.2.2.2.2.2.2.2.2.2.2.2.2.2.1 0
  have c_q_r1 := LK.cell HQ.out.2.2.2.2.2.2.2.2.2.2.2.2.2.2.2.2.1 1
  simp at c_q_d0 c_q_d1 c_q_s0 c_q_s1 c_q_s2 c_q_s3 c_q_s4 c_q_t0 c_q_t1 c_q_t2 c_q_t3 c_q_t4 c_q_x0 c_q_x1 c_q_y0 c_q_y1 c_q_r0 c_q_r1
  go_upto_region 19 with (fail)
  clear c_q_d0 c_q_d1 c_q_s0 c_q_s1 c_q_s2 c_q_s3 c_q_s4 c_q_t0 c_q_t1 c_q_t2 c_q_t3 c_q_t4 c_q_x0 c_q_x1 c_q_y0 c_q_y1 c_q_r0 c_q_r1
  obtain ⟨q_d, q_s, q_t, D_d, S_s, S_t, B_l, D_x, q_x, D_z, D_y, q_y, D_v, S_1, S_2, D_r, q_r, S_3, D_w, hB⟩ := HQ.out
  clear HQ
  have hst := (Below.refl w17.heap.size w17).alloc (Nat.le_refl _) (.cells #[.slice ab_w W.blocks.length cb_w, .slice au_w W.waits.length cu_w] 44)
  have hlt : w17.heap.size < (w17.alloc (.cells #[.slice ab_w W.blocks.length cb_w, .slice au_w W.waits.length cu_w] 44)).heap.size := by simp
  have q_w := LK.new w17 (.cells #[.slice ab_w W.blocks.length cb_w, .slice au_w W.waits.length cu_w] 44)
  replace q_d := q_d.step hst
  replace q_s := q_s.step hst
  replace q_t := q_t.step hst
  replace D_d := D_d.step hst
  replace S_s := S_s.step hst
  replace S_t := S_t.step hst
  replace B_l := B_l.step hst
  replace D_x := D_x.step hst
  replace q_x := q_x.step hst
  replace D_z := D_z.step hst
  replace D_y := D_y.step hst
  replace q_y := q_y.step hst
  replace D_v := D_v.step hst
  replace S_1 := S_1.step hst
  replace S_2 := S_2.step hst
  replace D_r := D_r.step hst
  replace q_r := q_r.step hst
  replace S_3 := S_3.step hst
  replace D_w := D_w.step hst
  replace hB := hB.step hst
  obtain ⟨w18, hw⟩ : ∃ v, w17.alloc (.cells #[.slice ab_w W.blocks.length cb_w, .slice au_w W.waits.length cu_w] 44) = v := ⟨_, rfl⟩
  rw [hw] at hlt q_w q_d q_s q_t D_d S_s S_t B_l D_x q_x D_z D_y q_y D_v S_1 S_2 D_r q_r S_3 D_w hB ⊢
  clear hw hst
  have sz_w18 := hlt
  clear hlt
  have HQ := Lib.hid (And.intro q_d (And.intro q_s (And.intro q_t (And.intro D_d (And.intro S_s (And.intro S_t (And.intro B_l (And.intro D_x (And.intro q_x (And.intro D_z (And.intro D_y (And.intro q_y (And.intro D_v (And.intro S_1 (And.intro S_2 (And.intro D_r (And.intro q_r (And.intro S_3 (And.intro D_w (And.intro q_w hB))))))))))))))))))))
  clear q_d q_s q_t D_d S_s S_t B_l D_x q_x D_z D_y q_y D_v S_1 S_2 D_r q_r S_3 D_w q_w hB
  have c_q_d0 := LK.cell HQ.out.1 0
  have c_q_d1 := LK.cell HQ.out.1 1
  have c_q_s0 := LK.cell HQ.out.2.1 0
  have c_q_s1 := LK.cell HQ.out.2.1 1
  have c_q_s2 := LK.cell HQ.out.2.1 2
  have c_q_s3 := LK.cell HQ.out.2.1 3
  have c_q_s4 := LK.cell HQ.out.2.1 4
  have c_q_t0 := LK.cell HQ.out.2.2.1 0
  have c_q_t1 := LK.cell HQ.out.2.2.1 1
  have c_q_t2 := LK.cell HQ.out.2.2.1 2
  have c_q_t3 := LK.cell HQ.out.2.2.1 3
  have c_q_t4 := LK.cell HQ.out.2.2.1 4
  have c_q_x0 := LK.cell HQ.out.2.2.2.2.2.2.2.2.1 0
  have c_q_x1 := LK.cell HQ.out.2.2.2.2.2.2.2.2.1 1
  have c_q_y0 := LK.cell HQ.out.2.2.2.2.2.2.2.2.2.2.2.1 0
  have c_q_y1 := LK.cell HQ.out.2.2.2.2.2.2.2.2.2.2.2.1 1
  have c_q_r0 := LK.cell HQ.out.2.2.2.2.2.2.2.2.2.2.2.2.2.2.2.2.1 0
  have c_q_r1 := LK.cell HQ.out.2.2.2.2.2.2.2.2.2.2.2.2.2.2.2.2.1 1
  have c_q_w0 := LK.cell HQ.out.2.2.2.2.2.2.2.2.2.2.2.2.2.2.2.2.2.2.2.1 0
  have c_q_w1 := LK.cell HQ.out.2.2.2.2.2.2.2.2.2.2.2.2.2.2.2.2.2.2.2.1 1
  simp at c_q_d0 c_q_d1 c_q_s0 c_q_s1 c_q_s2 c_q_s3 c_q_s4 c_q_t0 c_q_t1 c_q_t2 c_q_t3 c_q_t4 c_q_x0 c_q_x1 c_q_y0 c_q_y1 c_q_r0 c_q_r1 c_q_w0 c_q_w1
  by_cases h9 : e9 = 0
  case neg =>
    have i5 : (e9 != 0) = true := by simp [h9]
    go_wp2
    go_ret
    exact ⟨rfl, HQ.out.2.2.2.2.2.2.2.2.2.2.2.2.2.2.2.2.2.2.2.2⟩
  subst h9
  by_cases hp : p < 4
  · skip
    go_wp2
    go_ret
    exact ⟨rfl, HQ.out.2.2.2.2.2.2.2.2.2.2.2.2.2.2.2.2.2.2.2.2⟩
  have i6 : decide (p < 4) = false := by simp; omega
  obtain ⟨t5, t6⟩ := HN.out.2.2.2.2 (by trivial) (by trivial) (by omega)
  subst t5 t6
  go_wp2_with fail
  refine (HC.out.2.2.2.2.2.2.2.2.2.2.1 _ _ _ HQ.out.2.2.2.2.2.2.2.2.2.2.2.2.2.2.2.2.2.2.1.v).mono ?_
  rintro e w19 ⟨v_4, rfl, hm⟩
  clear c_q_d0 c_q_d1 c_q_s0 c_q_s1 c_q_s2 c_q_s3 c_q_s4 c_q_t0 c_q_t1 c_q_t2 c_q_t3 c_q_t4 c_q_x0 c_q_x1 c_q_y0 c_q_y1 c_q_r0 c_q_r1 c_q_w0 c_q_w1
  obtain ⟨q_d, q_s, q_t, D_d, S_s, S_t, B_l, D_x, q_x, D_z, D_y, q_y, D_v, S_1, S_2, D_r, q_r, S_3, D_w, q_w, hB⟩ := HQ.out
  clear HQ
  have S_4 := LS.of hm.row (Nat.le_refl _)
  have hst := hm.below
  obtain ⟨a_4, c_4, rfl, -, -, -, -⟩ := id hm.row
  clear hm
  have sz_w19 : w18.heap.size ≤ w19.heap.size := hst.size
  replace q_d := q_d.step hst
  replace q_s := q_s.step hst
  replace q_t := q_t.step hst
  replace D_d := D_d.step hst
  replace S_s := S_s.step hst
  replace S_t := S_t.step hst
  replace B_l := B_l.step hst
  replace D_x := D_x.step hst
  replace q_x := q_x.step hst
  replace D_z := D_z.step hst
  replace D_y := D_y.step hst
  replace q_y := q_y.step hst
  replace D_v := D_v.step hst
  replace S_1 := S_1.step hst
  replace S_2 := S_2.step hst
  replace D_r := D_r.step hst
  replace q_r := q_r.step hst
  replace S_3 := S_3.step hst
  replace D_w := D_w.step hst
  replace q_w := q_w.step hst
  replace hB := hB.step hst
  clear hst
  have HQ := Lib.hid (And.intro q_d (And.intro q_s (And.intro q_t (And.intro D_d (And.intro S_s (And.intro S_t (And.intro B_l (And.intro D_x (And.intro q_x (And.intro D_z (And.intro D_y (And.intro q_y (And.intro D_v (And.intro S_1 (And.intro S_2 (And.intro D_r (And.intro q_r (And.intro S_3 (And.intro D_w (And.intro q_w (And.intro S_4 hB)))))))))))))))))))))
  clear q_d q_s q_t D_d S_s S_t B_l D_x q_x D_z D_y q_y D_v S_1 S_2 D_r q_r S_3 D_w q_w S_4 hB
  have c_q_d0 := LK.cell HQ.out.1 0
  have c_q_d1 := LK.cell HQ.out.1 1
  have c_q_s0 := LK.cell HQ.out.2.1 0
  have c_q_s1 := LK.cell HQ.out.2.1 1
  have c_q_s2 := LK.cell HQ.out.2.1 2
  have c_q_s3 := LK.cell HQ.out.2.1 3
  have c_q_s4 := LK.cell HQ.out.2.1 4
  have c_q_t0 := LK.cell HQ.out.2.2.1 0
  have c_q_t1 := LK.cell HQ.out.2.2.1 1
  have c_q_t2 := LK.cell HQ.out.2.2.1 2
  have c_q_t3 := LK.cell HQ.out.2.2.1 3
  have c_q_t4 := LK.cell HQ.out.2.2.1 4
  have c_q_x0 := LK.cell HQ.out.2.2.2.2.2.2.2.2.1 0
  have c_q_x1 := LK.cell HQ.out.2.2.2.2.2.2.2.2.1 1
  have c_q_y0 := LK.cell HQ.out.2.2.2.2.2.2.2.2.2.2.2.1 0
  have c_q_y1 := LK.cell HQ.out.2.2.2.2.2.2.2.2.2.2.2.1 1
  have c_q_r0 := LK.cell HQ.out.2.2.2.2.2.2.2.2.2.2.2.2.2.2.2.2.1 0
  have c_q_r1 := LK.cell HQ.out.2.2.2.2.2.2.2.2.2.2.2.2.2.2.2.2.1 1
  have c_q_w0 := LK.cell HQ.out.2.2.2.2.2.2.2.2.2.2.2.2.2.2.2.2.2.2.2.1 0
  have c_q_w1 := LK.cell HQ.out.2.2.2.2.2.2.2.2.2.2.2.2.2.2.2.2.2.2.2.1 1
  simp at c_q_d0 c_q_d1 c_q_s0 c_q_s1 c_q_s2 c_q_s3 c_q_s4 c_q_t0 c_q_t1 c_q_t2 c_q_t3 c_q_t4 c_q_x0 c_q_x1 c_q_y0 c_q_y1 c_q_r0 c_q_r1 c_q_w0 c_q_w1
  go_wp2_with fail
  refine (HC.out.2.2.2.2.2.2.2.2.2.2.2.1 _ _ _ _ _ HQ.out.2.2.2.2.2.2.2.2.2.2.2.2.2.2.2.2.2.2.2.2.1.v HQ.out.2.2.2.2.2.2.2.2.2.2.2.2.2.1.v).mono ?_
  rintro e w20 ⟨rfl, hst⟩
  clear c_q_d0 c_q_d1 c_q_s0 c_q_s1 c_q_s2 c_q_s3 c_q_s4 c_q_t0 c_q_t1 c_q_t2 c_q_t3 c_q_t4 c_q_x0 c_q_x1 c_q_y0 c_q_y1 c_q_r0 c_q_r1 c_q_w0 c_q_w1
  obtain ⟨q_d, q_s, q_t, D_d, S_s, S_t, B_l, D_x, q_x, D_z, D_y, q_y, D_v, S_1, S_2, D_r, q_r, S_3, D_w, q_w, S_4, hB⟩ := HQ.out
  clear HQ
  have sz_w20 : w19.heap.size ≤ w20.heap.size := hst.size
  replace q_d := q_d.step hst
  replace q_s := q_s.step hst
  replace q_t := q_t.step hst
  replace D_d := D_d.step hst
  replace S_s := S_s.step hst
  replace S_t := S_t.step hst
  replace B_l := B_l.step hst
  replace D_x := D_x.step hst
  replace q_x := q_x.step hst
  replace D_z := D_z.step hst
  replace D_y := D_y.step hst
  replace q_y := q_y.step hst
  replace D_v := D_v.step hst
  replace S_1 := S_1.step hst
  replace S_2 := S_2.step hst
  replace D_r := D_r.step hst
  replace q_r := q_r.step hst
  replace S_3 := S_3.step hst
  replace D_w := D_w.step hst
  replace q_w := q_w.step hst
  replace S_4 := S_4.step hst
  replace hB := hB.step hst
  clear hst
  have HQ := Lib.hid (And.intro q_d (And.intro q_s (And.intro q_t (And.intro D_d (And.intro S_s (And.intro S_t (And.intro B_l (And.intro D_x (And.intro q_x (And.intro D_z (And.intro D_y (And.intro q_y (And.intro D_v (And.intro S_1 (And.intro S_2 (And.intro D_r (And.intro q_r (And.intro S_3 (And.intro D_w (And.intro q_w (And.intro S_4 hB)))))))))))))))))))))
  clear q_d q_s q_t D_d S_s S_t B_l D_x q_x D_z D_y q_y D_v S_1 S_2 D_r q_r S_3 D_w q_w S_4 hB
  have c_q_d0 := LK.cell HQ.out.1 0
  have c_q_d1 := LK.cell HQ.out.1 1
  have c_q_s0 := LK.cell HQ.out.2.1 0
  have c_q_s1 := LK.cell HQ.out.2.1 1
  have c_q_s2 := LK.cell HQ.out.2.1 2
  have c_q_s3 := LK.cell HQ.out.2.1 3
  have c_q_s4 := LK.cell HQ.out.2.1 4
  have c_q_t0 := LK.cell HQ.out.2.2.1 0
  have c_q_t1 := LK.cell HQ.out.2.2.1 1
  have c_q_t2 := LK.cell HQ.out.2.2.1 2
  have c_q_t3 := LK.cell HQ.out.2.2.1 3
  have c_q_t4 := LK.cell HQ.out.2.2.1 4
  have c_q_x0 := LK.cell HQ.out.2.2.2.2.2.2.2.2.1 0
  have c_q_x1 := LK.cell HQ.out.2.2.2.2.2.2.2.2.1 1
  have c_q_y0 := LK.cell HQ.out.2.2.2.2.2.2.2.2.2.2.2.1 0
  have c_q_y1 := LK.cell HQ.out.2.2.2.2.2.2.2.2.2.2.2.1 1
  have c_q_r0 := LK.cell HQ.out.2.2.2.2.2.2.2.2.2.2.2.2.2.2.2.2.1 0
  have c_q_r1 := LK.cell HQ.out.2.2.2.2.2.2.2.2.2.2.2.2.2.2.2.2.1 1
  have c_q_w0 := LK.cell HQ.out.2.2.2.2.2.2.2.2.2.2.2.2.2.2.2.2.2.2.2.1 0
  have c_q_w1 := LK.cell HQ.out.2.2.2.2.2.2.2.2.2.2.2.2.2.2.2.2.2.2.2.1 1
  simp at c_q_d0 c_q_d1 c_q_s0 c_q_s1 c_q_s2 c_q_s3 c_q_s4 c_q_t0 c_q_t1 c_q_t2 c_q_t3 c_q_t4 c_q_x0 c_q_x1 c_q_y0 c_q_y1 c_q_r0 c_q_r1 c_q_w0 c_q_w1
  go_wp2
  go_ret
  exact ⟨rfl, HQ.out.2.2.2.2.2.2.2.2.2.2.2.2.2.2.2.2.2.2.2.2.2⟩
end Go.Proofs.Ytcibihakjcenaaa

