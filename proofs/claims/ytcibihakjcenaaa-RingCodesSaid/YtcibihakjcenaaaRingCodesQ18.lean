/- RingCodes: the words and contracts, part 18. -/
import Derived.Test.YtcibihakjcenaaaRingCodesQ1
import Derived.Test.YtcibihakjcenaaaRingCodesQ2
import Derived.Test.YtcibihakjcenaaaRingCodesQ3
import Derived.Test.YtcibihakjcenaaaRingCodesQ4
import Derived.Test.YtcibihakjcenaaaRingCodesQ5
import Derived.Test.YtcibihakjcenaaaRingCodesQ6
import Derived.Test.YtcibihakjcenaaaRingCodesQ7
import Derived.Test.YtcibihakjcenaaaRingCodesQ8
import Derived.Test.YtcibihakjcenaaaRingCodesQ9
import Derived.Test.YtcibihakjcenaaaRingCodesQ10
import Derived.Test.YtcibihakjcenaaaRingCodesQ11
import Derived.Test.YtcibihakjcenaaaRingCodesQ12
import Derived.Test.YtcibihakjcenaaaRingCodesQ13
import Derived.Test.YtcibihakjcenaaaRingCodesQ14
import Derived.Test.YtcibihakjcenaaaRingCodesQ15
import Derived.Test.YtcibihakjcenaaaRingCodesQ16
import Derived.Test.YtcibihakjcenaaaRingCodesQ17
import Derived.WalkKit
import Derived.WalkLawsBesides
import Derived.WalkSpells
import Derived.Lib.Hide
import Derived.Laws.Rows
import Derived.Laws.AppendOwnNone
import Derived.Maps.AppendAt
import Derived.ProofKit
import Derived.Deep.Slices
import Derived.WideShapes
import Derived.RangeFuncNested
import Derived.RangeFuncBound
import Derived.RangeFuncCalls
import Derived.RangeFuncLeaves
import Derived.RangeFuncBox
import Derived.Shelf.Abstract
import Derived.Shelf.RegionOpen
import Derived.OwnWalkIn
import Derived.TacticsInMore
import Derived.LoopNIn
import Derived.LoopIn
import Derived.Lib.AppendZerosOnto
import Derived.Lib.SliceRun
import Derived.Lib.Walk
import Derived.Deep.LoopGhost
import Derived.Laws.CopyOwn
import Derived.Laws.CopyRow
import Derived.OrdersHeld
import Derived.Deep.QuietTactic
import Derived.BigQuiet
import Derived.StillTailTactics
import Derived.OpenShut
import Derived.Deep.DeepCutAuto
import Derived.Deep.RegionHeld
import Derived.Laws.MakeOwn
import Derived.KernelRfl
import Derived.BigFrameIn
import Derived.ShutString
import Derived.ChangeOld
import Derived.Below
import Derived.Shelf.SlSortCmp.SmallK
import Derived.Shelf.Small.Bits
namespace Go.Proofs.Ytcibihakjcenaaa
open Go.RowKit

set_option linter.unusedSimpArgs false
set_option maxRecDepth 100000 in
set_option maxHeartbeats 4000000 in
theorem ringCodes_walk (s : SupL) (u_s : Value) (o : SupL) (u_o : Value) (v_l : Value) (l : List UInt8) (w : World) (h_s : SupV w 0 w.heap.size u_s s) (h_o : SupV w 0 w.heap.size u_o o) (h_l : Bytes w 0 w.heap.size v_l l) :
    Calls Try.prog 3 #[.agg #[wV s.gen, .int .i64 s.root, wV s.next, wV s.table, u_s], .agg #[wV o.gen, .int .i64 o.root, wV o.next, wV o.table, u_o], v_l] w fun e w' => e = .returned (.bool true) ∧ Below w.heap.size w w' := by
  obtain ⟨s_g, s_r, s_n, s_t, s_d⟩ := s
  obtain ⟨hw_s, h_s⟩ := h_s
  dsimp only at hw_s h_s
  obtain ⟨a_s, c_s, rfl, g_s, gm_s, -, -⟩ := id h_s
  unfold maxLen at gm_s
  simp only [bV, wV]
  obtain ⟨o_g, o_r, o_n, o_t, o_d⟩ := o
  obtain ⟨hw_o, h_o⟩ := h_o
  dsimp only at hw_o h_o
  obtain ⟨a_o, c_o, rfl, g_o, gm_o, -, -⟩ := id h_o
  unfold maxLen at gm_o
  dsimp only
  obtain ⟨a_l, c_l, rfl, g_l, gm_l⟩ := h_l.form rfl
  unfold maxLen at gm_l
  have hst := (((Below.refl w.heap.size w).alloc (Nat.le_refl _) (.cells #[.int .u32 (s_g.toNat : Int), .int .i64 s_r, .int .u32 (s_n.toNat : Int), .int .u32 (s_t.toNat : Int), .slice a_s s_d.length c_s] 25)).alloc (by simp) (.cells #[.int .u32 (o_g.toNat : Int), .int .i64 o_r, .int .u32 (o_n.toNat : Int), .int .u32 (o_t.toNat : Int), .slice a_o o_d.length c_o] 25))
  have hq := two_new w (.cells #[.int .u32 (s_g.toNat : Int), .int .i64 s_r, .int .u32 (s_n.toNat : Int), .int .u32 (s_t.toNat : Int), .slice a_s s_d.length c_s] 25) (.cells #[.int .u32 (o_g.toNat : Int), .int .i64 o_r, .int .u32 (o_n.toNat : Int), .int .u32 (o_t.toNat : Int), .slice a_o o_d.length c_o] 25)
  have q_s := LK.of hq.1
  have q_o := LK.of hq.2
  have hB : LW w _ := hst
  have S_s := (LS.of h_s (Nat.le_refl _)).step hst
  have S_o := (LS.of h_o (Nat.le_refl _)).step hst
  have B_l := (LB.of h_l (Nat.le_refl _)).step hst
  have sz_V : w.heap.size + 1 < ((w.alloc (.cells #[.int .u32 (s_g.toNat : Int), .int .i64 s_r, .int .u32 (s_n.toNat : Int), .int .u32 (s_t.toNat : Int), .slice a_s s_d.length c_s] 25)).alloc (.cells #[.int .u32 (o_g.toNat : Int), .int .i64 o_r, .int .u32 (o_n.toNat : Int), .int .u32 (o_t.toNat : Int), .slice a_o o_d.length c_o] 25)).heap.size := by simp
  obtain ⟨V, hV⟩ : ∃ V, ((w.alloc (.cells #[.int .u32 (s_g.toNat : Int), .int .i64 s_r, .int .u32 (s_n.toNat : Int), .int .u32 (s_t.toNat : Int), .slice a_s s_d.length c_s] 25)).alloc (.cells #[.int .u32 (o_g.toNat : Int), .int .i64 o_r, .int .u32 (o_n.toNat : Int), .int .u32 (o_t.toNat : Int), .slice a_o o_d.length c_o] 25)) = V := ⟨_, rfl⟩
  rw [hV] at sz_V q_s q_o S_s S_o B_l hB
  clear hst h_s h_o h_l hq
  have HQ := Lib.hid (And.intro q_s (And.intro q_o (And.intro S_s (And.intro S_o (And.intro B_l hB)))))
  clear q_s q_o S_s S_o B_l hB
  have c_q_s0 := LK.cell HQ.out.1 0
  have c_q_s1 := LK.cell HQ.out.1 1
  have c_q_s2 := LK.cell HQ.out.1 2
  have c_q_s3 := LK.cell HQ.out.1 3
  have c_q_s4 := LK.cell HQ.out.1 4
  have c_q_o0 := LK.cell HQ.out.2.1 0
  have c_q_o1 := LK.cell HQ.out.2.1 1
  have c_q_o2 := LK.cell HQ.out.2.1 2
  have c_q_o3 := LK.cell HQ.out.2.1 3
  have c_q_o4 := LK.cell HQ.out.2.1 4
  simp at c_q_s0 c_q_s1 c_q_s2 c_q_s3 c_q_s4 c_q_o0 c_q_o1 c_q_o2 c_q_o3 c_q_o4
  have k_w := fun V hh => uwrite_any (⟨s_g, s_r, s_n, s_t, s_d⟩ : SupL) (.slice a_s s_d.length c_s) V (⟨hw_s, hh⟩ : SupV _ _ _ _ (⟨s_g, s_r, s_n, s_t, s_d⟩ : SupL))
  have k_x := fun V hh => ruwrite_any (⟨s_g, s_r, s_n, s_t, s_d⟩ : SupL) (.slice a_s s_d.length c_s) V (⟨hw_s, hh⟩ : SupV _ _ _ _ (⟨s_g, s_r, s_n, s_t, s_d⟩ : SupL))
  have k_r := fun V v hh => uread_any v l V hh
  have k_t := fun V hh => ruread_any (.slice a_l l.length c_l) l V hh
  have k_q := fun V v u h1 h2 => rusame_any (readU l) (readU l) v u V h1 h2
  simp only [decide_true] at k_q
  have k_c := fun V hh => ucheck_any (⟨s_g, s_r, s_n, s_t, s_d⟩ : SupL) (.slice a_s s_d.length c_s) V (⟨hw_s, hh⟩ : SupV _ _ _ _ (⟨s_g, s_r, s_n, s_t, s_d⟩ : SupL))
  have k_d := fun V hh => rucheck_any (⟨s_g, s_r, s_n, s_t, s_d⟩ : SupL) (.slice a_s s_d.length c_s) V (⟨hw_s, hh⟩ : SupV _ _ _ _ (⟨s_g, s_r, s_n, s_t, s_d⟩ : SupL))
  have k_s := fun V h1 h2 => usame_any (⟨s_g, s_r, s_n, s_t, s_d⟩ : SupL) (⟨o_g, o_r, o_n, o_t, o_d⟩ : SupL) (.slice a_s s_d.length c_s) (.slice a_o o_d.length c_o) V (⟨hw_s, h1⟩ : SupV _ _ _ _ (⟨s_g, s_r, s_n, s_t, s_d⟩ : SupL)) (⟨hw_o, h2⟩ : SupV _ _ _ _ (⟨o_g, o_r, o_n, o_t, o_d⟩ : SupL))
  have k_v := fun V h1 h2 => rusame_any (⟨s_g, s_r, s_n, s_t, s_d⟩ : SupL) (⟨o_g, o_r, o_n, o_t, o_d⟩ : SupL) (.slice a_s s_d.length c_s) (.slice a_o o_d.length c_o) V (⟨hw_s, h1⟩ : SupV _ _ _ _ (⟨s_g, s_r, s_n, s_t, s_d⟩ : SupL)) (⟨hw_o, h2⟩ : SupV _ _ _ _ (⟨o_g, o_r, o_n, o_t, o_d⟩ : SupL))
  have k_l := fun V => uslot_any s_g V
  have k_m := fun V => ruslot_any s_g V
  generalize decide ((⟨s_g, s_r, s_n, s_t, s_d⟩ : SupL) = (⟨o_g, o_r, o_n, o_t, o_d⟩ : SupL)) = so at *
  generalize slotU s_g = sl at *
  obtain ⟨BN, hBN⟩ : ∃ b, blockU (⟨s_g, s_r, s_n, s_t, s_d⟩ : SupL) = b := ⟨_, rfl⟩
  obtain ⟨R, hR⟩ : ∃ b, readU l = b := ⟨_, rfl⟩
  obtain ⟨er, her⟩ : ∃ b, errUr l = b := ⟨_, rfl⟩
  obtain ⟨ew, hew⟩ : ∃ b, errUw (⟨s_g, s_r, s_n, s_t, s_d⟩ : SupL) = b := ⟨_, rfl⟩
  rw [hBN] at k_w k_x
  rw [hR] at k_r k_t k_q
  rw [her] at k_r k_t
  rw [hew] at k_w k_x k_c k_d
  simp only [wV] at k_w k_x k_r k_t k_q k_c k_d k_s k_v k_l k_m
  clear hBN hR her hew
  have HC := Lib.hid (And.intro k_w (And.intro k_x (And.intro k_r (And.intro k_t (And.intro k_q (And.intro k_c (And.intro k_d (And.intro k_s (And.intro k_v (And.intro k_l k_m))))))))))
  clear k_w k_x k_r k_t k_q k_c k_d k_s k_v k_l k_m
  go_enter Try.func3, Try.ntmps3
  go_upto_region 1 with (fail)
  clear hV
  by_cases hl : 10000 < l.length
  · have i1 : (10000 : Int) < l.length := by omega
    go_wp2
    go_ret
    exact ⟨rfl, HQ.out.2.2.2.2.2⟩
  have i1 : ¬ (10000 : Int) < l.length := by omega
  by_cases hd : 1000 < s_d.length
  · have i3 : (1000 : Int) < s_d.length := by omega
    go_wp2
    go_ret
    exact ⟨rfl, HQ.out.2.2.2.2.2⟩
  have i3 : ¬ (1000 : Int) < s_d.length := by omega
  by_cases hd2 : 1000 < o_d.length
  · have i4 : (1000 : Int) < o_d.length := by omega
    go_wp2
    go_ret
    exact ⟨rfl, HQ.out.2.2.2.2.2⟩
  have i4 : ¬ (1000 : Int) < o_d.length := by omega
  go_upto_region 4 with (at_builtin; refine wpList_appB rfl _ _ 26 rfl V.heap.size 5 Try.underlying26 info_u8 _ [] rfl (OwnB.nil_ _ _ _) 0 V.heap.size _ l rfl HQ.out.2.2.2.2.1.v (by show 0 + l.length ≤ _; omega) (Nat.le_refl _) ?_; intro ov wo hown hst; rw [List.nil_append] at hown; have hm := OwnB.made hown hst; clear hown)
  clear c_q_s0 c_q_s1 c_q_s2 c_q_s3 c_q_s4 c_q_o0 c_q_o1 c_q_o2 c_q_o3 c_q_o4
  obtain ⟨q_s, q_o, S_s, S_o, B_l, hB⟩ := HQ.out
  clear HQ
  have B_o := LM.of hm
  obtain ⟨a_v, c_v, rfl, -, -⟩ := hm.bytes.form rfl
  have sz_wo := hst.size
  replace q_s := q_s.step hst
  replace q_o := q_o.step hst
  replace S_s := S_s.step hst
  replace S_o := S_o.step hst
  replace B_l := B_l.step hst
  replace hB := hB.step hst
  clear hst hm i1 i3 i4 hl hd hd2
  have HQ := Lib.hid (And.intro q_s (And.intro q_o (And.intro S_s (And.intro S_o (And.intro B_l (And.intro B_o hB))))))
  clear q_s q_o S_s S_o B_l B_o hB
  have c_q_s0 := LK.cell HQ.out.1 0
  have c_q_s1 := LK.cell HQ.out.1 1
  have c_q_s2 := LK.cell HQ.out.1 2
  have c_q_s3 := LK.cell HQ.out.1 3
  have c_q_s4 := LK.cell HQ.out.1 4
  have c_q_o0 := LK.cell HQ.out.2.1 0
  have c_q_o1 := LK.cell HQ.out.2.1 1
  have c_q_o2 := LK.cell HQ.out.2.1 2
  have c_q_o3 := LK.cell HQ.out.2.1 3
  have c_q_o4 := LK.cell HQ.out.2.1 4
  simp at c_q_s0 c_q_s1 c_q_s2 c_q_s3 c_q_s4 c_q_o0 c_q_o1 c_q_o2 c_q_o3 c_q_o4
  go_wp2_with fail
  refine (HC.out.1 _ HQ.out.2.2.1.v).mono ?_
  rintro e w1 ⟨v_w, rfl, hm⟩
  clear c_q_s0 c_q_s1 c_q_s2 c_q_s3 c_q_s4 c_q_o0 c_q_o1 c_q_o2 c_q_o3 c_q_o4
  obtain ⟨q_s, q_o, S_s, S_o, B_l, B_o, hB⟩ := HQ.out
  clear HQ
  have B_w := LM.of hm
  have hst := hm.below
  obtain ⟨a_w, c_w, rfl, -, -⟩ := hm.bytes.form rfl
  clear hm
  have sz_w1 : wo.heap.size ≤ w1.heap.size := hst.size
  replace q_s := q_s.step hst
  replace q_o := q_o.step hst
  replace S_s := S_s.step hst
  replace S_o := S_o.step hst
  replace B_l := B_l.step hst
  replace B_o := B_o.step hst
  replace hB := hB.step hst
  clear hst
  have HQ := Lib.hid (And.intro q_s (And.intro q_o (And.intro S_s (And.intro S_o (And.intro B_l (And.intro B_o (And.intro B_w hB)))))))
  clear q_s q_o S_s S_o B_l B_o B_w hB
  have c_q_s0 := LK.cell HQ.out.1 0
  have c_q_s1 := LK.cell HQ.out.1 1
  have c_q_s2 := LK.cell HQ.out.1 2
  have c_q_s3 := LK.cell HQ.out.1 3
  have c_q_s4 := LK.cell HQ.out.1 4
  have c_q_o0 := LK.cell HQ.out.2.1 0
  have c_q_o1 := LK.cell HQ.out.2.1 1
  have c_q_o2 := LK.cell HQ.out.2.1 2
  have c_q_o3 := LK.cell HQ.out.2.1 3
  have c_q_o4 := LK.cell HQ.out.2.1 4
  simp at c_q_s0 c_q_s1 c_q_s2 c_q_s3 c_q_s4 c_q_o0 c_q_o1 c_q_o2 c_q_o3 c_q_o4
  go_wp2_with fail
  refine (HC.out.2.1 _ HQ.out.2.2.1.v).mono ?_
  rintro e w2 ⟨v_x, rfl, hm⟩
  clear c_q_s0 c_q_s1 c_q_s2 c_q_s3 c_q_s4 c_q_o0 c_q_o1 c_q_o2 c_q_o3 c_q_o4
  obtain ⟨q_s, q_o, S_s, S_o, B_l, B_o, B_w, hB⟩ := HQ.out
  clear HQ
  have B_x := LM.of hm
  have hst := hm.below
  obtain ⟨a_x, c_x, rfl, -, -⟩ := hm.bytes.form rfl
  clear hm
  have sz_w2 : w1.heap.size ≤ w2.heap.size := hst.size
  replace q_s := q_s.step hst
  replace q_o := q_o.step hst
  replace S_s := S_s.step hst
  replace S_o := S_o.step hst
  replace B_l := B_l.step hst
  replace B_o := B_o.step hst
  replace B_w := B_w.step hst
  replace hB := hB.step hst
  clear hst
  have HQ := Lib.hid (And.intro q_s (And.intro q_o (And.intro S_s (And.intro S_o (And.intro B_l (And.intro B_o (And.intro B_w (And.intro B_x hB))))))))
  clear q_s q_o S_s S_o B_l B_o B_w B_x hB
  have c_q_s0 := LK.cell HQ.out.1 0
  have c_q_s1 := LK.cell HQ.out.1 1
  have c_q_s2 := LK.cell HQ.out.1 2
  have c_q_s3 := LK.cell HQ.out.1 3
  have c_q_s4 := LK.cell HQ.out.1 4
  have c_q_o0 := LK.cell HQ.out.2.1 0
  have c_q_o1 := LK.cell HQ.out.2.1 1
  have c_q_o2 := LK.cell HQ.out.2.1 2
  have c_q_o3 := LK.cell HQ.out.2.1 3
  have c_q_o4 := LK.cell HQ.out.2.1 4
  simp at c_q_s0 c_q_s1 c_q_s2 c_q_s3 c_q_s4 c_q_o0 c_q_o1 c_q_o2 c_q_o3 c_q_o4
  go_wp2_with fail
  refine (HC.out.2.2.1 _ _ HQ.out.2.2.2.2.2.1.v).mono ?_
  rintro e w3 ⟨u_r, rfl, hm⟩
  clear c_q_s0 c_q_s1 c_q_s2 c_q_s3 c_q_s4 c_q_o0 c_q_o1 c_q_o2 c_q_o3 c_q_o4
  obtain ⟨q_s, q_o, S_s, S_o, B_l, B_o, B_w, B_x, hB⟩ := HQ.out
  clear HQ
  have S_r := LU5.of hm.sup (Nat.le_refl _)
  have hst := hm.below
  obtain ⟨a_r, c_r, rfl, -, -, -, -⟩ := id hm.sup.2
  clear hm
  have sz_w3 : w2.heap.size ≤ w3.heap.size := hst.size
  replace q_s := q_s.step hst
  replace q_o := q_o.step hst
  replace S_s := S_s.step hst
  replace S_o := S_o.step hst
  replace B_l := B_l.step hst
  replace B_o := B_o.step hst
  replace B_w := B_w.step hst
  replace B_x := B_x.step hst
  replace hB := hB.step hst
  clear hst
  have HQ := Lib.hid (And.intro q_s (And.intro q_o (And.intro S_s (And.intro S_o (And.intro B_l (And.intro B_o (And.intro B_w (And.intro B_x (And.intro S_r hB)))))))))
  clear q_s q_o S_s S_o B_l B_o B_w B_x S_r hB
  have c_q_s0 := LK.cell HQ.out.1 0
  have c_q_s1 := LK.cell HQ.out.1 1
  have c_q_s2 := LK.cell HQ.out.1 2
  have c_q_s3 := LK.cell HQ.out.1 3
  have c_q_s4 := LK.cell HQ.out.1 4
  have c_q_o0 := LK.cell HQ.out.2.1 0
  have c_q_o1 := LK.cell HQ.out.2.1 1
  have c_q_o2 := LK.cell HQ.out.2.1 2
  have c_q_o3 := LK.cell HQ.out.2.1 3
  have c_q_o4 := LK.cell HQ.out.2.1 4
  simp at c_q_s0 c_q_s1 c_q_s2 c_q_s3 c_q_s4 c_q_o0 c_q_o1 c_q_o2 c_q_o3 c_q_o4
  go_upto_region 7 with (fail)
  clear c_q_s0 c_q_s1 c_q_s2 c_q_s3 c_q_s4 c_q_o0 c_q_o1 c_q_o2 c_q_o3 c_q_o4
  obtain ⟨q_s, q_o, S_s, S_o, B_l, B_o, B_w, B_x, S_r, hB⟩ := HQ.out
  clear HQ
  have hst := (Below.refl w3.heap.size w3).alloc (Nat.le_refl _) (.cells #[.int .u32 (R.gen.toNat : Int), .int .i64 R.root, .int .u32 (R.next.toNat : Int), .int .u32 (R.table.toNat : Int), .slice a_r R.dead.length c_r] 25)
  have hlt : w3.heap.size < (w3.alloc (.cells #[.int .u32 (R.gen.toNat : Int), .int .i64 R.root, .int .u32 (R.next.toNat : Int), .int .u32 (R.table.toNat : Int), .slice a_r R.dead.length c_r] 25)).heap.size := by simp
  have q_r := LK.new w3 (.cells #[.int .u32 (R.gen.toNat : Int), .int .i64 R.root, .int .u32 (R.next.toNat : Int), .int .u32 (R.table.toNat : Int), .slice a_r R.dead.length c_r] 25)
  replace q_s := q_s.step hst
  replace q_o := q_o.step hst
  replace S_s := S_s.step hst
  replace S_o := S_o.step hst
  replace B_l := B_l.step hst
  replace B_o := B_o.step hst
  replace B_w := B_w.step hst
  replace B_x := B_x.step hst
  replace S_r := S_r.step hst
  replace hB := hB.step hst
  obtain ⟨w4, hw⟩ : ∃ v, w3.alloc (.cells #[.int .u32 (R.gen.toNat : Int), .int .i64 R.root, .int .u32 (R.next.toNat : Int), .int .u32 (R.table.toNat : Int), .slice a_r R.dead.length c_r] 25) = v := ⟨_, rfl⟩
  rw [hw] at hlt q_r q_s q_o S_s S_o B_l B_o B_w B_x S_r hB ⊢
  clear hw hst
  have sz_w4 := hlt
  clear hlt
  have HQ := Lib.hid (And.intro q_s (And.intro q_o (And.intro S_s (And.intro S_o (And.intro B_l (And.intro B_o (And.intro B_w (And.intro B_x (And.intro S_r (And.intro q_r hB))))))))))
  clear q_s q_o S_s S_o B_l B_o B_w B_x S_r q_r hB
  have c_q_s0 := LK.cell HQ.out.1 0
  have c_q_s1 := LK.cell HQ.out.1 1
  have c_q_s2 := LK.cell HQ.out.1 2
  have c_q_s3 := LK.cell HQ.out.1 3
  have c_q_s4 := LK.cell HQ.out.1 4
  have c_q_o0 := LK.cell HQ.out.2.1 0
  have c_q_o1 := LK.cell HQ.out.2.1 1
  have c_q_o2 := LK.cell HQ.out.2.1 2
  have c_q_o3 := LK.cell HQ.out.2.1 3
  have c_q_o4 := LK.cell HQ.out.2.1 4
  have c_q_r0 := LK.cell HQ.out.2.2.2.2.2.2.2.2.2.1 0
  have c_q_r1 := LK.cell HQ.out.2.2.2.2.2.2.2.2.2.1 1
  have c_q_r2 := LK.cell HQ.out.2.2.2.2.2.2.2.2.2.1 2
  have c_q_r3 := LK.cell HQ.out.2.2.2.2.2.2.2.2.2.1 3
  have c_q_r4 := LK.cell HQ.out.2.2.2.2.2.2.2.2.2.1 4
  simp at c_q_s0 c_q_s1 c_q_s2 c_q_s3 c_q_s4 c_q_o0 c_q_o1 c_q_o2 c_q_o3 c_q_o4 c_q_r0 c_q_r1 c_q_r2 c_q_r3 c_q_r4
  go_wp2_with fail
  refine (HC.out.2.2.2.1 _ HQ.out.2.2.2.2.1.v).mono ?_
  rintro e w5 ⟨u_t, rfl, hm, hst⟩
  clear c_q_s0 c_q_s1 c_q_s2 c_q_s3 c_q_s4 c_q_o0 c_q_o1 c_q_o2 c_q_o3 c_q_o4 c_q_r0 c_q_r1 c_q_r2 c_q_r3 c_q_r4
  obtain ⟨q_s, q_o, S_s, S_o, B_l, B_o, B_w, B_x, S_r, q_r, hB⟩ := HQ.out
  clear HQ
  have S_t := LU5.of hm (Nat.le_refl _)
  obtain ⟨a_t, c_t, rfl, -, -, -, -⟩ := id hm.2
  clear hm
  have sz_w5 : w4.heap.size ≤ w5.heap.size := hst.size
  replace q_s := q_s.step hst
  replace q_o := q_o.step hst
  replace S_s := S_s.step hst
  replace S_o := S_o.step hst
  replace B_l := B_l.step hst
  replace B_o := B_o.step hst
  replace B_w := B_w.step hst
  replace B_x := B_x.step hst
  replace S_r := S_r.step hst
  replace q_r := q_r.step hst
  replace hB := hB.step hst
  clear hst
  have HQ := Lib.hid (And.intro q_s (And.intro q_o (And.intro S_s (And.intro S_o (And.intro B_l (And.intro B_o (And.intro B_w (And.intro B_x (And.intro S_r (And.intro q_r (And.intro S_t hB)))))))))))
  clear q_s q_o S_s S_o B_l B_o B_w B_x S_r q_r S_t hB
  have c_q_s0 := LK.cell HQ.out.1 0
  have c_q_s1 := LK.cell HQ.out.1 1
  have c_q_s2 := LK.cell HQ.out.1 2
  have c_q_s3 := LK.cell HQ.out.1 3
  have c_q_s4 := LK.cell HQ.out.1 4
  have c_q_o0 := LK.cell HQ.out.2.1 0
  have c_q_o1 := LK.cell HQ.out.2.1 1
  have c_q_o2 := LK.cell HQ.out.2.1 2
  have c_q_o3 := LK.cell HQ.out.2.1 3
  have c_q_o4 := LK.cell HQ.out.2.1 4
  have c_q_r0 := LK.cell HQ.out.2.2.2.2.2.2.2.2.2.1 0
  have c_q_r1 := LK.cell HQ.out.2.2.2.2.2.2.2.2.2.1 1
  have c_q_r2 := LK.cell HQ.out.2.2.2.2.2.2.2.2.2.1 2
  have c_q_r3 := LK.cell HQ.out.2.2.2.2.2.2.2.2.2.1 3
  have c_q_r4 := LK.cell HQ.out.2.2.2.2.2.2.2.2.2.1 4
  simp at c_q_s0 c_q_s1 c_q_s2 c_q_s3 c_q_s4 c_q_o0 c_q_o1 c_q_o2 c_q_o3 c_q_o4 c_q_r0 c_q_r1 c_q_r2 c_q_r3 c_q_r4
  go_upto_region 8 with (fail)
  clear c_q_s0 c_q_s1 c_q_s2 c_q_s3 c_q_s4 c_q_o0 c_q_o1 c_q_o2 c_q_o3 c_q_o4 c_q_r0 c_q_r1 c_q_r2 c_q_r3 c_q_r4
  obtain ⟨q_s, q_o, S_s, S_o, B_l, B_o, B_w, B_x, S_r, q_r, S_t, hB⟩ := HQ.out
  clear HQ
  have hst := (Below.refl w5.heap.size w5).alloc (Nat.le_refl _) (.cells #[.int .u32 (R.gen.toNat : Int), .int .i64 R.root, .int .u32 (R.next.toNat : Int), .int .u32 (R.table.toNat : Int), .slice a_t R.dead.length c_t] 25)
  have hlt : w5.heap.size < (w5.alloc (.cells #[.int .u32 (R.gen.toNat : Int), .int .i64 R.root, .int .u32 (R.next.toNat : Int), .int .u32 (R.table.toNat : Int), .slice a_t R.dead.length c_t] 25)).heap.size := by simp
  have q_t := LK.new w5 (.cells #[.int .u32 (R.gen.toNat : Int), .int .i64 R.root, .int .u32 (R.next.toNat : Int), .int .u32 (R.table.toNat : Int), .slice a_t R.dead.length c_t] 25)
  replace q_s := q_s.step hst
  replace q_o := q_o.step hst
  replace S_s := S_s.step hst
  replace S_o := S_o.step hst
  replace B_l := B_l.step hst
  replace B_o := B_o.step hst
  replace B_w := B_w.step hst
  replace B_x := B_x.step hst
  replace S_r := S_r.step hst
  replace q_r := q_r.step hst
  replace S_t := S_t.step hst
  replace hB := hB.step hst
  obtain ⟨w6, hw⟩ : ∃ v, w5.alloc (.cells #[.int .u32 (R.gen.toNat : Int), .int .i64 R.root, .int .u32 (R.next.toNat : Int), .int .u32 (R.table.toNat : Int), .slice a_t R.dead.length c_t] 25) = v := ⟨_, rfl⟩
  rw [hw] at hlt q_t q_s q_o S_s S_o B_l B_o B_w B_x S_r q_r S_t hB ⊢
  clear hw hst
  have sz_w6 := hlt
  clear hlt
  have HQ := Lib.hid (And.intro q_s (And.intro q_o (And.intro S_s (And.intro S_o (And.intro B_l (And.intro B_o (And.intro B_w (And.intro B_x (And.intro S_r (And.intro q_r (And.intro S_t (And.intro q_t hB))))))))))))
  clear q_s q_o S_s S_o B_l B_o B_w B_x S_r q_r S_t q_t hB
  have c_q_s0 := LK.cell HQ.out.1 0
  have c_q_s1 := LK.cell HQ.out.1 1
  have c_q_s2 := LK.cell HQ.out.1 2
  have c_q_s3 := LK.cell HQ.out.1 3
  have c_q_s4 := LK.cell HQ.out.1 4
  have c_q_o0 := LK.cell HQ.out.2.1 0
  have c_q_o1 := LK.cell HQ.out.2.1 1
  have c_q_o2 := LK.cell HQ.out.2.1 2
  have c_q_o3 := LK.cell HQ.out.2.1 3
  have c_q_o4 := LK.cell HQ.out.2.1 4
  have c_q_r0 := LK.cell HQ.out.2.2.2.2.2.2.2.2.2.1 0
  have c_q_r1 := LK.cell HQ.out.2.2.2.2.2.2.2.2.2.1 1
  have c_q_r2 := LK.cell HQ.out.2.2.2.2.2.2.2.2.2.1 2
  have c_q_r3 := LK.cell HQ.out.2.2.2.2.2.2.2.2.2.1 3
  have c_q_r4 := LK.cell HQ.out.2.2.2.2.2.2.2.2.2.1 4
  have c_q_t0 := LK.cell HQ.out.2.2.2.2.2.2.2.2.2.2.2.1 0
  have c_q_t1 := LK.cell HQ.out.2.2.2.2.2.2.2.2.2.2.2.1 1
  have c_q_t2 := LK.cell HQ.out.2.2.2.2.2.2.2.2.2.2.2.1 2
  have c_q_t3 := LK.cell HQ.out.2.2.2.2.2.2.2.2.2.2.2.1 3
  have c_q_t4 := LK.cell HQ.out.2.2.2.2.2.2.2.2.2.2.2.1 4
  simp at c_q_s0 c_q_s1 c_q_s2 c_q_s3 c_q_s4 c_q_o0 c_q_o1 c_q_o2 c_q_o3 c_q_o4 c_q_r0 c_q_r1 c_q_r2 c_q_r3 c_q_r4 c_q_t0 c_q_t1 c_q_t2 c_q_t3 c_q_t4
  clear c_q_s0 c_q_s1 c_q_s2 c_q_s3 c_q_s4 c_q_o0 c_q_o1 c_q_o2 c_q_o3 c_q_o4 c_q_r0 c_q_r1 c_q_r2 c_q_r3 c_q_r4 c_q_t0 c_q_t1 c_q_t2 c_q_t3 c_q_t4
  have x_q_s0 := fun X => LK.cell (HQ.out.1.step (aft_below w6 X)) 0
  have x_q_s1 := fun X => LK.cell (HQ.out.1.step (aft_below w6 X)) 1
  have x_q_s2 := fun X => LK.cell (HQ.out.1.step (aft_below w6 X)) 2
  have x_q_s3 := fun X => LK.cell (HQ.out.1.step (aft_below w6 X)) 3
  have x_q_s4 := fun X => LK.cell (HQ.out.1.step (aft_below w6 X)) 4
  have x_q_o0 := fun X => LK.cell (HQ.out.2.1.step (aft_below w6 X)) 0
  have x_q_o1 := fun X => LK.cell (HQ.out.2.1.step (aft_below w6 X)) 1
  have x_q_o2 := fun X => LK.cell (HQ.out.2.1.step (aft_below w6 X)) 2
  have x_q_o3 := fun X => LK.cell (HQ.out.2.1.step (aft_below w6 X)) 3
  have x_q_o4 := fun X => LK.cell (HQ.out.2.1.step (aft_below w6 X)) 4
  have x_q_r0 := fun X => LK.cell (HQ.out.2.2.2.2.2.2.2.2.2.1.step (aft_below w6 X)) 0
  have x_q_r1 := fun X => LK.cell (HQ.out.2.2.2.2.2.2.2.2.2.1.step (aft_below w6 X)) 1
  have x_q_r2 := fun X => LK.cell (HQ.out.2.2.2.2.2.2.2.2.2.1.step (aft_below w6 X)) 2
  have x_q_r3 := fun X => LK.cell (HQ.out.2.2.2.2.2.2.2.2.2.1.step (aft_below w6 X)) 3
  have x_q_r4 := fun X => LK.cell (HQ.out.2.2.2.2.2.2.2.2.2.1.step (aft_below w6 X)) 4
  have x_q_t0 := fun X => LK.cell (HQ.out.2.2.2.2.2.2.2.2.2.2.2.1.step (aft_below w6 X)) 0
  have x_q_t1 := fun X => LK.cell (HQ.out.2.2.2.2.2.2.2.2.2.2.2.1.step (aft_below w6 X)) 1
  have x_q_t2 := fun X => LK.cell (HQ.out.2.2.2.2.2.2.2.2.2.2.2.1.step (aft_below w6 X)) 2
  have x_q_t3 := fun X => LK.cell (HQ.out.2.2.2.2.2.2.2.2.2.2.2.1.step (aft_below w6 X)) 3
  have x_q_t4 := fun X => LK.cell (HQ.out.2.2.2.2.2.2.2.2.2.2.2.1.step (aft_below w6 X)) 4
  simp at x_q_s0 x_q_s1 x_q_s2 x_q_s3 x_q_s4 x_q_o0 x_q_o1 x_q_o2 x_q_o3 x_q_o4 x_q_r0 x_q_r1 x_q_r2 x_q_r3 x_q_r4 x_q_t0 x_q_t1 x_q_t2 x_q_t3 x_q_t4
  have t_w := fun X => cv_of (HQ.out.2.2.2.2.2.2.1.step (aft_below w6 X)).v
  have t_o := fun X => cv_of (HQ.out.2.2.2.2.2.1.step (aft_below w6 X)).v
  have t_x := fun X => cv_of (HQ.out.2.2.2.2.2.2.2.1.step (aft_below w6 X)).v
  have t_l := fun X => cv_of (HQ.out.2.2.2.2.1.step (aft_below w6 X)).v
  refine wp_region_held_drew (S := Cls w6) (by kernel_rfl) (Cls.drew w6) (fun hCl => ?_)
  refine wpAnyH_seg (fuel := 40) (by kernel_rfl) (fun _ d _ _ _ h => by cases d <;> exact h) hCl [0, 1, 2, 3, 4, 5, 6, 7, 8, 9, 10, 11, 12] _ _ _ (by kernel_rfl) (by kernel_rfl) ?_
  simp only [opsOf_cons, opsOf_nil, consOp_some, List.getElem?_toArray, List.getElem?_cons_succ, List.getElem?_cons_zero]
  repeat (first | go_big_quiet_step (fail) | quiet_step (fail))
  refine wpQuiet_nil ?_
  refine wpAnyH_each (fuel := 39) [13] (by kernel_rfl) (by simp) (by kernel_rfl) ?_
  refine Each.cons _ rfl (fun K' hK => ?_) Each.nil
  go_simp
  refine (HC.out.2.2.2.2.1 _ _ _ (HQ.out.2.2.2.2.2.2.2.2.1.step hCl.below).v (HQ.out.2.2.2.2.2.2.2.2.2.2.1.step hCl.below).v).mono ?_
  rintro e z1 ⟨rfl, hb⟩
  have hst := below_step hCl.below hCl.below.size hb
  clear hb
  have hCl := Cls.of hst
  refine hK.out (Cls w6) (fun _ h => h) hCl ?_
  clear hK K'
  refine wpAnyH_seg (fuel := 30) (by kernel_rfl) (fun _ d _ _ _ h => by cases d <;> exact h) hCl [14, 15, 16, 17, 18, 19, 20, 21, 23] _ _ _ (by kernel_rfl) (by kernel_rfl) ?_
  simp only [opsOf_cons, opsOf_nil, consOp_some, List.getElem?_toArray, List.getElem?_cons_succ, List.getElem?_cons_zero]
  repeat (first | go_big_quiet_step (fail) | quiet_step (fail))
  refine wpQuiet_nil ?_
  refine wpAnyH_each (fuel := 29) [22] (by kernel_rfl) (by simp) (by kernel_rfl) ?_
  refine Each.cons _ rfl (fun K' hK => ?_) Each.nil
  go_simp
  refine (HC.out.2.2.2.2.2.1 _ (HQ.out.2.2.1.step hCl.below).v).mono ?_
  rintro e z2 ⟨rfl, hb⟩
  have hst := below_step hCl.below hCl.below.size hb
  clear hb
  have hCl := Cls.of hst
  refine hK.out (Cls w6) (fun _ h => h) hCl ?_
  clear hK K'
  refine wpAnyH_each (fuel := 28) [24] (by kernel_rfl) (by simp) (by kernel_rfl) ?_
  refine Each.cons _ rfl (fun K' hK => ?_) Each.nil
  go_simp
  refine (HC.out.2.2.2.2.2.2.1 _ (HQ.out.2.2.1.step hCl.below).v).mono ?_
  rintro e z3 ⟨rfl, hb⟩
  have hst := below_step hCl.below hCl.below.size hb
  clear hb
  have hCl := Cls.of hst
  refine hK.out (Cls w6) (fun _ h => h) hCl ?_
  clear hK K'
  refine wpAnyH_seg (fuel := 21) (by kernel_rfl) (fun _ d _ _ _ h => by cases d <;> exact h) hCl [25, 26, 27, 28, 29, 31, 32] _ _ _ (by kernel_rfl) (by kernel_rfl) ?_
  simp only [opsOf_cons, opsOf_nil, consOp_some, List.getElem?_toArray, List.getElem?_cons_succ, List.getElem?_cons_zero]
  repeat (first | go_big_quiet_step (fail) | quiet_step (fail))
  refine wpQuiet_nil ?_
  refine wpAnyH_each (fuel := 20) [30] (by kernel_rfl) (by simp) (by kernel_rfl) ?_
  refine Each.cons _ rfl (fun K' hK => ?_) Each.nil
  go_simp
  refine (HC.out.2.2.2.2.2.2.2.1 _ (HQ.out.2.2.1.step hCl.below).v (HQ.out.2.2.2.1.step hCl.below).v).mono ?_
  rintro e z4 ⟨rfl, hb⟩
  have hst := below_step hCl.below hCl.below.size hb
  clear hb
  have hCl := Cls.of hst
  refine hK.out (Cls w6) (fun _ h => h) hCl ?_
  clear hK K'
  refine wpAnyH_each (fuel := 19) [33] (by kernel_rfl) (by simp) (by kernel_rfl) ?_
  refine Each.cons _ rfl (fun K' hK => ?_) Each.nil
  go_simp
  refine (HC.out.2.2.2.2.2.2.2.2.1 _ (HQ.out.2.2.1.step hCl.below).v (HQ.out.2.2.2.1.step hCl.below).v).mono ?_
  rintro e z5 ⟨rfl, hb⟩
  have hst := below_step hCl.below hCl.below.size hb
  clear hb
  have hCl := Cls.of hst
  refine hK.out (Cls w6) (fun _ h => h) hCl ?_
  clear hK K'
  refine wpAnyH_seg (fuel := 12) (by kernel_rfl) (fun _ d _ _ _ h => by cases d <;> exact h) hCl [34, 35, 36, 37, 38, 40, 41] _ _ _ (by kernel_rfl) (by kernel_rfl) ?_
  simp only [opsOf_cons, opsOf_nil, consOp_some, List.getElem?_toArray, List.getElem?_cons_succ, List.getElem?_cons_zero]
  repeat (first | go_big_quiet_step (fail) | quiet_step (fail))
  refine wpQuiet_nil ?_
  refine wpAnyH_each (fuel := 11) [39] (by kernel_rfl) (by simp) (by kernel_rfl) ?_
  refine Each.cons _ rfl (fun K' hK => ?_) Each.nil
  go_simp
  refine (HC.out.2.2.2.2.2.2.2.2.2.1 _).mono ?_
  rintro e z6 ⟨rfl, hw0⟩
  rw [hw0]
  clear hw0
  have hst := hCl.below
  have hCl := Cls.of hst
  refine hK.out (Cls w6) (fun _ h => h) hCl ?_
  clear hK K'
  refine wpAnyH_each (fuel := 10) [42] (by kernel_rfl) (by simp) (by kernel_rfl) ?_
  refine Each.cons _ rfl (fun K' hK => ?_) Each.nil
  go_simp
  refine (HC.out.2.2.2.2.2.2.2.2.2.2 _).mono ?_
  rintro e z7 ⟨rfl, hw0⟩
  rw [hw0]
  clear hw0
  have hst := hCl.below
  have hCl := Cls.of hst
  refine hK.out (Cls w6) (fun _ h => h) hCl ?_
  clear hK K'
  refine wpAnyH_seg (fuel := 0) (by kernel_rfl) (fun _ d _ _ _ h => by cases d <;> exact h) hCl [43, 44, 45, 46, 47, 48, 49, 50, 51, 52] _ _ _ (by kernel_rfl) (by kernel_rfl) ?_
  simp only [opsOf_cons, opsOf_nil, consOp_some, List.getElem?_toArray, List.getElem?_cons_succ, List.getElem?_cons_zero]
  repeat (first | go_big_quiet_step (fail) | quiet_step (fail))
  refine wpQuiet_nil ?_
  refine wpAnyH_done (by kernel_rfl) ?_ _
  have hBf := LW.step HQ.out.2.2.2.2.2.2.2.2.2.2.2.2 hst
  go_wp2
  go_ret
  exact ⟨rfl, hBf⟩

end Go.Proofs.Ytcibihakjcenaaa

