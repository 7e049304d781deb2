/- FindAlone: the words and contracts, part 18. -/
import Derived.Test.YtcibihakjcenaaaFindAloneQ1
import Derived.Test.YtcibihakjcenaaaFindAloneQ2
import Derived.Test.YtcibihakjcenaaaFindAloneQ3
import Derived.Test.YtcibihakjcenaaaFindAloneQ4
import Derived.Test.YtcibihakjcenaaaFindAloneQ5
import Derived.Test.YtcibihakjcenaaaFindAloneQ6
import Derived.Test.YtcibihakjcenaaaFindAloneQ7
import Derived.Test.YtcibihakjcenaaaFindAloneQ8
import Derived.Test.YtcibihakjcenaaaFindAloneQ9
import Derived.Test.YtcibihakjcenaaaFindAloneQ10
import Derived.Test.YtcibihakjcenaaaFindAloneQ11
import Derived.Test.YtcibihakjcenaaaFindAloneQ12
import Derived.Test.YtcibihakjcenaaaFindAloneQ13
import Derived.Test.YtcibihakjcenaaaFindAloneQ14
import Derived.Test.YtcibihakjcenaaaFindAloneQ15
import Derived.Test.YtcibihakjcenaaaFindAloneQ16
import Derived.Test.YtcibihakjcenaaaFindAloneQ17
import Derived.Test.YtcibihakjcenaaaChecked
import Derived.WalkKit
import Derived.WalkLawsBesides
import Derived.WalkSpells
import Derived.Lib.Hide
import Derived.Laws.Rows
import Derived.Laws.AppendOwnNone
import Derived.Maps.AppendAt
import Derived.ProofKit
import Derived.Deep.Slices
import Derived.WideShapes
import Derived.RangeFuncNested
import Derived.RangeFuncBound
import Derived.RangeFuncCalls
import Derived.RangeFuncLeaves
import Derived.RangeFuncBox
import Derived.Shelf.Abstract
import Derived.Shelf.RegionOpen
import Derived.OwnWalkIn
import Derived.TacticsInMore
import Derived.LoopNIn
import Derived.LoopIn
import Derived.Lib.AppendZerosOnto
import Derived.Lib.SliceRun
import Derived.Lib.Walk
import Derived.Deep.LoopGhost
import Derived.Laws.CopyOwn
import Derived.Laws.CopyRow
import Derived.OrdersHeld
import Derived.Deep.QuietTactic
import Derived.BigQuiet
import Derived.StillTailTactics
import Derived.OpenShut
import Derived.Deep.DeepCutAuto
import Derived.Laws.MakeOwn
import Derived.Deep.RegionHeld
import Derived.KernelRfl
import Derived.BigFrameIn
import Derived.OrdersIn
import Derived.Laws.EntriesVeiled
import Derived.Sort.CutIn
import Derived.ArgAppend
import Derived.ShutString
import Derived.ChangeOld
import Derived.Below
namespace Go.Proofs.Ytcibihakjcenaaa
open Go.RowKit

set_option maxRecDepth 100000 in
set_option maxHeartbeats 4000000 in
theorem findAlone_walk (b_s u_s x_s y_s : Value) (s : StoreL) (p : Int) (k : KeyL) (v_d : Value) (d : List UInt8) (q : Int) (w : World) (h_s : StoreV w 0 w.heap.size b_s u_s x_s y_s s) (_wp : (Lit.int .i64 p).wf = true) (h_d : Bytes w 0 w.heap.size v_d d) (_wq : (Lit.int .i64 q).wf = true) :
    Calls Try.prog 8 #[.agg #[b_s, u_s, x_s, y_s], .int .i64 p, .agg #[bV k.kind, wV k.id, wV k.off], v_d, .int .i64 q] w fun e w' => e = .returned (.bool true) ∧ Below w.heap.size w w' := by
  obtain ⟨ab_s, cb_s, rfl, gb_s, gc_s, -, -⟩ := h_s.1.1
  obtain ⟨au_s, cu_s, rfl, gu_s, gv_s, -, -⟩ := h_s.1.2
  obtain ⟨ax_s, cx_s, rfl, gx_s, gz_s⟩ := h_s.2.1.form rfl
  obtain ⟨ay_s, cy_s, rfl, gy_s, gw_s⟩ := h_s.2.2.form rfl
  unfold maxLen at gc_s gv_s gz_s gw_s
  obtain ⟨k_k, k_i, k_o⟩ := k
  simp only [bV, wV]
  obtain ⟨a_d, c_d, rfl, g_d, gm_d⟩ := h_d.form rfl
  unfold maxLen at gm_d
  have hst := (((Below.refl w.heap.size w).alloc (Nat.le_refl _) (.cells #[.slice ab_s s.disk.blocks.length cb_s, .slice au_s s.disk.waits.length cu_s, .slice ax_s s.now.length cx_s, .slice ay_s s.last.length cy_s] 46)).alloc (by simp) (.cells #[.int .u8 (k_k.toNat : Int), .int .u32 (k_i.toNat : Int), .int .u32 (k_o.toNat : Int)] 48))
  have hq := two_new w (.cells #[.slice ab_s s.disk.blocks.length cb_s, .slice au_s s.disk.waits.length cu_s, .slice ax_s s.now.length cx_s, .slice ay_s s.last.length cy_s] 46) (.cells #[.int .u8 (k_k.toNat : Int), .int .u32 (k_i.toNat : Int), .int .u32 (k_o.toNat : Int)] 48)
  have q_s := LK.of hq.1
  have q_k := LK.of hq.2
  have hB : LW w _ := hst
  have O_s := (LO.of h_s (Nat.le_refl _)).step hst
  have B_d := (LB.of h_d (Nat.le_refl _)).step hst
  have sz_V : w.heap.size + 1 < ((w.alloc (.cells #[.slice ab_s s.disk.blocks.length cb_s, .slice au_s s.disk.waits.length cu_s, .slice ax_s s.now.length cx_s, .slice ay_s s.last.length cy_s] 46)).alloc (.cells #[.int .u8 (k_k.toNat : Int), .int .u32 (k_i.toNat : Int), .int .u32 (k_o.toNat : Int)] 48)).heap.size := by simp
  obtain ⟨V, hV⟩ : ∃ V, ((w.alloc (.cells #[.slice ab_s s.disk.blocks.length cb_s, .slice au_s s.disk.waits.length cu_s, .slice ax_s s.now.length cx_s, .slice ay_s s.last.length cy_s] 46)).alloc (.cells #[.int .u8 (k_k.toNat : Int), .int .u32 (k_i.toNat : Int), .int .u32 (k_o.toNat : Int)] 48)) = V := ⟨_, rfl⟩
  rw [hV] at sz_V q_s q_k O_s B_d hB
  clear hst h_s h_d hq
  have HQ := Lib.hid (And.intro q_s (And.intro q_k (And.intro O_s (And.intro B_d hB))))
  clear q_s q_k O_s B_d hB
  have c_q_s0 := LK.cell HQ.out.1 0
  have c_q_s1 := LK.cell HQ.out.1 1
  have c_q_s2 := LK.cell HQ.out.1 2
  have c_q_s3 := LK.cell HQ.out.1 3
  have c_q_k0 := LK.cell HQ.out.2.1 0
  have c_q_k1 := LK.cell HQ.out.2.1 1
  have c_q_k2 := LK.cell HQ.out.2.1 2
  simp at c_q_s0 c_q_s1 c_q_s2 c_q_s3 c_q_k0 c_q_k1 c_q_k2
  have hE : (errCk s p ≠ 0) ∨ (errCk s p = 0 ∧ (errTk s d = 0 → errCk (takeS s d) p = 0 ∧ heiC (takeS s d) p = heiC s p ∧ errFd (takeS s d) p ⟨k_k, k_i, k_o⟩ = errFd s p ⟨k_k, k_i, k_o⟩ ∧ itmF (takeS s d) p ⟨k_k, k_i, k_o⟩ = itmF s p ⟨k_k, k_i, k_o⟩) ∧ (errSh s q = 0 → errCk (shareS s q) p = 0 ∧ heiC (shareS s q) p = heiC s p ∧ errFd (shareS s q) p ⟨k_k, k_i, k_o⟩ = errFd s p ⟨k_k, k_i, k_o⟩ ∧ itmF (shareS s q) p ⟨k_k, k_i, k_o⟩ = itmF s p ⟨k_k, k_i, k_o⟩)) := by
    by_cases h : errCk s p = 0
    · refine .inr ⟨h, fun h2 => ?_, fun h2 => ?_⟩
      · obtain ⟨g1, g2, g3⟩ := (take_same h2).tree h
        exact ⟨g1, g2, g3 _⟩
      · obtain ⟨g1, g2, g3⟩ := (share_same h2).tree h
        exact ⟨g1, g2, g3 _⟩
    · exact .inl h
  have m_g := fun V b u x y hh => great8_any b u x y s V hh
  have m_c := fun V b u x y hh => fcheck_any b u x y s p V hh
  have m_f := fun V b u x y hh => ffind_any b u x y s p ⟨k_k, k_i, k_o⟩ V hh
  have m_t := fun V b u x y v hh h2 => stake_any b u x y s v d V hh h2
  have m_s := fun V b u x y hh => sshare_any b u x y s q V hh
  have n_c := fun V b u x y hh => fcheck_any b u x y (takeS s d) p V hh
  have n_f := fun V b u x y hh => ffind_any b u x y (takeS s d) p ⟨k_k, k_i, k_o⟩ V hh
  have r_c := fun V b u x y hh => fcheck_any b u x y (shareS s q) p V hh
  have r_f := fun V b u x y hh => ffind_any b u x y (shareS s q) p ⟨k_k, k_i, k_o⟩ V hh
  have m_i := fun V v u hv hu => isame_any (itmF s p ⟨k_k, k_i, k_o⟩) (itmF s p ⟨k_k, k_i, k_o⟩) v u V hv hu
  obtain ⟨ec, hec⟩ : ∃ e, errCk s p = e := ⟨_, rfl⟩
  obtain ⟨hc, hhc⟩ : ∃ e, heiC s p = e := ⟨_, rfl⟩
  obtain ⟨ef, hef⟩ : ∃ e, errFd s p ⟨k_k, k_i, k_o⟩ = e := ⟨_, rfl⟩
  obtain ⟨it, hit⟩ : ∃ e, itmF s p ⟨k_k, k_i, k_o⟩ = e := ⟨_, rfl⟩
  obtain ⟨T, hT⟩ : ∃ T, takeS s d = T := ⟨_, rfl⟩
  obtain ⟨U, hU⟩ : ∃ T, shareS s q = T := ⟨_, rfl⟩
  obtain ⟨et, het⟩ : ∃ e, errTk s d = e := ⟨_, rfl⟩
  obtain ⟨at9, hat⟩ : ∃ e, atTk s d = e := ⟨_, rfl⟩
  obtain ⟨es, hes⟩ : ∃ e, errSh s q = e := ⟨_, rfl⟩
  simp only [hec, hhc, hef, hit, hT, hU, het, hes] at hE
  simp only [hec, hhc] at m_c
  simp only [hef, hit] at m_f
  simp only [hit] at m_i
  simp only [hT, het, hat] at m_t
  simp only [hU, hes] at m_s
  rw [hT] at n_c n_f
  rw [hU] at r_c r_f
  simp only [itemV, bV, wV, decide_true] at m_f n_f r_f m_i
  clear hec hhc hef hit hT hU het hat hes
  have HE := Lib.hid hE
  clear hE
  have HC := Lib.hid (And.intro m_g (And.intro m_c (And.intro m_f (And.intro m_t (And.intro m_s (And.intro n_c (And.intro n_f (And.intro r_c (And.intro r_f m_i)))))))))
  clear m_g m_c m_f m_t m_s n_c n_f r_c r_f m_i
  go_enter Try.func8, Try.ntmps8
  go_upto_region 1 with (fail)
  clear hV
  go_wp2_with fail
  refine (aliveF V).mono ?_
  rintro e w1 ⟨rfl, hst⟩
  clear c_q_s0 c_q_s1 c_q_s2 c_q_s3 c_q_k0 c_q_k1 c_q_k2
  obtain ⟨q_s, q_k, O_s, B_d, hB⟩ := HQ.out
  clear HQ
  have sz_w1 : V.heap.size ≤ w1.heap.size := hst.size
  replace q_s := q_s.step hst
  replace q_k := q_k.step hst
  replace O_s := O_s.step hst
  replace B_d := B_d.step hst
  replace hB := hB.step hst
  clear hst
  have HQ := Lib.hid (And.intro q_s (And.intro q_k (And.intro O_s (And.intro B_d hB))))
  clear q_s q_k O_s B_d hB
  have c_q_s0 := LK.cell HQ.out.1 0
  have c_q_s1 := LK.cell HQ.out.1 1
  have c_q_s2 := LK.cell HQ.out.1 2
  have c_q_s3 := LK.cell HQ.out.1 3
  have c_q_k0 := LK.cell HQ.out.2.1 0
  have c_q_k1 := LK.cell HQ.out.2.1 1
  have c_q_k2 := LK.cell HQ.out.2.1 2
  simp at c_q_s0 c_q_s1 c_q_s2 c_q_s3 c_q_k0 c_q_k1 c_q_k2
  go_wp2_with fail
  refine (HC.out.1 _ _ _ _ _ HQ.out.2.2.1.v).mono ?_
  rintro e w2 ⟨g, rfl, hst, -⟩
  clear c_q_s0 c_q_s1 c_q_s2 c_q_s3 c_q_k0 c_q_k1 c_q_k2
  obtain ⟨q_s, q_k, O_s, B_d, hB⟩ := HQ.out
  clear HQ
  have sz_w2 : w1.heap.size ≤ w2.heap.size := hst.size
  replace q_s := q_s.step hst
  replace q_k := q_k.step hst
  replace O_s := O_s.step hst
  replace B_d := B_d.step hst
  replace hB := hB.step hst
  clear hst
  have HQ := Lib.hid (And.intro q_s (And.intro q_k (And.intro O_s (And.intro B_d hB))))
  clear q_s q_k O_s B_d hB
  have c_q_s0 := LK.cell HQ.out.1 0
  have c_q_s1 := LK.cell HQ.out.1 1
  have c_q_s2 := LK.cell HQ.out.1 2
  have c_q_s3 := LK.cell HQ.out.1 3
  have c_q_k0 := LK.cell HQ.out.2.1 0
  have c_q_k1 := LK.cell HQ.out.2.1 1
  have c_q_k2 := LK.cell HQ.out.2.1 2
  simp at c_q_s0 c_q_s1 c_q_s2 c_q_s3 c_q_k0 c_q_k1 c_q_k2
  cases g
  case true =>
    go_wp2
    go_ret
    exact ⟨rfl, HQ.out.2.2.2.2⟩
  by_cases hd : 10000 < d.length
  case pos =>
    have i1 : (10000 : Int) < d.length := by omega
    go_wp2
    go_ret
    exact ⟨rfl, HQ.out.2.2.2.2⟩
  have i1 : ¬ (10000 : Int) < d.length := by omega
  go_wp2_with fail
  refine (HC.out.2.1 _ _ _ _ _ HQ.out.2.2.1.v).mono ?_
  rintro e w3 ⟨rfl, hst⟩
  clear c_q_s0 c_q_s1 c_q_s2 c_q_s3 c_q_k0 c_q_k1 c_q_k2
  obtain ⟨q_s, q_k, O_s, B_d, hB⟩ := HQ.out
  clear HQ
  have sz_w3 : w2.heap.size ≤ w3.heap.size := hst.size
  replace q_s := q_s.step hst
  replace q_k := q_k.step hst
  replace O_s := O_s.step hst
  replace B_d := B_d.step hst
  replace hB := hB.step hst
  clear hst
  have HQ := Lib.hid (And.intro q_s (And.intro q_k (And.intro O_s (And.intro B_d hB))))
  clear q_s q_k O_s B_d hB
  have c_q_s0 := LK.cell HQ.out.1 0
  have c_q_s1 := LK.cell HQ.out.1 1
  have c_q_s2 := LK.cell HQ.out.1 2
  have c_q_s3 := LK.cell HQ.out.1 3
  have c_q_k0 := LK.cell HQ.out.2.1 0
  have c_q_k1 := LK.cell HQ.out.2.1 1
  have c_q_k2 := LK.cell HQ.out.2.1 2
  simp at c_q_s0 c_q_s1 c_q_s2 c_q_s3 c_q_k0 c_q_k1 c_q_k2
  go_wp2_with fail
  refine (HC.out.2.2.1 _ _ _ _ _ HQ.out.2.2.1.v).mono ?_
  rintro e w4 ⟨v9, rfl, hm⟩
  clear c_q_s0 c_q_s1 c_q_s2 c_q_s3 c_q_k0 c_q_k1 c_q_k2
  obtain ⟨q_s, q_k, O_s, B_d, hB⟩ := HQ.out
  clear HQ
  have hst := hm.below
  have hvb := hm.bytes
  obtain ⟨a_x, c_x, rfl, -, -⟩ := hvb.form rfl
  have B_x := LB.of hvb (Nat.le_refl _)
  clear hvb hm
  have sz_w4 : w3.heap.size ≤ w4.heap.size := hst.size
  replace q_s := q_s.step hst
  replace q_k := q_k.step hst
  replace O_s := O_s.step hst
  replace B_d := B_d.step hst
  replace hB := hB.step hst
  clear hst
  have HQ := Lib.hid (And.intro q_s (And.intro q_k (And.intro O_s (And.intro B_d (And.intro B_x hB)))))
  clear q_s q_k O_s B_d B_x hB
  have c_q_s0 := LK.cell HQ.out.1 0
  have c_q_s1 := LK.cell HQ.out.1 1
  have c_q_s2 := LK.cell HQ.out.1 2
  have c_q_s3 := LK.cell HQ.out.1 3
  have c_q_k0 := LK.cell HQ.out.2.1 0
  have c_q_k1 := LK.cell HQ.out.2.1 1
  have c_q_k2 := LK.cell HQ.out.2.1 2
  simp at c_q_s0 c_q_s1 c_q_s2 c_q_s3 c_q_k0 c_q_k1 c_q_k2
  go_upto_region 6 with (fail)
  clear c_q_s0 c_q_s1 c_q_s2 c_q_s3 c_q_k0 c_q_k1 c_q_k2
  obtain ⟨q_s, q_k, O_s, B_d, B_x, hB⟩ := HQ.out
  clear HQ
  have hst := (Below.refl w4.heap.size w4).alloc (Nat.le_refl _) (.cells #[.int .u8 (it.key.kind.toNat : Int), .int .u32 (it.key.id.toNat : Int), .int .u32 (it.key.off.toNat : Int), .int .i64 it.ref, .slice a_x it.val.length c_x] 56)
  have hlt : w4.heap.size < (w4.alloc (.cells #[.int .u8 (it.key.kind.toNat : Int), .int .u32 (it.key.id.toNat : Int), .int .u32 (it.key.off.toNat : Int), .int .i64 it.ref, .slice a_x it.val.length c_x] 56)).heap.size := by simp
  have q_x := LK.new w4 (.cells #[.int .u8 (it.key.kind.toNat : Int), .int .u32 (it.key.id.toNat : Int), .int .u32 (it.key.off.toNat : Int), .int .i64 it.ref, .slice a_x it.val.length c_x] 56)
  replace q_s := q_s.step hst
  replace q_k := q_k.step hst
  replace O_s := O_s.step hst
  replace B_d := B_d.step hst
  replace B_x := B_x.step hst
  replace hB := hB.step hst
  obtain ⟨w5, hw⟩ : ∃ v, w4.alloc (.cells #[.int .u8 (it.key.kind.toNat : Int), .int .u32 (it.key.id.toNat : Int), .int .u32 (it.key.off.toNat : Int), .int .i64 it.ref, .slice a_x it.val.length c_x] 56) = v := ⟨_, rfl⟩
  rw [hw] at hlt q_x q_s q_k O_s B_d B_x hB ⊢
  clear hw hst
  have sz_w5 := hlt
  clear hlt
  have HQ := Lib.hid (And.intro q_s (And.intro q_k (And.intro O_s (And.intro B_d (And.intro B_x (And.intro q_x hB))))))
  clear q_s q_k O_s B_d B_x q_x hB
  have c_q_s0 := LK.cell HQ.out.1 0
  have c_q_s1 := LK.cell HQ.out.1 1
  have c_q_s2 := LK.cell HQ.out.1 2
  have c_q_s3 := LK.cell HQ.out.1 3
  have c_q_k0 := LK.cell HQ.out.2.1 0
  have c_q_k1 := LK.cell HQ.out.2.1 1
  have c_q_k2 := LK.cell HQ.out.2.1 2
  have c_q_x0 := LK.cell HQ.out.2.2.2.2.2.1 0
  have c_q_x1 := LK.cell HQ.out.2.2.2.2.2.1 1
  have c_q_x2 := LK.cell HQ.out.2.2.2.2.2.1 2
  have c_q_x3 := LK.cell HQ.out.2.2.2.2.2.1 3
  have c_q_x4 := LK.cell HQ.out.2.2.2.2.2.1 4
  simp at c_q_s0 c_q_s1 c_q_s2 c_q_s3 c_q_k0 c_q_k1 c_q_k2 c_q_x0 c_q_x1 c_q_x2 c_q_x3 c_q_x4
  rcases HE.out with hn | ⟨hz, hE1, hE2⟩
  case inl =>
    have i2 : (ec == 0) = false := by simp [hn]
    have i3 : (ec != 0) = true := by simp [hn]
    go_wp2
    go_ret
    exact ⟨rfl, HQ.out.2.2.2.2.2.2⟩
  subst hz
  have HT := Lib.hid hE1
  have HS := Lib.hid hE2
  clear hE1 hE2 HE
  clear c_q_s0 c_q_s1 c_q_s2 c_q_s3 c_q_k0 c_q_k1 c_q_k2 c_q_x0 c_q_x1 c_q_x2 c_q_x3 c_q_x4
  have c_q_s0 := LK.cell HQ.out.1 0
  have c_q_s1 := LK.cell HQ.out.1 1
  have c_q_s2 := LK.cell HQ.out.1 2
  have c_q_s3 := LK.cell HQ.out.1 3
  have c_q_k0 := LK.cell HQ.out.2.1 0
  have c_q_k1 := LK.cell HQ.out.2.1 1
  have c_q_k2 := LK.cell HQ.out.2.1 2
  simp at c_q_s0 c_q_s1 c_q_s2 c_q_s3 c_q_k0 c_q_k1 c_q_k2
  go_wp2_with fail
  refine (HC.out.2.2.2.1 _ _ _ _ _ _ HQ.out.2.2.1.v HQ.out.2.2.2.1.v).mono ?_
  rintro e w6 ⟨b1, u1, x1, y1, rfl, hm⟩
  clear c_q_s0 c_q_s1 c_q_s2 c_q_s3 c_q_k0 c_q_k1 c_q_k2
  obtain ⟨q_s, q_k, O_s, B_d, B_x, q_x, hB⟩ := HQ.out
  clear HQ
  have P_t := LP.of hm
  have hst := hm.below
  obtain ⟨ab_t, cb_t, rfl, -, -, -, -⟩ := hm.store.v.1.1
  obtain ⟨au_t, cu_t, rfl, -, -, -, -⟩ := hm.store.v.1.2
  obtain ⟨ax_t, cx_t, rfl, -, -⟩ := hm.store.v.2.1.form rfl
  obtain ⟨ay_t, cy_t, rfl, -, -⟩ := hm.store.v.2.2.form rfl
  clear hm
  have sz_w6 : w5.heap.size ≤ w6.heap.size := hst.size
  replace q_s := q_s.step hst
  replace q_k := q_k.step hst
  replace O_s := O_s.step hst
  replace B_d := B_d.step hst
  replace B_x := B_x.step hst
  replace q_x := q_x.step hst
  replace hB := hB.step hst
  clear hst
  have HQ := Lib.hid (And.intro q_s (And.intro q_k (And.intro O_s (And.intro B_d (And.intro B_x (And.intro q_x (And.intro P_t hB)))))))
  clear q_s q_k O_s B_d B_x q_x P_t hB
  have c_q_s0 := LK.cell HQ.out.1 0
  have c_q_s1 := LK.cell HQ.out.1 1
  have c_q_s2 := LK.cell HQ.out.1 2
  have c_q_s3 := LK.cell HQ.out.1 3
  have c_q_k0 := LK.cell HQ.out.2.1 0
  have c_q_k1 := LK.cell HQ.out.2.1 1
  have c_q_k2 := LK.cell HQ.out.2.1 2
  simp at c_q_s0 c_q_s1 c_q_s2 c_q_s3 c_q_k0 c_q_k1 c_q_k2
  go_upto_region 9 with (fail)
  clear c_q_s0 c_q_s1 c_q_s2 c_q_s3 c_q_k0 c_q_k1 c_q_k2
  obtain ⟨q_s, q_k, O_s, B_d, B_x, q_x, P_t, hB⟩ := HQ.out
  clear HQ
  have hst := (Below.refl w6.heap.size w6).alloc (Nat.le_refl _) (.cells #[.slice ab_t T.disk.blocks.length cb_t, .slice au_t T.disk.waits.length cu_t, .slice ax_t T.now.length cx_t, .slice ay_t T.last.length cy_t] 46)
  have hlt : w6.heap.size < (w6.alloc (.cells #[.slice ab_t T.disk.blocks.length cb_t, .slice au_t T.disk.waits.length cu_t, .slice ax_t T.now.length cx_t, .slice ay_t T.last.length cy_t] 46)).heap.size := by simp
  have q_t := LK.new w6 (.cells #[.slice ab_t T.disk.blocks.length cb_t, .slice au_t T.disk.waits.length cu_t, .slice ax_t T.now.length cx_t, .slice ay_t T.last.length cy_t] 46)
  replace q_s := q_s.step hst
  replace q_k := q_k.step hst
  replace O_s := O_s.step hst
  replace B_d := B_d.step hst
  replace B_x := B_x.step hst
  replace q_x := q_x.step hst
  replace P_t := P_t.step hst
  replace hB := hB.step hst
  obtain ⟨w7, hw⟩ : ∃ v, w6.alloc (.cells #[.slice ab_t T.disk.blocks.length cb_t, .slice au_t T.disk.waits.length cu_t, .slice ax_t T.now.length cx_t, .slice ay_t T.last.length cy_t] 46) = v := ⟨_, rfl⟩
  rw [hw] at hlt q_t q_s q_k O_s B_d B_x q_x P_t hB ⊢
  clear hw hst
  have sz_w7 := hlt
  clear hlt
  have HQ := Lib.hid (And.intro q_s (And.intro q_k (And.intro O_s (And.intro B_d (And.intro B_x (And.intro q_x (And.intro P_t (And.intro q_t hB))))))))
  clear q_s q_k O_s B_d B_x q_x P_t q_t hB
  have c_q_s0 := LK.cell HQ.out.1 0
  have c_q_s1 := LK.cell HQ.out.1 1
  have c_q_s2 := LK.cell HQ.out.1 2
  have c_q_s3 := LK.cell HQ.out.1 3
  have c_q_k0 := LK.cell HQ.out.2.1 0
  have c_q_k1 := LK.cell HQ.out.2.1 1
  have c_q_k2 := LK.cell HQ.out.2.1 2
  have c_q_t0 := LK.cell HQ.out.2.2.2.2.2.2.2.1 0
  have c_q_t1 := LK.cell HQ.out.2.2.2.2.2.2.2.1 1
  have c_q_t2 := LK.cell HQ.out.2.2.2.2.2.2.2.1 2
  have c_q_t3 := LK.cell HQ.out.2.2.2.2.2.2.2.1 3
  simp at c_q_s0 c_q_s1 c_q_s2 c_q_s3 c_q_k0 c_q_k1 c_q_k2 c_q_t0 c_q_t1 c_q_t2 c_q_t3
  by_cases ht : et = 0
  case neg =>
    have i2 : (et == 0) = false := by simp [ht]
    go_wp2_with fail
    refine (HC.out.2.2.2.2.1 _ _ _ _ _ HQ.out.2.2.1.v).mono ?_
    rintro e w8 ⟨b2, u2, x2, y2, rfl, hm⟩
    clear c_q_s0 c_q_s1 c_q_s2 c_q_s3 c_q_k0 c_q_k1 c_q_k2 c_q_t0 c_q_t1 c_q_t2 c_q_t3
    obtain ⟨q_s, q_k, O_s, B_d, B_x, q_x, P_t, q_t, hB⟩ := HQ.out
    clear HQ
    have P_u := LP.of hm
    have hst := hm.below
    obtain ⟨ab_u, cb_u, rfl, -, -, -, -⟩ := hm.store.v.1.1
    obtain ⟨au_u, cu_u, rfl, -, -, -, -⟩ := hm.store.v.1.2
    obtain ⟨ax_u, cx_u, rfl, -, -⟩ := hm.store.v.2.1.form rfl
    obtain ⟨ay_u, cy_u, rfl, -, -⟩ := hm.store.v.2.2.form rfl
    clear hm
    have sz_w8 : w7.heap.size ≤ w8.heap.size := hst.size
    replace q_s := q_s.step hst
    replace q_k := q_k.step hst
    replace O_s := O_s.step hst
    replace B_d := B_d.step hst
    replace B_x := B_x.step hst
    replace q_x := q_x.step hst
    replace P_t := P_t.step hst
    replace q_t := q_t.step hst
    replace hB := hB.step hst
    clear hst
    have HQ := Lib.hid (And.intro q_s (And.intro q_k (And.intro O_s (And.intro B_d (And.intro B_x (And.intro q_x (And.intro P_t (And.intro q_t (And.intro P_u hB)))))))))
    clear q_s q_k O_s B_d B_x q_x P_t q_t P_u hB
    have c_q_s0 := LK.cell HQ.out.1 0
    have c_q_s1 := LK.cell HQ.out.1 1
    have c_q_s2 := LK.cell HQ.out.1 2
    have c_q_s3 := LK.cell HQ.out.1 3
    have c_q_k0 := LK.cell HQ.out.2.1 0
    have c_q_k1 := LK.cell HQ.out.2.1 1
    have c_q_k2 := LK.cell HQ.out.2.1 2
    have c_q_t0 := LK.cell HQ.out.2.2.2.2.2.2.2.1 0
    have c_q_t1 := LK.cell HQ.out.2.2.2.2.2.2.2.1 1
    have c_q_t2 := LK.cell HQ.out.2.2.2.2.2.2.2.1 2
    have c_q_t3 := LK.cell HQ.out.2.2.2.2.2.2.2.1 3
    simp at c_q_s0 c_q_s1 c_q_s2 c_q_s3 c_q_k0 c_q_k1 c_q_k2 c_q_t0 c_q_t1 c_q_t2 c_q_t3
    go_upto_region 15 with (fail)
    clear c_q_s0 c_q_s1 c_q_s2 c_q_s3 c_q_k0 c_q_k1 c_q_k2 c_q_t0 c_q_t1 c_q_t2 c_q_t3
    obtain ⟨q_s, q_k, O_s, B_d, B_x, q_x, P_t, q_t, P_u, hB⟩ := HQ.out
    clear HQ
    have hst := (Below.refl w8.heap.size w8).alloc (Nat.le_refl _) (.cells #[.slice ab_u U.disk.blocks.length cb_u, .slice au_u U.disk.waits.length cu_u, .slice ax_u U.now.length cx_u, .slice ay_u U.last.length cy_u] 46)
    have hlt : w8.heap.size < (w8.alloc (.cells #[.slice ab_u U.disk.blocks.length cb_u, .slice au_u U.disk.waits.length cu_u, .slice ax_u U.now.length cx_u, .slice ay_u U.last.length cy_u] 46)).heap.size := by simp
    have q_u := LK.new w8 (.cells #[.slice ab_u U.disk.blocks.length cb_u, .slice au_u U.disk.waits.length cu_u, .slice ax_u U.now.length cx_u, .slice ay_u U.last.length cy_u] 46)
    replace q_s := q_s.step hst
    replace q_k := q_k.step hst
    replace O_s := O_s.step hst
    replace B_d := B_d.step hst
    replace B_x := B_x.step hst
    replace q_x := q_x.step hst
    replace P_t := P_t.step hst
    replace q_t := q_t.step hst
    replace P_u := P_u.step hst
    replace hB := hB.step hst
    obtain ⟨w9, hw⟩ : ∃ v, w8.alloc (.cells #[.slice ab_u U.disk.blocks.length cb_u, .slice au_u U.disk.waits.length cu_u, .slice ax_u U.now.length cx_u, .slice ay_u U.last.length cy_u] 46) = v := ⟨_, rfl⟩
    rw [hw] at hlt q_u q_s q_k O_s B_d B_x q_x P_t q_t P_u hB ⊢
    clear hw hst
    have sz_w9 := hlt
    clear hlt
    have HQ := Lib.hid (And.intro q_s (And.intro q_k (And.intro O_s (And.intro B_d (And.intro B_x (And.intro q_x (And.intro P_t (And.intro q_t (And.intro P_u (And.intro q_u hB))))))))))
    clear q_s q_k O_s B_d B_x q_x P_t q_t P_u q_u hB
    have c_q_s0 := LK.cell HQ.out.1 0
    have c_q_s1 := LK.cell HQ.out.1 1
    have c_q_s2 := LK.cell HQ.out.1 2
    have c_q_s3 := LK.cell HQ.out.1 3
    have c_q_k0 := LK.cell HQ.out.2.1 0
    have c_q_k1 := LK.cell HQ.out.2.1 1
    have c_q_k2 := LK.cell HQ.out.2.1 2
    have c_q_t0 := LK.cell HQ.out.2.2.2.2.2.2.2.1 0
    have c_q_t1 := LK.cell HQ.out.2.2.2.2.2.2.2.1 1
    have c_q_t2 := LK.cell HQ.out.2.2.2.2.2.2.2.1 2
    have c_q_t3 := LK.cell HQ.out.2.2.2.2.2.2.2.1 3
    have c_q_u0 := LK.cell HQ.out.2.2.2.2.2.2.2.2.2.1 0
    have c_q_u1 := LK.cell HQ.out.2.2.2.2.2.2.2.2.2.1 1
    have c_q_u2 := LK.cell HQ.out.2.2.2.2.2.2.2.2.2.1 2
    have c_q_u3 := LK.cell HQ.out.2.2.2.2.2.2.2.2.2.1 3
    simp at c_q_s0 c_q_s1 c_q_s2 c_q_s3 c_q_k0 c_q_k1 c_q_k2 c_q_t0 c_q_t1 c_q_t2 c_q_t3 c_q_u0 c_q_u1 c_q_u2 c_q_u3
    by_cases hs : es = 0
    case neg =>
      have i4 : (es == 0) = false := by simp [hs]
      have i5 : (es != 0) = true := by simp [hs]
      go_wp2
      go_ret
      exact ⟨rfl, HQ.out.2.2.2.2.2.2.2.2.2.2⟩
    subst hs
    obtain ⟨z1, z2, z3, z4⟩ := HS.out rfl
    have mc := HC.out.2.2.2.2.2.2.2.1
    have mf := HC.out.2.2.2.2.2.2.2.2.1
    rw [z1, z2] at mc
    rw [z3, z4] at mf
    have MC := Lib.hid mc
    have MF := Lib.hid mf
    clear mc mf z1 z2 z3 z4 HS
    go_wp2_with fail
    refine (MC.out _ _ _ _ _ HQ.out.2.2.2.2.2.2.2.2.1.v).mono ?_
    rintro e w10 ⟨rfl, hst⟩
    clear c_q_s0 c_q_s1 c_q_s2 c_q_s3 c_q_k0 c_q_k1 c_q_k2 c_q_t0 c_q_t1 c_q_t2 c_q_t3 c_q_u0 c_q_u1 c_q_u2 c_q_u3
    obtain ⟨q_s, q_k, O_s, B_d, B_x, q_x, P_t, q_t, P_u, q_u, hB⟩ := HQ.out
    clear HQ
    have sz_w10 : w9.heap.size ≤ w10.heap.size := hst.size
    replace q_s := q_s.step hst
    replace q_k := q_k.step hst
    replace O_s := O_s.step hst
    replace B_d := B_d.step hst
    replace B_x := B_x.step hst
    replace q_x := q_x.step hst
    replace P_t := P_t.step hst
    replace q_t := q_t.step hst
    replace P_u := P_u.step hst
    replace q_u := q_u.step hst
    replace hB := hB.step hst
    clear hst
    have HQ := Lib.hid (And.intro q_s (And.intro q_k (And.intro O_s (And.intro B_d (And.intro B_x (And.intro q_x (And.intro P_t (And.intro q_t (And.intro P_u (And.intro q_u hB))))))))))
    clear q_s q_k O_s B_d B_x q_x P_t q_t P_u q_u hB
    have c_q_s0 := LK.cell HQ.out.1 0
    have c_q_s1 := LK.cell HQ.out.1 1
    have c_q_s2 := LK.cell HQ.out.1 2
    have c_q_s3 := LK.cell HQ.out.1 3
    have c_q_k0 := LK.cell HQ.out.2.1 0
    have c_q_k1 := LK.cell HQ.out.2.1 1
    have c_q_k2 := LK.cell HQ.out.2.1 2
    have c_q_t0 := LK.cell HQ.out.2.2.2.2.2.2.2.1 0
    have c_q_t1 := LK.cell HQ.out.2.2.2.2.2.2.2.1 1
    have c_q_t2 := LK.cell HQ.out.2.2.2.2.2.2.2.1 2
    have c_q_t3 := LK.cell HQ.out.2.2.2.2.2.2.2.1 3
    have c_q_u0 := LK.cell HQ.out.2.2.2.2.2.2.2.2.2.1 0
    have c_q_u1 := LK.cell HQ.out.2.2.2.2.2.2.2.2.2.1 1
    have c_q_u2 := LK.cell HQ.out.2.2.2.2.2.2.2.2.2.1 2
    have c_q_u3 := LK.cell HQ.out.2.2.2.2.2.2.2.2.2.1 3
    simp at c_q_s0 c_q_s1 c_q_s2 c_q_s3 c_q_k0 c_q_k1 c_q_k2 c_q_t0 c_q_t1 c_q_t2 c_q_t3 c_q_u0 c_q_u1 c_q_u2 c_q_u3
    go_wp2_with fail
    refine (MF.out _ _ _ _ _ HQ.out.2.2.2.2.2.2.2.2.1.v).mono ?_
    rintro e w11 ⟨v9, rfl, hm⟩
    clear c_q_s0 c_q_s1 c_q_s2 c_q_s3 c_q_k0 c_q_k1 c_q_k2 c_q_t0 c_q_t1 c_q_t2 c_q_t3 c_q_u0 c_q_u1 c_q_u2 c_q_u3
    obtain ⟨q_s, q_k, O_s, B_d, B_x, q_x, P_t, q_t, P_u, q_u, hB⟩ := HQ.out
    clear HQ
    have hst := hm.below
    have hvb := hm.bytes
    obtain ⟨a_z, c_z, rfl, -, -⟩ := hvb.form rfl
    have B_z := LB.of hvb (Nat.le_refl _)
    clear hvb hm
    have sz_w11 : w10.heap.size ≤ w11.heap.size := hst.size
    replace q_s := q_s.step hst
    replace q_k := q_k.step hst
    replace O_s := O_s.step hst
    replace B_d := B_d.step hst
    replace B_x := B_x.step hst
    replace q_x := q_x.step hst
    replace P_t := P_t.step hst
    replace q_t := q_t.step hst
    replace P_u := P_u.step hst
    replace q_u := q_u.step hst
    replace hB := hB.step hst
    clear hst
    have HQ := Lib.hid (And.intro q_s (And.intro q_k (And.intro O_s (And.intro B_d (And.intro B_x (And.intro q_x (And.intro P_t (And.intro q_t (And.intro P_u (And.intro q_u (And.intro B_z hB)))))))))))
    clear q_s q_k O_s B_d B_x q_x P_t q_t P_u q_u B_z hB
    have c_q_s0 := LK.cell HQ.out.1 0
    have c_q_s1 := LK.cell HQ.out.1 1
    have c_q_s2 := LK.cell HQ.out.1 2
    have c_q_s3 := LK.cell HQ.out.1 3
    have c_q_k0 := LK.cell HQ.out.2.1 0
    have c_q_k1 := LK.cell HQ.out.2.1 1
    have c_q_k2 := LK.cell HQ.out.2.1 2
    have c_q_t0 := LK.cell HQ.out.2.2.2.2.2.2.2.1 0
    have c_q_t1 := LK.cell HQ.out.2.2.2.2.2.2.2.1 1
    have c_q_t2 := LK.cell HQ.out.2.2.2.2.2.2.2.1 2
    have c_q_t3 := LK.cell HQ.out.2.2.2.2.2.2.2.1 3
    have c_q_u0 := LK.cell HQ.out.2.2.2.2.2.2.2.2.2.1 0
    have c_q_u1 := LK.cell HQ.out.2.2.2.2.2.2.2.2.2.1 1
    have c_q_u2 := LK.cell HQ.out.2.2.2.2.2.2.2.2.2.1 2
    have c_q_u3 := LK.cell HQ.out.2.2.2.2.2.2.2.2.2.1 3
    simp at c_q_s0 c_q_s1 c_q_s2 c_q_s3 c_q_k0 c_q_k1 c_q_k2 c_q_t0 c_q_t1 c_q_t2 c_q_t3 c_q_u0 c_q_u1 c_q_u2 c_q_u3
    go_upto_region 19 with (fail)
    clear c_q_s0 c_q_s1 c_q_s2 c_q_s3 c_q_k0 c_q_k1 c_q_k2 c_q_t0 c_q_t1 c_q_t2 c_q_t3 c_q_u0 c_q_u1 c_q_u2 c_q_u3
    obtain ⟨q_s, q_k, O_s, B_d, B_x, q_x, P_t, q_t, P_u, q_u, B_z, hB⟩ := HQ.out
    clear HQ
    have hst := (Below.refl w11.heap.size w11).alloc (Nat.le_refl _) (.cells #[.int .u8 (it.key.kind.toNat : Int), .int .u32 (it.key.id.toNat : Int), .int .u32 (it.key.off.toNat : Int), .int .i64 it.ref, .slice a_z it.val.length c_z] 56)
    have hlt : w11.heap.size < (w11.alloc (.cells #[.int .u8 (it.key.kind.toNat : Int), .int .u32 (it.key.id.toNat : Int), .int .u32 (it.key.off.toNat : Int), .int .i64 it.ref, .slice a_z it.val.length c_z] 56)).heap.size := by simp
    have q_z := LK.new w11 (.cells #[.int .u8 (it.key.kind.toNat : Int), .int .u32 (it.key.id.toNat : Int), .int .u32 (it.key.off.toNat : Int), .int .i64 it.ref, .slice a_z it.val.length c_z] 56)
    replace q_s := q_s.step hst
    replace q_k := q_k.step hst
    replace O_s := O_s.step hst
    replace B_d := B_d.step hst
    replace B_x := B_x.step hst
    replace q_x := q_x.step hst
    replace P_t := P_t.step hst
    replace q_t := q_t.step hst
    replace P_u := P_u.step hst
    replace q_u := q_u.step hst
    replace B_z := B_z.step hst
    replace hB := hB.step hst
    obtain ⟨w12, hw⟩ : ∃ v, w11.alloc (.cells #[.int .u8 (it.key.kind.toNat : Int), .int .u32 (it.key.id.toNat : Int), .int .u32 (it.key.off.toNat : Int), .int .i64 it.ref, .slice a_z it.val.length c_z] 56) = v := ⟨_, rfl⟩
    rw [hw] at hlt q_z q_s q_k O_s B_d B_x q_x P_t q_t P_u q_u B_z hB ⊢
    clear hw hst
    have sz_w12 := hlt
    clear hlt
    have HQ := Lib.hid (And.intro q_s (And.intro q_k (And.intro O_s (And.intro B_d (And.intro B_x (And.intro q_x (And.intro P_t (And.intro q_t (And.intro P_u (And.intro q_u (And.intro B_z (And.intro q_z hB))))))))))))
    clear q_s q_k O_s B_d B_x q_x P_t q_t P_u q_u B_z q_z hB
    have c_q_s0 := LK.cell HQ.out.1 0
    have c_q_s1 := LK.cell HQ.out.1 1
    have c_q_s2 := LK.cell HQ.out.1 2
    have c_q_s3 := LK.cell HQ.out.1 3
    have c_q_k0 := LK.cell HQ.out.2.1 0
    have c_q_k1 := LK.cell HQ.out.2.1 1
    have c_q_k2 := LK.cell HQ.out.2.1 2
    have c_q_t0 := LK.cell HQ.out.2.2.2.2.2.2.2.1 0
    have c_q_t1 := LK.cell HQ.out.2.2.2.2.2.2.2.1 1
    have c_q_t2 := LK.cell HQ.out.2.2.2.2.2.2.2.1 2
    have c_q_t3 := LK.cell HQ.out.2.2.2.2.2.2.2.1 3
    have c_q_u0 := LK.cell HQ.out.2.2.2.2.2.2.2.2.2.1 0
    have c_q_u1 := LK.cell HQ.out.2.2.2.2.2.2.2.2.2.1 1
    have c_q_u2 := LK.cell HQ.out.2.2.2.2.2.2.2.2.2.1 2
    have c_q_u3 := LK.cell HQ.out.2.2.2.2.2.2.2.2.2.1 3
    have c_q_z0 := LK.cell HQ.out.2.2.2.2.2.2.2.2.2.2.2.1 0
    have c_q_z1 := LK.cell HQ.out.2.2.2.2.2.2.2.2.2.2.2.1 1
    have c_q_z2 := LK.cell HQ.out.2.2.2.2.2.2.2.2.2.2.2.1 2
    have c_q_z3 := LK.cell HQ.out.2.2.2.2.2.2.2.2.2.2.2.1 3
    have c_q_z4 := LK.cell HQ.out.2.2.2.2.2.2.2.2.2.2.2.1 4
    simp at c_q_s0 c_q_s1 c_q_s2 c_q_s3 c_q_k0 c_q_k1 c_q_k2 c_q_t0 c_q_t1 c_q_t2 c_q_t3 c_q_u0 c_q_u1 c_q_u2 c_q_u3 c_q_z0 c_q_z1 c_q_z2 c_q_z3 c_q_z4
    clear c_q_s0 c_q_s1 c_q_s2 c_q_s3 c_q_k0 c_q_k1 c_q_k2 c_q_t0 c_q_t1 c_q_t2 c_q_t3 c_q_u0 c_q_u1 c_q_u2 c_q_u3 c_q_z0 c_q_z1 c_q_z2 c_q_z3 c_q_z4
    have c_q_s0 := LK.cell HQ.out.1 0
    have c_q_s1 := LK.cell HQ.out.1 1
    have c_q_s2 := LK.cell HQ.out.1 2
    have c_q_s3 := LK.cell HQ.out.1 3
    have c_q_k0 := LK.cell HQ.out.2.1 0
    have c_q_k1 := LK.cell HQ.out.2.1 1
    have c_q_k2 := LK.cell HQ.out.2.1 2
    have c_q_t0 := LK.cell HQ.out.2.2.2.2.2.2.2.1 0
    have c_q_t1 := LK.cell HQ.out.2.2.2.2.2.2.2.1 1
    have c_q_t2 := LK.cell HQ.out.2.2.2.2.2.2.2.1 2
    have c_q_t3 := LK.cell HQ.out.2.2.2.2.2.2.2.1 3
    have c_q_u0 := LK.cell HQ.out.2.2.2.2.2.2.2.2.2.1 0
    have c_q_u1 := LK.cell HQ.out.2.2.2.2.2.2.2.2.2.1 1
    have c_q_u2 := LK.cell HQ.out.2.2.2.2.2.2.2.2.2.1 2
    have c_q_u3 := LK.cell HQ.out.2.2.2.2.2.2.2.2.2.1 3
    have c_q_z0 := LK.cell HQ.out.2.2.2.2.2.2.2.2.2.2.2.1 0
    have c_q_z1 := LK.cell HQ.out.2.2.2.2.2.2.2.2.2.2.2.1 1
    have c_q_z2 := LK.cell HQ.out.2.2.2.2.2.2.2.2.2.2.2.1 2
    have c_q_z3 := LK.cell HQ.out.2.2.2.2.2.2.2.2.2.2.2.1 3
    have c_q_z4 := LK.cell HQ.out.2.2.2.2.2.2.2.2.2.2.2.1 4
    have c_q_x0 := LK.cell HQ.out.2.2.2.2.2.1 0
    have c_q_x1 := LK.cell HQ.out.2.2.2.2.2.1 1
    have c_q_x2 := LK.cell HQ.out.2.2.2.2.2.1 2
    have c_q_x3 := LK.cell HQ.out.2.2.2.2.2.1 3
    have c_q_x4 := LK.cell HQ.out.2.2.2.2.2.1 4
    simp at c_q_s0 c_q_s1 c_q_s2 c_q_s3 c_q_k0 c_q_k1 c_q_k2 c_q_t0 c_q_t1 c_q_t2 c_q_t3 c_q_u0 c_q_u1 c_q_u2 c_q_u3 c_q_z0 c_q_z1 c_q_z2 c_q_z3 c_q_z4 c_q_x0 c_q_x1 c_q_x2 c_q_x3 c_q_x4
    go_wp2_with fail
    refine (HC.out.2.2.2.2.2.2.2.2.2 _ _ _ HQ.out.2.2.2.2.1.v HQ.out.2.2.2.2.2.2.2.2.2.2.1.v).mono ?_
    rintro e w13 ⟨rfl, hst⟩
    clear c_q_s0 c_q_s1 c_q_s2 c_q_s3 c_q_k0 c_q_k1 c_q_k2 c_q_t0 c_q_t1 c_q_t2 c_q_t3 c_q_u0 c_q_u1 c_q_u2 c_q_u3 c_q_z0 c_q_z1 c_q_z2 c_q_z3 c_q_z4 c_q_x0 c_q_x1 c_q_x2 c_q_x3 c_q_x4
    obtain ⟨q_s, q_k, O_s, B_d, B_x, q_x, P_t, q_t, P_u, q_u, B_z, q_z, hB⟩ := HQ.out
    clear HQ
    have sz_w13 : w12.heap.size ≤ w13.heap.size := hst.size
    replace q_s := q_s.step hst
    replace q_k := q_k.step hst
    replace O_s := O_s.step hst
    replace B_d := B_d.step hst
    replace B_x := B_x.step hst
    replace q_x := q_x.step hst
    replace P_t := P_t.step hst
    replace q_t := q_t.step hst
    replace P_u := P_u.step hst
    replace q_u := q_u.step hst
    replace B_z := B_z.step hst
    replace q_z := q_z.step hst
    replace hB := hB.step hst
    clear hst
    have HQ := Lib.hid (And.intro q_s (And.intro q_k (And.intro O_s (And.intro B_d (And.intro B_x (And.intro q_x (And.intro P_t (And.intro q_t (And.intro P_u (And.intro q_u (And.intro B_z (And.intro q_z hB))))))))))))
    clear q_s q_k O_s B_d B_x q_x P_t q_t P_u q_u B_z q_z hB
    have c_q_s0 := LK.cell HQ.out.1 0
    have c_q_s1 := LK.cell HQ.out.1 1
    have c_q_s2 := LK.cell HQ.out.1 2
    have c_q_s3 := LK.cell HQ.out.1 3
    have c_q_k0 := LK.cell HQ.out.2.1 0
    have c_q_k1 := LK.cell HQ.out.2.1 1
    have c_q_k2 := LK.cell HQ.out.2.1 2
    have c_q_t0 := LK.cell HQ.out.2.2.2.2.2.2.2.1 0
    have c_q_t1 := LK.cell HQ.out.2.2.2.2.2.2.2.1 1
    have c_q_t2 := LK.cell HQ.out.2.2.2.2.2.2.2.1 2
    have c_q_t3 := LK.cell HQ.out.2.2.2.2.2.2.2.1 3
    have c_q_u0 := LK.cell HQ.out.2.2.2.2.2.2.2.2.2.1 0
    have c_q_u1 := LK.cell HQ.out.2.2.2.2.2.2.2.2.2.1 1
    have c_q_u2 := LK.cell HQ.out.2.2.2.2.2.2.2.2.2.1 2
    have c_q_u3 := LK.cell HQ.out.2.2.2.2.2.2.2.2.2.1 3
    have c_q_z0 := LK.cell HQ.out.2.2.2.2.2.2.2.2.2.2.2.1 0
    have c_q_z1 := LK.cell HQ.out.2.2.2.2.2.2.2.2.2.2.2.1 1
    have c_q_z2 := LK.cell HQ.out.2.2.2.2.2.2.2.2.2.2.2.1 2
    have c_q_z3 := LK.cell HQ.out.2.2.2.2.2.2.2.2.2.2.2.1 3
    have c_q_z4 := LK.cell HQ.out.2.2.2.2.2.2.2.2.2.2.2.1 4
    have c_q_x0 := LK.cell HQ.out.2.2.2.2.2.1 0
    have c_q_x1 := LK.cell HQ.out.2.2.2.2.2.1 1
    have c_q_x2 := LK.cell HQ.out.2.2.2.2.2.1 2
    have c_q_x3 := LK.cell HQ.out.2.2.2.2.2.1 3
    have c_q_x4 := LK.cell HQ.out.2.2.2.2.2.1 4
    simp at c_q_s0 c_q_s1 c_q_s2 c_q_s3 c_q_k0 c_q_k1 c_q_k2 c_q_t0 c_q_t1 c_q_t2 c_q_t3 c_q_u0 c_q_u1 c_q_u2 c_q_u3 c_q_z0 c_q_z1 c_q_z2 c_q_z3 c_q_z4 c_q_x0 c_q_x1 c_q_x2 c_q_x3 c_q_x4
    clear c_q_s0 c_q_s1 c_q_s2 c_q_s3 c_q_k0 c_q_k1 c_q_k2 c_q_t0 c_q_t1 c_q_t2 c_q_t3 c_q_u0 c_q_u1 c_q_u2 c_q_u3 c_q_z0 c_q_z1 c_q_z2 c_q_z3 c_q_z4 c_q_x0 c_q_x1 c_q_x2 c_q_x3 c_q_x4
    have c_q_s0 := LK.cell HQ.out.1 0
    have c_q_s1 := LK.cell HQ.out.1 1
    have c_q_s2 := LK.cell HQ.out.1 2
    have c_q_s3 := LK.cell HQ.out.1 3
    have c_q_k0 := LK.cell HQ.out.2.1 0
    have c_q_k1 := LK.cell HQ.out.2.1 1
    have c_q_k2 := LK.cell HQ.out.2.1 2
    have c_q_t0 := LK.cell HQ.out.2.2.2.2.2.2.2.1 0
    have c_q_t1 := LK.cell HQ.out.2.2.2.2.2.2.2.1 1
    have c_q_t2 := LK.cell HQ.out.2.2.2.2.2.2.2.1 2
    have c_q_t3 := LK.cell HQ.out.2.2.2.2.2.2.2.1 3
    have c_q_u0 := LK.cell HQ.out.2.2.2.2.2.2.2.2.2.1 0
    have c_q_u1 := LK.cell HQ.out.2.2.2.2.2.2.2.2.2.1 1
    have c_q_u2 := LK.cell HQ.out.2.2.2.2.2.2.2.2.2.1 2
    have c_q_u3 := LK.cell HQ.out.2.2.2.2.2.2.2.2.2.1 3
    have c_q_z0 := LK.cell HQ.out.2.2.2.2.2.2.2.2.2.2.2.1 0
    have c_q_z1 := LK.cell HQ.out.2.2.2.2.2.2.2.2.2.2.2.1 1
    have c_q_z2 := LK.cell HQ.out.2.2.2.2.2.2.2.2.2.2.2.1 2
    have c_q_z3 := LK.cell HQ.out.2.2.2.2.2.2.2.2.2.2.2.1 3
    have c_q_z4 := LK.cell HQ.out.2.2.2.2.2.2.2.2.2.2.2.1 4
    simp at c_q_s0 c_q_s1 c_q_s2 c_q_s3 c_q_k0 c_q_k1 c_q_k2 c_q_t0 c_q_t1 c_q_t2 c_q_t3 c_q_u0 c_q_u1 c_q_u2 c_q_u3 c_q_z0 c_q_z1 c_q_z2 c_q_z3 c_q_z4
    clear MC MF
    go_wp2
    go_ret
    exact ⟨rfl, HQ.out.2.2.2.2.2.2.2.2.2.2.2.2⟩
  subst ht
  obtain ⟨z1, z2, z3, z4⟩ := HT.out rfl
  have mc := HC.out.2.2.2.2.2.1
  have mf := HC.out.2.2.2.2.2.2.1
  rw [z1, z2] at mc
  rw [z3, z4] at mf
  have MC := Lib.hid mc
  have MF := Lib.hid mf
  clear mc mf z1 z2 z3 z4 HT
  go_wp2_with fail
  refine (MC.out _ _ _ _ _ HQ.out.2.2.2.2.2.2.1.v).mono ?_
  rintro e w8 ⟨rfl, hst⟩
  clear c_q_s0 c_q_s1 c_q_s2 c_q_s3 c_q_k0 c_q_k1 c_q_k2 c_q_t0 c_q_t1 c_q_t2 c_q_t3
  obtain ⟨q_s, q_k, O_s, B_d, B_x, q_x, P_t, q_t, hB⟩ := HQ.out
  clear HQ
  have sz_w8 : w7.heap.size ≤ w8.heap.size := hst.size
  replace q_s := q_s.step hst
  replace q_k := q_k.step hst
  replace O_s := O_s.step hst
  replace B_d := B_d.step hst
  replace B_x := B_x.step hst
  replace q_x := q_x.step hst
  replace P_t := P_t.step hst
  replace q_t := q_t.step hst
  replace hB := hB.step hst
  clear hst
  have HQ := Lib.hid (And.intro q_s (And.intro q_k (And.intro O_s (And.intro B_d (And.intro B_x (And.intro q_x (And.intro P_t (And.intro q_t hB))))))))
  clear q_s q_k O_s B_d B_x q_x P_t q_t hB
  have c_q_s0 := LK.cell HQ.out.1 0
  have c_q_s1 := LK.cell HQ.out.1 1
  have c_q_s2 := LK.cell HQ.out.1 2
  have c_q_s3 := LK.cell HQ.out.1 3
  have c_q_k0 := LK.cell HQ.out.2.1 0
  have c_q_k1 := LK.cell HQ.out.2.1 1
  have c_q_k2 := LK.cell HQ.out.2.1 2
  have c_q_t0 := LK.cell HQ.out.2.2.2.2.2.2.2.1 0
  have c_q_t1 := LK.cell HQ.out.2.2.2.2.2.2.2.1 1
  have c_q_t2 := LK.cell HQ.out.2.2.2.2.2.2.2.1 2
  have c_q_t3 := LK.cell HQ.out.2.2.2.2.2.2.2.1 3
  simp at c_q_s0 c_q_s1 c_q_s2 c_q_s3 c_q_k0 c_q_k1 c_q_k2 c_q_t0 c_q_t1 c_q_t2 c_q_t3
  go_wp2_with fail
  refine (MF.out _ _ _ _ _ HQ.out.2.2.2.2.2.2.1.v).mono ?_
  rintro e w9 ⟨v9, rfl, hm⟩
  clear c_q_s0 c_q_s1 c_q_s2 c_q_s3 c_q_k0 c_q_k1 c_q_k2 c_q_t0 c_q_t1 c_q_t2 c_q_t3
  obtain ⟨q_s, q_k, O_s, B_d, B_x, q_x, P_t, q_t, hB⟩ := HQ.out
  clear HQ
  have hst := hm.below
  have hvb := hm.bytes
  obtain ⟨a_y, c_y, rfl, -, -⟩ := hvb.form rfl
  have B_y := LB.of hvb (Nat.le_refl _)
  clear hvb hm
  have sz_w9 : w8.heap.size ≤ w9.heap.size := hst.size
  replace q_s := q_s.step hst
  replace q_k := q_k.step hst
  replace O_s := O_s.step hst
  replace B_d := B_d.step hst
  replace B_x := B_x.step hst
  replace q_x := q_x.step hst
  replace P_t := P_t.step hst
  replace q_t := q_t.step hst
  replace hB := hB.step hst
  clear hst
  have HQ := Lib.hid (And.intro q_s (And.intro q_k (And.intro O_s (And.intro B_d (And.intro B_x (And.intro q_x (And.intro P_t (And.intro q_t (And.intro B_y hB)))))))))
  clear q_s q_k O_s B_d B_x q_x P_t q_t B_y hB
  have c_q_s0 := LK.cell HQ.out.1 0
  have c_q_s1 := LK.cell HQ.out.1 1
  have c_q_s2 := LK.cell HQ.out.1 2
  have c_q_s3 := LK.cell HQ.out.1 3
  have c_q_k0 := LK.cell HQ.out.2.1 0
  have c_q_k1 := LK.cell HQ.out.2.1 1
  have c_q_k2 := LK.cell HQ.out.2.1 2
  have c_q_t0 := LK.cell HQ.out.2.2.2.2.2.2.2.1 0
  have c_q_t1 := LK.cell HQ.out.2.2.2.2.2.2.2.1 1
  have c_q_t2 := LK.cell HQ.out.2.2.2.2.2.2.2.1 2
  have c_q_t3 := LK.cell HQ.out.2.2.2.2.2.2.2.1 3
  simp at c_q_s0 c_q_s1 c_q_s2 c_q_s3 c_q_k0 c_q_k1 c_q_k2 c_q_t0 c_q_t1 c_q_t2 c_q_t3
  go_upto_region 12 with (fail)
  clear c_q_s0 c_q_s1 c_q_s2 c_q_s3 c_q_k0 c_q_k1 c_q_k2 c_q_t0 c_q_t1 c_q_t2 c_q_t3
  obtain ⟨q_s, q_k, O_s, B_d, B_x, q_x, P_t, q_t, B_y, hB⟩ := HQ.out
  clear HQ
  have hst := (Below.refl w9.heap.size w9).alloc (Nat.le_refl _) (.cells #[.int .u8 (it.key.kind.toNat : Int), .int .u32 (it.key.id.toNat : Int), .int .u32 (it.key.off.toNat : Int), .int .i64 it.ref, .slice a_y it.val.length c_y] 56)
  have hlt : w9.heap.size < (w9.alloc (.cells #[.int .u8 (it.key.kind.toNat : Int), .int .u32 (it.key.id.toNat : Int), .int .u32 (it.key.off.toNat : Int), .int .i64 it.ref, .slice a_y it.val.length c_y] 56)).heap.size := by simp
  have q_y := LK.new w9 (.cells #[.int .u8 (it.key.kind.toNat : Int), .int .u32 (it.key.id.toNat : Int), .int .u32 (it.key.off.toNat : Int), .int .i64 it.ref, .slice a_y it.val.length c_y] 56)
  replace q_s := q_s.step hst
  replace q_k := q_k.step hst
  replace O_s := O_s.step hst
  replace B_d := B_d.step hst
  replace B_x := B_x.step hst
  replace q_x := q_x.step hst
  replace P_t := P_t.step hst
  replace q_t := q_t.step hst
  replace B_y := B_y.step hst
  replace hB := hB.step hst
  obtain ⟨w10, hw⟩ : ∃ v, w9.alloc (.cells #[.int .u8 (it.key.kind.toNat : Int), .int .u32 (it.key.id.toNat : Int), .int .u32 (it.key.off.toNat : Int), .int .i64 it.ref, .slice a_y it.val.length c_y] 56) = v := ⟨_, rfl⟩
  rw [hw] at hlt q_y q_s q_k O_s B_d B_x q_x P_t q_t B_y hB ⊢
  clear hw hst
  have sz_w10 := hlt
  clear hlt
  have HQ := Lib.hid (And.intro q_s (And.intro q_k (And.intro O_s (And.intro B_d (And.intro B_x (And.intro q_x (And.intro P_t (And.intro q_t (And.intro B_y (And.intro q_y hB))))))))))
  clear q_s q_k O_s B_d B_x q_x P_t q_t B_y q_y hB
  have c_q_s0 := LK.cell HQ.out.1 0
  have c_q_s1 := LK.cell HQ.out.1 1
  have c_q_s2 := LK.cell HQ.out.1 2
  have c_q_s3 := LK.cell HQ.out.1 3
  have c_q_k0 := LK.cell HQ.out.2.1 0
  have c_q_k1 := LK.cell HQ.out.2.1 1
  have c_q_k2 := LK.cell HQ.out.2.1 2
  have c_q_t0 := LK.cell HQ.out.2.2.2.2.2.2.2.1 0
  have c_q_t1 := LK.cell HQ.out.2.2.2.2.2.2.2.1 1
  have c_q_t2 := LK.cell HQ.out.2.2.2.2.2.2.2.1 2
  have c_q_t3 := LK.cell HQ.out.2.2.2.2.2.2.2.1 3
  have c_q_y0 := LK.cell HQ.out.2.2.2.2.2.2.2.2.2.1 0
  have c_q_y1 := LK.cell HQ.out.2.2.2.2.2.2.2.2.2.1 1
  have c_q_y2 := LK.cell HQ.out.2.2.2.2.2.2.2.2.2.1 2
  have c_q_y3 := LK.cell HQ.out.2.2.2.2.2.2.2.2.2.1 3
  have c_q_y4 := LK.cell HQ.out.2.2.2.2.2.2.2.2.2.1 4
  simp at c_q_s0 c_q_s1 c_q_s2 c_q_s3 c_q_k0 c_q_k1 c_q_k2 c_q_t0 c_q_t1 c_q_t2 c_q_t3 c_q_y0 c_q_y1 c_q_y2 c_q_y3 c_q_y4
  clear c_q_s0 c_q_s1 c_q_s2 c_q_s3 c_q_k0 c_q_k1 c_q_k2 c_q_t0 c_q_t1 c_q_t2 c_q_t3 c_q_y0 c_q_y1 c_q_y2 c_q_y3 c_q_y4
  have c_q_s0 := LK.cell HQ.out.1 0
  have c_q_s1 := LK.cell HQ.out.1 1
  have c_q_s2 := LK.cell HQ.out.1 2
  have c_q_s3 := LK.cell HQ.out.1 3
  have c_q_k0 := LK.cell HQ.out.2.1 0
  have c_q_k1 := LK.cell HQ.out.2.1 1
  have c_q_k2 := LK.cell HQ.out.2.1 2
  have c_q_t0 := LK.cell HQ.out.2.2.2.2.2.2.2.1 0
  have c_q_t1 := LK.cell HQ.out.2.2.2.2.2.2.2.1 1
  have c_q_t2 := LK.cell HQ.out.2.2.2.2.2.2.2.1 2
  have c_q_t3 := LK.cell HQ.out.2.2.2.2.2.2.2.1 3
  have c_q_y0 := LK.cell HQ.out.2.2.2.2.2.2.2.2.2.1 0
  have c_q_y1 := LK.cell HQ.out.2.2.2.2.2.2.2.2.2.1 1
  have c_q_y2 := LK.cell HQ.out.2.2.2.2.2.2.2.2.2.1 2
  have c_q_y3 := LK.cell HQ.out.2.2.2.2.2.2.2.2.2.1 3
  have c_q_y4 := LK.cell HQ.out.2.2.2.2.2.2.2.2.2.1 4
  have c_q_x0 := LK.cell HQ.out.2.2.2.2.2.1 0
  have c_q_x1 := LK.cell HQ.out.2.2.2.2.2.1 1
  have c_q_x2 := LK.cell HQ.out.2.2.2.2.2.1 2
  have c_q_x3 := LK.cell HQ.out.2.2.2.2.2.1 3
  have c_q_x4 := LK.cell HQ.out.2.2.2.2.2.1 4
  simp at c_q_s0 c_q_s1 c_q_s2 c_q_s3 c_q_k0 c_q_k1 c_q_k2 c_q_t0 c_q_t1 c_q_t2 c_q_t3 c_q_y0 c_q_y1 c_q_y2 c_q_y3 c_q_y4 c_q_x0 c_q_x1 c_q_x2 c_q_x3 c_q_x4
  go_wp2_with fail
  refine (HC.out.2.2.2.2.2.2.2.2.2 _ _ _ HQ.out.2.2.2.2.1.v HQ.out.2.2.2.2.2.2.2.2.1.v).mono ?_
  rintro e w11 ⟨rfl, hst⟩
  clear c_q_s0 c_q_s1 c_q_s2 c_q_s3 c_q_k0 c_q_k1 c_q_k2 c_q_t0 c_q_t1 c_q_t2 c_q_t3 c_q_y0 c_q_y1 c_q_y2 c_q_y3 c_q_y4 c_q_x0 c_q_x1 c_q_x2 c_q_x3 c_q_x4
  obtain ⟨q_s, q_k, O_s, B_d, B_x, q_x, P_t, q_t, B_y, q_y, hB⟩ := HQ.out
  clear HQ
  have sz_w11 : w10.heap.size ≤ w11.heap.size := hst.size
  replace q_s := q_s.step hst
  replace q_k := q_k.step hst
  replace O_s := O_s.step hst
  replace B_d := B_d.step hst
  replace B_x := B_x.step hst
  replace q_x := q_x.step hst
  replace P_t := P_t.step hst
  replace q_t := q_t.step hst
  replace B_y := B_y.step hst
  replace q_y := q_y.step hst
  replace hB := hB.step hst
  clear hst
  have HQ := Lib.hid (And.intro q_s (And.intro q_k (And.intro O_s (And.intro B_d (And.intro B_x (And.intro q_x (And.intro P_t (And.intro q_t (And.intro B_y (And.intro q_y hB))))))))))
  clear q_s q_k O_s B_d B_x q_x P_t q_t B_y q_y hB
  have c_q_s0 := LK.cell HQ.out.1 0
  have c_q_s1 := LK.cell HQ.out.1 1
  have c_q_s2 := LK.cell HQ.out.1 2
  have c_q_s3 := LK.cell HQ.out.1 3
  have c_q_k0 := LK.cell HQ.out.2.1 0
  have c_q_k1 := LK.cell HQ.out.2.1 1
  have c_q_k2 := LK.cell HQ.out.2.1 2
  have c_q_t0 := LK.cell HQ.out.2.2.2.2.2.2.2.1 0
  have c_q_t1 := LK.cell HQ.out.2.2.2.2.2.2.2.1 1
  have c_q_t2 := LK.cell HQ.out.2.2.2.2.2.2.2.1 2
  have c_q_t3 := LK.cell HQ.out.2.2.2.2.2.2.2.1 3
  have c_q_y0 := LK.cell HQ.out.2.2.2.2.2.2.2.2.2.1 0
  have c_q_y1 := LK.cell HQ.out.2.2.2.2.2.2.2.2.2.1 1
  have c_q_y2 := LK.cell HQ.out.2.2.2.2.2.2.2.2.2.1 2
  have c_q_y3 := LK.cell HQ.out.2.2.2.2.2.2.2.2.2.1 3
  have c_q_y4 := LK.cell HQ.out.2.2.2.2.2.2.2.2.2.1 4
  have c_q_x0 := LK.cell HQ.out.2.2.2.2.2.1 0
  have c_q_x1 := LK.cell HQ.out.2.2.2.2.2.1 1
  have c_q_x2 := LK.cell HQ.out.2.2.2.2.2.1 2
  have c_q_x3 := LK.cell HQ.out.2.2.2.2.2.1 3
  have c_q_x4 := LK.cell HQ.out.2.2.2.2.2.1 4
  simp at c_q_s0 c_q_s1 c_q_s2 c_q_s3 c_q_k0 c_q_k1 c_q_k2 c_q_t0 c_q_t1 c_q_t2 c_q_t3 c_q_y0 c_q_y1 c_q_y2 c_q_y3 c_q_y4 c_q_x0 c_q_x1 c_q_x2 c_q_x3 c_q_x4
  clear c_q_s0 c_q_s1 c_q_s2 c_q_s3 c_q_k0 c_q_k1 c_q_k2 c_q_t0 c_q_t1 c_q_t2 c_q_t3 c_q_y0 c_q_y1 c_q_y2 c_q_y3 c_q_y4 c_q_x0 c_q_x1 c_q_x2 c_q_x3 c_q_x4
  have c_q_s0 := LK.cell HQ.out.1 0
  have c_q_s1 := LK.cell HQ.out.1 1
  have c_q_s2 := LK.cell HQ.out.1 2
  have c_q_s3 := LK.cell HQ.out.1 3
  have c_q_k0 := LK.cell HQ.out.2.1 0
  have c_q_k1 := LK.cell HQ.out.2.1 1
  have c_q_k2 := LK.cell HQ.out.2.1 2
  have c_q_t0 := LK.cell HQ.out.2.2.2.2.2.2.2.1 0
  have c_q_t1 := LK.cell HQ.out.2.2.2.2.2.2.2.1 1
  have c_q_t2 := LK.cell HQ.out.2.2.2.2.2.2.2.1 2
  have c_q_t3 := LK.cell HQ.out.2.2.2.2.2.2.2.1 3
  have c_q_y0 := LK.cell HQ.out.2.2.2.2.2.2.2.2.2.1 0
  have c_q_y1 := LK.cell HQ.out.2.2.2.2.2.2.2.2.2.1 1
  have c_q_y2 := LK.cell HQ.out.2.2.2.2.2.2.2.2.2.1 2
  have c_q_y3 := LK.cell HQ.out.2.2.2.2.2.2.2.2.2.1 3
  have c_q_y4 := LK.cell HQ.out.2.2.2.2.2.2.2.2.2.1 4
  simp at c_q_s0 c_q_s1 c_q_s2 c_q_s3 c_q_k0 c_q_k1 c_q_k2 c_q_t0 c_q_t1 c_q_t2 c_q_t3 c_q_y0 c_q_y1 c_q_y2 c_q_y3 c_q_y4
  clear MC MF
  go_wp2_with fail
  refine (HC.out.2.2.2.2.1 _ _ _ _ _ HQ.out.2.2.1.v).mono ?_
  rintro e w12 ⟨b2, u2, x2, y2, rfl, hm⟩
  clear c_q_s0 c_q_s1 c_q_s2 c_q_s3 c_q_k0 c_q_k1 c_q_k2 c_q_t0 c_q_t1 c_q_t2 c_q_t3 c_q_y0 c_q_y1 c_q_y2 c_q_y3 c_q_y4
  obtain ⟨q_s, q_k, O_s, B_d, B_x, q_x, P_t, q_t, B_y, q_y, hB⟩ := HQ.out
  clear HQ
  have P_u := LP.of hm
  have hst := hm.below
  obtain ⟨ab_u, cb_u, rfl, -, -, -, -⟩ := hm.store.v.1.1
  obtain ⟨au_u, cu_u, rfl, -, -, -, -⟩ := hm.store.v.1.2
  obtain ⟨ax_u, cx_u, rfl, -, -⟩ := hm.store.v.2.1.form rfl
  obtain ⟨ay_u, cy_u, rfl, -, -⟩ := hm.store.v.2.2.form rfl
  clear hm
  have sz_w12 : w11.heap.size ≤ w12.heap.size := hst.size
  replace q_s := q_s.step hst
  replace q_k := q_k.step hst
  replace O_s := O_s.step hst
  replace B_d := B_d.step hst
  replace B_x := B_x.step hst
  replace q_x := q_x.step hst
  replace P_t := P_t.step hst
  replace q_t := q_t.step hst
  replace B_y := B_y.step hst
  replace q_y := q_y.step hst
  replace hB := hB.step hst
  clear hst
  have HQ := Lib.hid (And.intro q_s (And.intro q_k (And.intro O_s (And.intro B_d (And.intro B_x (And.intro q_x (And.intro P_t (And.intro q_t (And.intro B_y (And.intro q_y (And.intro P_u hB)))))))))))
  clear q_s q_k O_s B_d B_x q_x P_t q_t B_y q_y P_u hB
  have c_q_s0 := LK.cell HQ.out.1 0
  have c_q_s1 := LK.cell HQ.out.1 1
  have c_q_s2 := LK.cell HQ.out.1 2
  have c_q_s3 := LK.cell HQ.out.1 3
  have c_q_k0 := LK.cell HQ.out.2.1 0
  have c_q_k1 := LK.cell HQ.out.2.1 1
  have c_q_k2 := LK.cell HQ.out.2.1 2
  have c_q_t0 := LK.cell HQ.out.2.2.2.2.2.2.2.1 0
  have c_q_t1 := LK.cell HQ.out.2.2.2.2.2.2.2.1 1
  have c_q_t2 := LK.cell HQ.out.2.2.2.2.2.2.2.1 2
  have c_q_t3 := LK.cell HQ.out.2.2.2.2.2.2.2.1 3
  have c_q_y0 := LK.cell HQ.out.2.2.2.2.2.2.2.2.2.1 0
  have c_q_y1 := LK.cell HQ.out.2.2.2.2.2.2.2.2.2.1 1
  have c_q_y2 := LK.cell HQ.out.2.2.2.2.2.2.2.2.2.1 2
  have c_q_y3 := LK.cell HQ.out.2.2.2.2.2.2.2.2.2.1 3
  have c_q_y4 := LK.cell HQ.out.2.2.2.2.2.2.2.2.2.1 4
  simp at c_q_s0 c_q_s1 c_q_s2 c_q_s3 c_q_k0 c_q_k1 c_q_k2 c_q_t0 c_q_t1 c_q_t2 c_q_t3 c_q_y0 c_q_y1 c_q_y2 c_q_y3 c_q_y4
  go_upto_region 15 with (fail)
  clear c_q_s0 c_q_s1 c_q_s2 c_q_s3 c_q_k0 c_q_k1 c_q_k2 c_q_t0 c_q_t1 c_q_t2 c_q_t3 c_q_y0 c_q_y1 c_q_y2 c_q_y3 c_q_y4
  obtain ⟨q_s, q_k, O_s, B_d, B_x, q_x, P_t, q_t, B_y, q_y, P_u, hB⟩ := HQ.out
  clear HQ
  have hst := (Below.refl w12.heap.size w12).alloc (Nat.le_refl _) (.cells #[.slice ab_u U.disk.blocks.length cb_u, .slice au_u U.disk.waits.length cu_u, .slice ax_u U.now.length cx_u, .slice ay_u U.last.length cy_u] 46)
  have hlt : w12.heap.size < (w12.alloc (.cells #[.slice ab_u U.disk.blocks.length cb_u, .slice au_u U.disk.waits.length cu_u, .slice ax_u U.now.length cx_u, .slice ay_u U.last.length cy_u] 46)).heap.size := by simp
  have q_u := LK.new w12 (.cells #[.slice ab_u U.disk.blocks.length cb_u, .slice au_u U.disk.waits.length cu_u, .slice ax_u U.now.length cx_u, .slice ay_u U.last.length cy_u] 46)
  replace q_s := q_s.step hst
  replace q_k := q_k.step hst
  replace O_s := O_s.step hst
  replace B_d := B_d.step hst
  replace B_x := B_x.step hst
  replace q_x := q_x.step hst
  replace P_t := P_t.step hst
  replace q_t := q_t.step hst
  replace B_y := B_y.step hst
  replace q_y := q_y.step hst
  replace P_u := P_u.step hst
  replace hB := hB.step hst
  obtain ⟨w13, hw⟩ : ∃ v, w12.alloc (.cells #[.slice ab_u U.disk.blocks.length cb_u, .slice au_u U.disk.waits.length cu_u, .slice ax_u U.now.length cx_u, .slice ay_u U.last.length cy_u] 46) = v := ⟨_, rfl⟩
  rw [hw] at hlt q_u q_s q_k O_s B_d B_x q_x P_t q_t B_y q_y P_u hB ⊢
  clear hw hst
  have sz_w13 := hlt
  clear hlt
  have HQ := Lib.hid (And.intro q_s (And.intro q_k (And.intro O_s (And.intro B_d (And.intro B_x (And.intro q_x (And.intro P_t (And.intro q_t (And.intro B_y (And.intro q_y (And.intro P_u (And.intro q_u hB))))))))))))
  clear q_s q_k O_s B_d B_x q_x P_t q_t B_y q_y P_u q_u hB
  have c_q_s0 := LK.cell HQ.out.1 0
  have c_q_s1 := LK.cell HQ.out.1 1
  have c_q_s2 := LK.cell HQ.out.1 2
  have c_q_s3 := LK.cell HQ.out.1 3
  have c_q_k0 := LK.cell HQ.out.2.1 0
  have c_q_k1 := LK.cell HQ.out.2.1 1
  have c_q_k2 := LK.cell HQ.out.2.1 2
  have c_q_t0 := LK.cell HQ.out.2.2.2.2.2.2.2.1 0
  have c_q_t1 := LK.cell HQ.out.2.2.2.2.2.2.2.1 1
  have c_q_t2 := LK.cell HQ.out.2.2.2.2.2.2.2.1 2
  have c_q_t3 := LK.cell HQ.out.2.2.2.2.2.2.2.1 3
  have c_q_y0 := LK.cell HQ.out.2.2.2.2.2.2.2.2.2.1 0
  have c_q_y1 := LK.cell HQ.out.2.2.2.2.2.2.2.2.2.1 1
  have c_q_y2 := LK.cell HQ.out.2.2.2.2.2.2.2.2.2.1 2
  have c_q_y3 := LK.cell HQ.out.2.2.2.2.2.2.2.2.2.1 3
  have c_q_y4 := LK.cell HQ.out.2.2.2.2.2.2.2.2.2.1 4
  have c_q_u0 := LK.cell HQ.out.2.2.2.2.2.2.2.2.2.2.2.1 0
  have c_q_u1 := LK.cell HQ.out.2.2.2.2.2.2.2.2.2.2.2.1 1
  have c_q_u2 := LK.cell HQ.out.2.2.2.2.2.2.2.2.2.2.2.1 2
  have c_q_u3 := LK.cell HQ.out.2.2.2.2.2.2.2.2.2.2.2.1 3
  simp at c_q_s0 c_q_s1 c_q_s2 c_q_s3 c_q_k0 c_q_k1 c_q_k2 c_q_t0 c_q_t1 c_q_t2 c_q_t3 c_q_y0 c_q_y1 c_q_y2 c_q_y3 c_q_y4 c_q_u0 c_q_u1 c_q_u2 c_q_u3
  by_cases hs : es = 0
  case neg =>
    have i4 : (es == 0) = false := by simp [hs]
    have i5 : (es != 0) = true := by simp [hs]
    go_wp2
    go_ret
    exact ⟨rfl, HQ.out.2.2.2.2.2.2.2.2.2.2.2.2⟩
  subst hs
  obtain ⟨z1, z2, z3, z4⟩ := HS.out rfl
  have mc := HC.out.2.2.2.2.2.2.2.1
  have mf := HC.out.2.2.2.2.2.2.2.2.1
  rw [z1, z2] at mc
  rw [z3, z4] at mf
  have MC := Lib.hid mc
  have MF := Lib.hid mf
  clear mc mf z1 z2 z3 z4 HS
  go_wp2_with fail
  refine (MC.out _ _ _ _ _ HQ.out.2.2.2.2.2.2.2.2.2.2.1.v).mono ?_
  rintro e w14 ⟨rfl, hst⟩
  clear c_q_s0 c_q_s1 c_q_s2 c_q_s3 c_q_k0 c_q_k1 c_q_k2 c_q_t0 c_q_t1 c_q_t2 c_q_t3 c_q_y0 c_q_y1 c_q_y2 c_q_y3 c_q_y4 c_q_u0 c_q_u1 c_q_u2 c_q_u3
  obtain ⟨q_s, q_k, O_s, B_d, B_x, q_x, P_t, q_t, B_y, q_y, P_u, q_u, hB⟩ := HQ.out
  clear HQ
  have sz_w14 : w13.heap.size ≤ w14.heap.size := hst.size
  replace q_s := q_s.step hst
  replace q_k := q_k.step hst
  replace O_s := O_s.step hst
  replace B_d := B_d.step hst
  replace B_x := B_x.step hst
  replace q_x := q_x.step hst
  replace P_t := P_t.step hst
  replace q_t := q_t.step hst
  replace B_y := B_y.step hst
  replace q_y := q_y.step hst
  replace P_u := P_u.step hst
  replace q_u := q_u.step hst
  replace hB := hB.step hst
  clear hst
  have HQ := Lib.hid (And.intro q_s (And.intro q_k (And.intro O_s (And.intro B_d (And.intro B_x (And.intro q_x (And.intro P_t (And.intro q_t (And.intro B_y (And.intro q_y (And.intro P_u (And.intro q_u hB))))))))))))
  clear q_s q_k O_s B_d B_x q_x P_t q_t B_y q_y P_u q_u hB
  have c_q_s0 := LK.cell HQ.out.1 0
  have c_q_s1 := LK.cell HQ.out.1 1
  have c_q_s2 := LK.cell HQ.out.1 2
  have c_q_s3 := LK.cell HQ.out.1 3
  have c_q_k0 := LK.cell HQ.out.2.1 0
  have c_q_k1 := LK.cell HQ.out.2.1 1
  have c_q_k2 := LK.cell HQ.out.2.1 2
  have c_q_t0 := LK.cell HQ.out.2.2.2.2.2.2.2.1 0
  have c_q_t1 := LK.cell HQ.out.2.2.2.2.2.2.2.1 1
  have c_q_t2 := LK.cell HQ.out.2.2.2.2.2.2.2.1 2
  have c_q_t3 := LK.cell HQ.out.2.2.2.2.2.2.2.1 3
  have c_q_y0 := LK.cell HQ.out.2.2.2.2.2.2.2.2.2.1 0
  have c_q_y1 := LK.cell HQ.out.2.2.2.2.2.2.2.2.2.1 1
  have c_q_y2 := LK.cell HQ.out.2.2.2.2.2.2.2.2.2.1 2
  have c_q_y3 := LK.cell HQ.out.2.2.2.2.2.2.2.2.2.1 3
  have c_q_y4 := LK.cell HQ.out.2.2.2.2.2.2.2.2.2.1 4
  have c_q_u0 := LK.cell HQ.out.2.2.2.2.2.2.2.2.2.2.2.1 0
  have c_q_u1 := LK.cell HQ.out.2.2.2.2.2.2.2.2.2.2.2.1 1
  have c_q_u2 := LK.cell HQ.out.2.2.2.2.2.2.2.2.2.2.2.1 2
  have c_q_u3 := LK.cell HQ.out.2.2.2.2.2.2.2.2.2.2.2.1 3
  simp at c_q_s0 c_q_s1 c_q_s2 c_q_s3 c_q_k0 c_q_k1 c_q_k2 c_q_t0 c_q_t1 c_q_t2 c_q_t3 c_q_y0 c_q_y1 c_q_y2 c_q_y3 c_q_y4 c_q_u0 c_q_u1 c_q_u2 c_q_u3
  go_wp2_with fail
  refine (MF.out _ _ _ _ _ HQ.out.2.2.2.2.2.2.2.2.2.2.1.v).mono ?_
  rintro e w15 ⟨v9, rfl, hm⟩
  clear c_q_s0 c_q_s1 c_q_s2 c_q_s3 c_q_k0 c_q_k1 c_q_k2 c_q_t0 c_q_t1 c_q_t2 c_q_t3 c_q_y0 c_q_y1 c_q_y2 c_q_y3 c_q_y4 c_q_u0 c_q_u1 c_q_u2 c_q_u3
  obtain ⟨q_s, q_k, O_s, B_d, B_x, q_x, P_t, q_t, B_y, q_y, P_u, q_u, hB⟩ := HQ.out
  clear HQ
  have hst := hm.below
  have hvb := hm.bytes
  obtain ⟨a_z, c_z, rfl, -, -⟩ := hvb.form rfl
  have B_z := LB.of hvb (Nat.le_refl _)
  clear hvb hm
  have sz_w15 : w14.heap.size ≤ w15.heap.size := hst.size
  replace q_s := q_s.step hst
  replace q_k := q_k.step hst
  replace O_s := O_s.step hst
  replace B_d := B_d.step hst
  replace B_x := B_x.step hst
  replace q_x := q_x.step hst
  replace P_t := P_t.step hst
  replace q_t := q_t.step hst
  replace B_y := B_y.step hst
  replace q_y := q_y.step hst
  replace P_u := P_u.step hst
  replace q_u := q_u.step hst
  replace hB := hB.step hst
  clear hst
  have HQ := Lib.hid (And.intro q_s (And.intro q_k (And.intro O_s (And.intro B_d (And.intro B_x (And.intro q_x (And.intro P_t (And.intro q_t (And.intro B_y (And.intro q_y (And.intro P_u (And.intro q_u (And.intro B_z hB)))))))))))))
  clear q_s q_k O_s B_d B_x q_x P_t q_t B_y q_y P_u q_u B_z hB
  have c_q_s0 := LK.cell HQ.out.1 0
  have c_q_s1 := LK.cell HQ.out.1 1
  have c_q_s2 := LK.cell HQ.out.1 2
  have c_q_s3 := LK.cell HQ.out.1 3
  have c_q_k0 := LK.cell HQ.out.2.1 0
  have c_q_k1 := LK.cell HQ.out.2.1 1
  have c_q_k2 := LK.cell HQ.out.2.1 2
  have c_q_t0 := LK.cell HQ.out.2.2.2.2.2.2.2.1 0
  have c_q_t1 := LK.cell HQ.out.2.2.2.2.2.2.2.1 1
  have c_q_t2 := LK.cell HQ.out.2.2.2.2.2.2.2.1 2
  have c_q_t3 := LK.cell HQ.out.2.2.2.2.2.2.2.1 3
  have c_q_y0 := LK.cell HQ.out.2.2.2.2.2.2.2.2.2.1 0
  have c_q_y1 := LK.cell HQ.out.2.2.2.2.2.2.2.2.2.1 1
  have c_q_y2 := LK.cell HQ.out.2.2.2.2.2.2.2.2.2.1 2
  have c_q_y3 := LK.cell HQ.out.2.2.2.2.2.2.2.2.2.1 3
  have c_q_y4 := LK.cell HQ.out.2.2.2.2.2.2.2.2.2.1 4
  have c_q_u0 := LK.cell HQ.out.2.2.2.2.2.2.2.2.2.2.2.1 0
  have c_q_u1 := LK.cell HQ.out.2.2.2.2.2.2.2.2.2.2.2.1 1
  have c_q_u2 := LK.cell HQ.out.2.2.2.2.2.2.2.2.2.2.2.1 2
  have c_q_u3 := LK.cell HQ.out.2.2.2.2.2.2.2.2.2.2.2.1 3
  simp at c_q_s0 c_q_s1 c_q_s2 c_q_s3 c_q_k0 c_q_k1 c_q_k2 c_q_t0 c_q_t1 c_q_t2 c_q_t3 c_q_y0 c_q_y1 c_q_y2 c_q_y3 c_q_y4 c_q_u0 c_q_u1 c_q_u2 c_q_u3
  go_upto_region 19 with (fail)
  clear c_q_s0 c_q_s1 c_q_s2 c_q_s3 c_q_k0 c_q_k1 c_q_k2 c_q_t0 c_q_t1 c_q_t2 c_q_t3 c_q_y0 c_q_y1 c_q_y2 c_q_y3 c_q_y4 c_q_u0 c_q_u1 c_q_u2 c_q_u3
  obtain ⟨q_s, q_k, O_s, B_d, B_x, q_x, P_t, q_t, B_y, q_y, P_u, q_u, B_z, hB⟩ := HQ.out
  clear HQ
  have hst := (Below.refl w15.heap.size w15).alloc (Nat.le_refl _) (.cells #[.int .u8 (it.key.kind.toNat : Int), .int .u32 (it.key.id.toNat : Int), .int .u32 (it.key.off.toNat : Int), .int .i64 it.ref, .slice a_z it.val.length c_z] 56)
  have hlt : w15.heap.size < (w15.alloc (.cells #[.int .u8 (it.key.kind.toNat : Int), .int .u32 (it.key.id.toNat : Int), .int .u32 (it.key.off.toNat : Int), .int .i64 it.ref, .slice a_z it.val.length c_z] 56)).heap.size := by simp
  have q_z := LK.new w15 (.cells #[.int .u8 (it.key.kind.toNat : Int), .int .u32 (it.key.id.toNat : Int), .int .u32 (it.key.off.toNat : Int), .int .i64 it.ref, .slice a_z it.val.length c_z] 56)
  replace q_s := q_s.step hst
  replace q_k := q_k.step hst
  replace O_s := O_s.step hst
  replace B_d := B_d.step hst
  replace B_x := B_x.step hst
  replace q_x := q_x.step hst
  replace P_t := P_t.step hst
  replace q_t := q_t.step hst
  replace B_y := B_y.step hst
  replace q_y := q_y.step hst
  replace P_u := P_u.step hst
  replace q_u := q_u.step hst
  replace B_z := B_z.step hst
  replace hB := hB.step hst
  obtain ⟨w16, hw⟩ : ∃ v, w15.alloc (.cells #[.int .u8 (it.key.kind.toNat : Int), .int .u32 (it.key.id.toNat : Int), .int .u32 (it.key.off.toNat : Int), .int .i64 it.ref, .slice a_z it.val.length c_z] 56) = v := ⟨_, rfl⟩
  rw [hw] at hlt q_z q_s q_k O_s B_d B_x q_x P_t q_t B_y q_y P_u q_u B_z hB ⊢
  clear hw hst
  have sz_w16 := hlt
  clear hlt
  have HQ := Lib.hid (And.intro q_s (And.intro q_k (And.intro O_s (And.intro B_d (And.intro B_x (And.intro q_x (And.intro P_t (And.intro q_t (And.intro B_y (And.intro q_y (And.intro P_u (And.intro q_u (And.intro B_z (And.intro q_z hB))))))))))))))
  clear q_s q_k O_s B_d B_x q_x P_t q_t B_y q_y P_u q_u B_z q_z hB
  have c_q_s0 := LK.cell HQ.out.1 0
  have c_q_s1 := LK.cell HQ.out.1 1
  have c_q_s2 := LK.cell HQ.out.1 2
  have c_q_s3 := LK.cell HQ.out.1 3
  have c_q_k0 := LK.cell HQ.out.2.1 0
  have c_q_k1 := LK.cell HQ.out.2.1 1
  have c_q_k2 := LK.cell HQ.out.2.1 2
  have c_q_t0 := LK.cell HQ.out.2.2.2.2.2.2.2.1 0
  have c_q_t1 := LK.cell HQ.out.2.2.2.2.2.2.2.1 1
  have c_q_t2 := LK.cell HQ.out.2.2.2.2.2.2.2.1 2
  have c_q_t3 := LK.cell HQ.out.2.2.2.2.2.2.2.1 3
  have c_q_y0 := LK.cell HQ.out.2.2.2.2.2.2.2.2.2.1 0
  have c_q_y1 := LK.cell HQ.out.2.2.2.2.2.2.2.2.2.1 1
  have c_q_y2 := LK.cell HQ.out.2.2.2.2.2.2.2.2.2.1 2
  have c_q_y3 := LK.cell HQ.out.2.2.2.2.2.2.2.2.2.1 3
  have c_q_y4 := LK.cell HQ.out.2.2.2.2.2.2.2.2.2.1 4
  have c_q_u0 := LK.cell HQ.out.2.2.2.2.2.2.2.2.2.2.2.1 0
  have c_q_u1 := LK.cell HQ.out.2.2.2.2.2.2.2.2.2.2.2.1 1
  have c_q_u2 := LK.cell HQ.out.2.2.2.2.2.2.2.2.2.2.2.1 2
  have c_q_u3 := LK.cell HQ.out.2.2.2.2.2.2.2.2.2.2.2.1 3
  have c_q_z0 := LK.cell HQ.out.2.2.2.2.2.2.2.2.2.2.2.2.2.1 0
  have c_q_z1 := LK.cell HQ.out.2.2.2.2.2.2.2.2.2.2.2.2.2.1 1
  have c_q_z2 := LK.cell HQ.out.2.2.2.2.2.2.2.2.2.2.2.2.2.1 2
  have c_q_z3 := LK.cell HQ.out.2.2.2.2.2.2.2.2.2.2.2.2.2.1 3
  have c_q_z4 := LK.cell HQ.out.2.2.2.2.2.2.2.2.2.2.2.2.2.1 4
  simp at c_q_s0 c_q_s1 c_q_s2 c_q_s3 c_q_k0 c_q_k1 c_q_k2 c_q_t0 c_q_t1 c_q_t2 c_q_t3 c_q_y0 c_q_y1 c_q_y2 c_q_y3 c_q_y4 c_q_u0 c_q_u1 c_q_u2 c_q_u3 c_q_z0 c_q_z1 c_q_z2 c_q_z3 c_q_z4
  clear c_q_s0 c_q_s1 c_q_s2 c_q_s3 c_q_k0 c_q_k1 c_q_k2 c_q_t0 c_q_t1 c_q_t2 c_q_t3 c_q_y0 c_q_y1 c_q_y2 c_q_y3 c_q_y4 c_q_u0 c_q_u1 c_q_u2 c_q_u3 c_q_z0 c_q_z1 c_q_z2 c_q_z3 c_q_z4
  have c_q_s0 := LK.cell HQ.out.1 0
  have c_q_s1 := LK.cell HQ.out.1 1
  have c_q_s2 := LK.cell HQ.out.1 2
  have c_q_s3 := LK.cell HQ.out.1 3
  have c_q_k0 := LK.cell HQ.out.2.1 0
  have c_q_k1 := LK.cell HQ.out.2.1 1
  have c_q_k2 := LK.cell HQ.out.2.1 2
  have c_q_t0 := LK.cell HQ.out.2.2.2.2.2.2.2.1 0
  have c_q_t1 := LK.cell HQ.out.2.2.2.2.2.2.2.1 1
  have c_q_t2 := LK.cell HQ.out.2.2.2.2.2.2.2.1 2
  have c_q_t3 := LK.cell HQ.out.2.2.2.2.2.2.2.1 3
  have c_q_y0 := LK.cell HQ.out.2.2.2.2.2.2.2.2.2.1 0
  have c_q_y1 := LK.cell HQ.out.2.2.2.2.2.2.2.2.2.1 1
  have c_q_y2 := LK.cell HQ.out.2.2.2.2.2.2.2.2.2.1 2
  have c_q_y3 := LK.cell HQ.out.2.2.2.2.2.2.2.2.2.1 3
  have c_q_y4 := LK.cell HQ.out.2.2.2.2.2.2.2.2.2.1 4
  have c_q_u0 := LK.cell HQ.out.2.2.2.2.2.2.2.2.2.2.2.1 0
  have c_q_u1 := LK.cell HQ.out.2.2.2.2.2.2.2.2.2.2.2.1 1
  have c_q_u2 := LK.cell HQ.out.2.2.2.2.2.2.2.2.2.2.2.1 2
  have c_q_u3 := LK.cell HQ.out.2.2.2.2.2.2.2.2.2.2.2.1 3
  have c_q_z0 := LK.cell HQ.out.2.2.2.2.2.2.2.2.2.2.2.2.2.1 0
  have c_q_z1 := LK.cell HQ.out.2.2.2.2.2.2.2.2.2.2.2.2.2.1 1
  have c_q_z2 := LK.cell HQ.out.2.2.2.2.2.2.2.2.2.2.2.2.2.1 2
  have c_q_z3 := LK.cell HQ.out.2.2.2.2.2.2.2.2.2.2.2.2.2.1 3
  have c_q_z4 := LK.cell HQ.out.2.2.2.2.2.2.2.2.2.2.2.2.2.1 4
  have c_q_x0 := LK.cell HQ.out.2.2.2.2.2.1 0
  have c_q_x1 := LK.cell HQ.out.2.2.2.2.2.1 1
  have c_q_x2 := LK.cell HQ.out.2.2.2.2.2.1 2
  have c_q_x3 := LK.cell HQ.out.2.2.2.2.2.1 3
  have c_q_x4 := LK.cell HQ.out.2.2.2.2.2.1 4
  simp at c_q_s0 c_q_s1 c_q_s2 c_q_s3 c_q_k0 c_q_k1 c_q_k2 c_q_t0 c_q_t1 c_q_t2 c_q_t3 c_q_y0 c_q_y1 c_q_y2 c_q_y3 c_q_y4 c_q_u0 c_q_u1 c_q_u2 c_q_u3 c_q_z0 c_q_z1 c_q_z2 c_q_z3 c_q_z4 c_q_x0 c_q_x1 c_q_x2 c_q_x3 c_q_x4
  go_wp2_with fail
  refine (HC.out.2.2.2.2.2.2.2.2.2 _ _ _ HQ.out.2.2.2.2.1.v HQ.out.2.2.2.2.2.2.2.2.2.2.2.2.1.v).mono ?_
  rintro e w17 ⟨rfl, hst⟩
  clear c_q_s0 c_q_s1 c_q_s2 c_q_s3 c_q_k0 c_q_k1 c_q_k2 c_q_t0 c_q_t1 c_q_t2 c_q_t3 c_q_y0 c_q_y1 c_q_y2 c_q_y3 c_q_y4 c_q_u0 c_q_u1 c_q_u2 c_q_u3 c_q_z0 c_q_z1 c_q_z2 c_q_z3 c_q_z4 c_q_x0 c_q_x1 c_q_x2 c_q_x3 c_q_x4
  obtain ⟨q_s, q_k, O_s, B_d, B_x, q_x, P_t, q_t, B_y, q_y, P_u, q_u, B_z, q_z, hB⟩ := HQ.out
  clear HQ
  have sz_w17 : w16.heap.size ≤ w17.heap.size := hst.size
  replace q_s := q_s.step hst
  replace q_k := q_k.step hst
  replace O_s := O_s.step hst
  replace B_d := B_d.step hst
  replace B_x := B_x.step hst
  replace q_x := q_x.step hst
  replace P_t := P_t.step hst
  replace q_t := q_t.step hst
  replace B_y := B_y.step hst
  replace q_y := q_y.step hst
  replace P_u := P_u.step hst
  replace q_u := q_u.step hst
  replace B_z := B_z.step hst
  replace q_z := q_z.step hst
  replace hB := hB.step hst
  clear hst
  have HQ := Lib.hid (And.intro q_s (And.intro q_k (And.intro O_s (And.intro B_d (And.intro B_x (And.intro q_x (And.intro P_t (And.intro q_t (And.intro B_y (And.intro q_y (And.intro P_u (And.intro q_u (And.intro B_z (And.intro q_z hB))))))))))))))
  clear q_s q_k O_s B_d B_x q_x P_t q_t B_y q_y P_u q_u B_z q_z hB
  have c_q_s0 := LK.cell HQ.out.1 0
  have c_q_s1 := LK.cell HQ.out.1 1
  have c_q_s2 := LK.cell HQ.out.1 2
  have c_q_s3 := LK.cell HQ.out.1 3
  have c_q_k0 := LK.cell HQ.out.2.1 0
  have c_q_k1 := LK.cell HQ.out.2.1 1
  have c_q_k2 := LK.cell HQ.out.2.1 2
  have c_q_t0 := LK.cell HQ.out.2.2.2.2.2.2.2.1 0
  have c_q_t1 := LK.cell HQ.out.2.2.2.2.2.2.2.1 1
  have c_q_t2 := LK.cell HQ.out.2.2.2.2.2.2.2.1 2
  have c_q_t3 := LK.cell HQ.out.2.2.2.2.2.2.2.1 3
  have c_q_y0 := LK.cell HQ.out.2.2.2.2.2.2.2.2.2.1 0
  have c_q_y1 := LK.cell HQ.out.2.2.2.2.2.2.2.2.2.1 1
  have c_q_y2 := LK.cell HQ.out.2.2.2.2.2.2.2.2.2.1 2
  have c_q_y3 := LK.cell HQ.out.2.2.2.2.2.2.2.2.2.1 3
  have c_q_y4 := LK.cell HQ.out.2.2.2.2.2.2.2.2.2.1 4
  have c_q_u0 := LK.cell HQ.out.2.2.2.2.2.2.2.2.2.2.2.1 0
  have c_q_u1 := LK.cell HQ.out.2.2.2.2.2.2.2.2.2.2.2.1 1
  have c_q_u2 := LK.cell HQ.out.2.2.2.2.2.2.2.2.2.2.2.1 2
  have c_q_u3 := LK.cell HQ.out.2.2.2.2.2.2.2.2.2.2.2.1 3
  have c_q_z0 := LK.cell HQ.out.2.2.2.2.2.2.2.2.2.2.2.2.2.1 0
  have c_q_z1 := LK.cell HQ.out.2.2.2.2.2.2.2.2.2.2.2.2.2.1 1
  have c_q_z2 := LK.cell HQ.out.2.2.2.2.2.2.2.2.2.2.2.2.2.1 2
  have c_q_z3 := LK.cell HQ.out.2.2.2.2.2.2.2.2.2.2.2.2.2.1 3
  have c_q_z4 := LK.cell HQ.out.2.2.2.2.2.2.2.2.2.2.2.2.2.1 4
  have c_q_x0 := LK.cell HQ.out.2.2.2.2.2.1 0
  have c_q_x1 := LK.cell HQ.out.2.2.2.2.2.1 1
  have c_q_x2 := LK.cell HQ.out.2.2.2.2.2.1 2
  have c_q_x3 := LK.cell HQ.out.2.2.2.2.2.1 3
  have c_q_x4 := LK.cell HQ.out.2.2.2.2.2.1 4
  simp at c_q_s0 c_q_s1 c_q_s2 c_q_s3 c_q_k0 c_q_k1 c_q_k2 c_q_t0 c_q_t1 c_q_t2 c_q_t3 c_q_y0 c_q_y1 c_q_y2 c_q_y3 c_q_y4 c_q_u0 c_q_u1 c_q_u2 c_q_u3 c_q_z0 c_q_z1 c_q_z2 c_q_z3 c_q_z4 c_q_x0 c_q_x1 c_q_x2 c_q_x3 c_q_x4
  clear c_q_s0 c_q_s1 c_q_s2 c_q_s3 c_q_k0 c_q_k1 c_q_k2 c_q_t0 c_q_t1 c_q_t2 c_q_t3 c_q_y0 c_q_y1 c_q_y2 c_q_y3 c_q_y4 c_q_u0 c_q_u1 c_q_u2 c_q_u3 c_q_z0 c_q_z1 c_q_z2 c_q_z3 c_q_z4 c_q_x0 c_q_x1 c_q_x2 c_q_x3 c_q_x4
  have c_q_s0 := LK.cell HQ.out.1 0
  have c_q_s1 := LK.cell HQ.out.1 1
  have c_q_s2 := LK.cell HQ.out.1 2
  have c_q_s3 := LK.cell HQ.out.1 3
  have c_q_k0 := LK.cell HQ.out.2.1 0
  have c_q_k1 := LK.cell HQ.out.2.1 1
  have c_q_k2 := LK.cell HQ.out.2.1 2
  have c_q_t0 := LK.cell HQ.out.2.2.2.2.2.2.2.1 0
  have c_q_t1 := LK.cell HQ.out.2.2.2.2.2.2.2.1 1
  have c_q_t2 := LK.cell HQ.out.2.2.2.2.2.2.2.1 2
  have c_q_t3 := LK.cell HQ.out.2.2.2.2.2.2.2.1 3
  have c_q_y0 := LK.cell HQ.out.2.2.2.2.2.2.2.2.2.1 0
  have c_q_y1 := LK.cell HQ.out.2.2.2.2.2.2.2.2.2.1 1
  have c_q_y2 := LK.cell HQ.out.2.2.2.2.2.2.2.2.2.1 2
  have c_q_y3 := LK.cell HQ.out.2.2.2.2.2.2.2.2.2.1 3
  have c_q_y4 := LK.cell HQ.out.2.2.2.2.2.2.2.2.2.1 4
  have c_q_u0 := LK.cell HQ.out.2.2.2.2.2.2.2.2.2.2.2.1 0
  have c_q_u1 := LK.cell HQ.out.2.2.2.2.2.2.2.2.2.2.2.1 1
  have c_q_u2 := LK.cell HQ.out.2.2.2.2.2.2.2.2.2.2.2.1 2
  have c_q_u3 := LK.cell HQ.out.2.2.2.2.2.2.2.2.2.2.2.1 3
  have c_q_z0 := LK.cell HQ.out.2.2.2.2.2.2.2.2.2.2.2.2.2.1 0
  have c_q_z1 := LK.cell HQ.out.2.2.2.2.2.2.2.2.2.2.2.2.2.1 1
  have c_q_z2 := LK.cell HQ.out.2.2.2.2.2.2.2.2.2.2.2.2.2.1 2
  have c_q_z3 := LK.cell HQ.out.2.2.2.2.2.2.2.2.2.2.2.2.2.1 3
  have c_q_z4 := LK.cell HQ.out.2.2.2.2.2.2.2.2.2.2.2.2.2.1 4
  simp at c_q_s0 c_q_s1 c_q_s2 c_q_s3 c_q_k0 c_q_k1 c_q_k2 c_q_t0 c_q_t1 c_q_t2 c_q_t3 c_q_y0 c_q_y1 c_q_y2 c_q_y3 c_q_y4 c_q_u0 c_q_u1 c_q_u2 c_q_u3 c_q_z0 c_q_z1 c_q_z2 c_q_z3 c_q_z4
  clear MC MF
  go_wp2
  go_ret
  exact ⟨rfl, HQ.out.2.2.2.2.2.2.2.2.2.2.2.2.2.2⟩

end Go.Proofs.Ytcibihakjcenaaa

namespace Go.Proofs.Ytcibihakjcenaaa
open Go.ChangeShapes Go.WideShapes Go.ChangeAt Go.RowKit

theorem own_ : ownKnob Try.prog.godebug = none := by kernel_rfl
theorem laidOut_ : laidOutB Try.prog = true := by kernel_rfl

theorem arg_bytes {H : Type} {enc : TypeId × Value → H} {P : Program} {W : World} {r : Reach} {base b0 : Nat} {spare : Nat → Bool} {held : Bool} {t e : TypeId} {v : Value} {d : DataW H} {p : List MemPlace} (ht : P.underlying t = some (.slice e)) (he : P.underlying e = some (.int .u8))
    (hC : P.cellsOf e = 1) (hv : Value.okWide P W r base t v) (h : DataW.Trod enc P W b0 spare held t v d p) : ∃ l, Bytes W 0 W.heap.size v l := by
  obtain ⟨a, len, cap, rfl⟩ := okWide_slice ht hv
  obtain ⟨fuel, hf⟩ := h
  rcases open_ints ht he hC hf with ⟨hcs, _⟩ | ⟨x, l, c, zs, hcs, _, hl, hm, hz, _, hcell, hwz⟩
  · simp [Value.cells] at hcs
    obtain ⟨rfl, rfl, rfl⟩ := hcs
    exact ⟨[], Bytes.nil_ _ _ _⟩
  · simp [Value.cells] at hcs
    obtain ⟨rfl, rfl, rfl⟩ := hcs
    have hz' : zs.length = cap ∨ zs.length = len := by first | exact .inl hz | (split at hz <;> first | exact .inl hz | exact .inr hz)
    have hb8 : ∀ n ∈ zs, 0 ≤ n ∧ n ≤ 255 := fun n hn => bounds_u8 (hwz n hn)
    have hll : len ≤ zs.length := by omega
    refine ⟨(zs.take len).map fun n => UInt8.ofNat n.toNat, some x, cap, by simp [Nat.min_eq_left hll], by simp; omega, hm, fun hp => ?_, fun h => by cases h⟩
    have hp' : 0 < len := by simp at hp; omega
    have h0 := hcell 0 (by omega)
    obtain ⟨b, off, spot⟩ := x
    have hspot : spot = none := by simpa [Addr.add] using World.cell?_spot h0
    subst hspot
    have hblk : b < W.heap.size := cell_lt' (a := ⟨b, off, none⟩) (by simpa [Addr.add] using h0)
    refine ⟨b, off, rfl, Nat.zero_le _, hblk, fun i y hy => ?_⟩
    have hi : i < len := by have := (List.getElem?_eq_some_iff.1 hy).1; simp at this; omega
    have hc := hcell i (by omega)
    have e2 : (⟨b, off, none⟩ : Addr).add i = ⟨b, off + i, none⟩ := by unfold Addr.add; split <;> simp_all
    rw [e2] at hc
    rw [hc]
    have hi2 : i < zs.length := by omega
    have hbz := hb8 zs[i] (List.getElem_mem hi2)
    simp [hi, hi2] at hy
    subst hy
    simp [bV, hi2]
    omega
end Go.Proofs.Ytcibihakjcenaaa

