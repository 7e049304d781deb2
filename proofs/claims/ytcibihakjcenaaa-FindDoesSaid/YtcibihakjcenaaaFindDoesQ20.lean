/- FindDoes: the words and contracts, part 20. -/
import Derived.Test.YtcibihakjcenaaaFindDoesQ1
import Derived.Test.YtcibihakjcenaaaFindDoesQ2
import Derived.Test.YtcibihakjcenaaaFindDoesQ3
import Derived.Test.YtcibihakjcenaaaFindDoesQ4
import Derived.Test.YtcibihakjcenaaaFindDoesQ5
import Derived.Test.YtcibihakjcenaaaFindDoesQ6
import Derived.Test.YtcibihakjcenaaaFindDoesQ7
import Derived.Test.YtcibihakjcenaaaFindDoesQ8
import Derived.Test.YtcibihakjcenaaaFindDoesQ9
import Derived.Test.YtcibihakjcenaaaFindDoesQ10
import Derived.Test.YtcibihakjcenaaaFindDoesQ11
import Derived.Test.YtcibihakjcenaaaFindDoesQ12
import Derived.Test.YtcibihakjcenaaaFindDoesQ13
import Derived.Test.YtcibihakjcenaaaFindDoesQ14
import Derived.Test.YtcibihakjcenaaaFindDoesQ15
import Derived.Test.YtcibihakjcenaaaFindDoesQ16
import Derived.Test.YtcibihakjcenaaaFindDoesQ17
import Derived.Test.YtcibihakjcenaaaFindDoesQ18
import Derived.Test.YtcibihakjcenaaaFindDoesQ19
import Derived.Test.YtcibihakjcenaaaChecked
import Derived.WalkKit
import Derived.WalkLawsBesides
import Derived.WalkSpells
import Derived.Lib.Hide
import Derived.Laws.Rows
import Derived.Laws.AppendOwnNone
import Derived.Maps.AppendAt
import Derived.RangeFuncNested
import Derived.RangeFuncBound
import Derived.RangeFuncCalls
import Derived.RangeFuncLeaves
import Derived.RangeFuncBox
import Derived.Shelf.Abstract
import Derived.Shelf.RegionOpen
import Derived.OwnWalkIn
import Derived.TacticsInMore
import Derived.LoopNIn
import Derived.LoopIn
import Derived.ProofKit
import Derived.Deep.Slices
import Derived.WideShapes
import Derived.OrdersHeld
import Derived.Deep.QuietTactic
import Derived.BigQuiet
import Derived.StillTailTactics
import Derived.OpenShut
import Derived.Lib.SliceRun
import Derived.Lib.AppendZerosOnto
import Derived.Lib.Walk
import Derived.Deep.LoopGhost
import Derived.Laws.CopyOwn
import Derived.Deep.DeepCutAuto
import Derived.Laws.CopyRow
import Derived.Laws.MakeOwn
import Derived.Deep.RegionHeld
import Derived.KernelRfl
import Derived.BigFrameIn
import Derived.OrdersIn
import Derived.Laws.EntriesVeiled
import Derived.Sort.CutIn
import Derived.ArgAppend
import Derived.ShutString
import Derived.ChangeOld
import Derived.Below
namespace Go.Proofs.Ytcibihakjcenaaa
open Go.RowKit

set_option linter.unusedSimpArgs false
set_option maxRecDepth 100000 in
set_option maxHeartbeats 4000000 in
theorem findDoes_walk (b_s u_s x_s y_s : Value) (s : StoreL) (p : Int) (k : KeyL) (w : World) (h_s : StoreV w 0 w.heap.size b_s u_s x_s y_s s) (_wp : (Lit.int .i64 p).wf = true) :
    Calls Try.prog 4 #[.agg #[b_s, u_s, x_s, y_s], .int .i64 p, .agg #[bV k.kind, wV k.id, wV k.off]] w fun e w' => e = .returned (.bool true) ∧ Below w.heap.size w w' := by
  obtain ⟨ab_s, cb_s, rfl, gb_s, gc_s, -, -⟩ := h_s.1.1
  obtain ⟨au_s, cu_s, rfl, gu_s, gv_s, -, -⟩ := h_s.1.2
  obtain ⟨ax_s, cx_s, rfl, gx_s, gz_s⟩ := h_s.2.1.form rfl
  obtain ⟨ay_s, cy_s, rfl, gy_s, gw_s⟩ := h_s.2.2.form rfl
  unfold maxLen at gc_s gv_s gz_s gw_s
  obtain ⟨k_k, k_i, k_o⟩ := k
  simp only [bV, wV]
  have hst := (((Below.refl w.heap.size w).alloc (Nat.le_refl _) (.cells #[.slice ab_s s.disk.blocks.length cb_s, .slice au_s s.disk.waits.length cu_s, .slice ax_s s.now.length cx_s, .slice ay_s s.last.length cy_s] 46)).alloc (by simp) (.cells #[.int .u8 (k_k.toNat : Int), .int .u32 (k_i.toNat : Int), .int .u32 (k_o.toNat : Int)] 48))
  have hq := two_new w (.cells #[.slice ab_s s.disk.blocks.length cb_s, .slice au_s s.disk.waits.length cu_s, .slice ax_s s.now.length cx_s, .slice ay_s s.last.length cy_s] 46) (.cells #[.int .u8 (k_k.toNat : Int), .int .u32 (k_i.toNat : Int), .int .u32 (k_o.toNat : Int)] 48)
  have q_s := LK.of hq.1
  have q_k := LK.of hq.2
  have hB : LW w _ := hst
  have O_s := (LO.of h_s (Nat.le_refl _)).step hst
  have sz_V : w.heap.size + 1 < ((w.alloc (.cells #[.slice ab_s s.disk.blocks.length cb_s, .slice au_s s.disk.waits.length cu_s, .slice ax_s s.now.length cx_s, .slice ay_s s.last.length cy_s] 46)).alloc (.cells #[.int .u8 (k_k.toNat : Int), .int .u32 (k_i.toNat : Int), .int .u32 (k_o.toNat : Int)] 48)).heap.size := by simp
  obtain ⟨V, hV⟩ : ∃ V, ((w.alloc (.cells #[.slice ab_s s.disk.blocks.length cb_s, .slice au_s s.disk.waits.length cu_s, .slice ax_s s.now.length cx_s, .slice ay_s s.last.length cy_s] 46)).alloc (.cells #[.int .u8 (k_k.toNat : Int), .int .u32 (k_i.toNat : Int), .int .u32 (k_o.toNat : Int)] 48)) = V := ⟨_, rfl⟩
  rw [hV] at sz_V q_s q_k O_s hB
  clear hst h_s hq
  have HQ := Lib.hid (And.intro q_s (And.intro q_k (And.intro O_s hB)))
  clear q_s q_k O_s hB
  have c_q_s0 := LK.cell HQ.out.1 0
  have c_q_s1 := LK.cell HQ.out.1 1
  have c_q_s2 := LK.cell HQ.out.1 2
  have c_q_s3 := LK.cell HQ.out.1 3
  have c_q_k0 := LK.cell HQ.out.2.1 0
  have c_q_k1 := LK.cell HQ.out.2.1 1
  have c_q_k2 := LK.cell HQ.out.2.1 2
  simp at c_q_s0 c_q_s1 c_q_s2 c_q_s3 c_q_k0 c_q_k1 c_q_k2
  have m_g := fun V b u x y hh => great8_any b u x y s V hh
  have m_t := fun V b u x y hh hf => rstwin_any b u x y s V hh hf
  have m_c := fun V b u x y hh => fcheck_any b u x y s p V hh
  have m_d := fun V b u x y hh => rfcheck_any b u x y s p V hh
  have m_f := fun V b u x y hh => ffind_any b u x y s p ⟨k_k, k_i, k_o⟩ V hh
  have m_h := fun V b u x y hh => rffind_any b u x y s p ⟨k_k, k_i, k_o⟩ V hh
  have m_i := fun V v u hv hu => rsame_any (itmF s p ⟨k_k, k_i, k_o⟩) (itmF s p ⟨k_k, k_i, k_o⟩) v u V hv hu
  have m_s := fun V b u x y b2 u2 x2 y2 h1 h2 => rssame_any b u x y s b2 u2 x2 y2 s V h1 h2
  generalize errCk s p = ec at *
  generalize heiC s p = hc at *
  obtain ⟨ef, hef⟩ : ∃ e, errFd s p ⟨k_k, k_i, k_o⟩ = e := ⟨_, rfl⟩
  obtain ⟨it, hit⟩ : ∃ e, itmF s p ⟨k_k, k_i, k_o⟩ = e := ⟨_, rfl⟩
  simp only [hef, hit] at m_f m_h m_i
  simp only [itemV, bV, wV, decide_true] at m_f m_h m_i
  simp only [decide_true] at m_s
  clear hef hit
  have HC := Lib.hid (And.intro m_g (And.intro m_t (And.intro m_c (And.intro m_d (And.intro m_f (And.intro m_h (And.intro m_i m_s)))))))
  clear m_g m_t m_c m_d m_f m_h m_i m_s
  go_enter Try.func4, Try.ntmps4
  go_upto_region 1 with (fail)
  clear hV
  go_wp2_with fail
  refine (HC.out.1 _ _ _ _ _ HQ.out.2.2.1.v).mono ?_
  rintro e w1 ⟨g, rfl, hst, hg⟩
  clear c_q_s0 c_q_s1 c_q_s2 c_q_s3 c_q_k0 c_q_k1 c_q_k2
  obtain ⟨q_s, q_k, O_s, hB⟩ := HQ.out
  clear HQ
  have sz_w1 : V.heap.size ≤ w1.heap.size := hst.size
  replace q_s := q_s.step hst
  replace q_k := q_k.step hst
  replace O_s := O_s.step hst
  replace hB := hB.step hst
  clear hst
  have HQ := Lib.hid (And.intro q_s (And.intro q_k (And.intro O_s hB)))
  clear q_s q_k O_s hB
  have c_q_s0 := LK.cell HQ.out.1 0
  have c_q_s1 := LK.cell HQ.out.1 1
  have c_q_s2 := LK.cell HQ.out.1 2
  have c_q_s3 := LK.cell HQ.out.1 3
  have c_q_k0 := LK.cell HQ.out.2.1 0
  have c_q_k1 := LK.cell HQ.out.2.1 1
  have c_q_k2 := LK.cell HQ.out.2.1 2
  simp at c_q_s0 c_q_s1 c_q_s2 c_q_s3 c_q_k0 c_q_k1 c_q_k2
  cases g
  case true =>
    go_wp2
    go_ret
    exact ⟨rfl, HQ.out.2.2.2⟩
  have hsm := hg rfl
  have hfew : FewS s := hsm.few
  clear hsm
  clear hg
  have HFEW := Lib.hid hfew
  clear hfew
  go_wp2_with fail
  refine (HC.out.2.1 _ _ _ _ _ HQ.out.2.2.1.v HFEW.out).mono ?_
  rintro e w2 ⟨b1, u1, x1, y1, rfl, hsv, hst⟩
  clear c_q_s0 c_q_s1 c_q_s2 c_q_s3 c_q_k0 c_q_k1 c_q_k2
  obtain ⟨q_s, q_k, O_s, hB⟩ := HQ.out
  clear HQ
  have O_o := LO.of hsv (Nat.le_refl _)
  obtain ⟨ab_o, cb_o, rfl, -, -, -, -⟩ := hsv.1.1
  obtain ⟨au_o, cu_o, rfl, -, -, -, -⟩ := hsv.1.2
  obtain ⟨ax_o, cx_o, rfl, -, -⟩ := hsv.2.1.form rfl
  obtain ⟨ay_o, cy_o, rfl, -, -⟩ := hsv.2.2.form rfl
  clear hsv
  have sz_w2 : w1.heap.size ≤ w2.heap.size := hst.size
  replace q_s := q_s.step hst
  replace q_k := q_k.step hst
  replace O_s := O_s.step hst
  replace hB := hB.step hst
  clear hst
  have HQ := Lib.hid (And.intro q_s (And.intro q_k (And.intro O_s (And.intro O_o hB))))
  clear q_s q_k O_s O_o hB
  have c_q_s0 := LK.cell HQ.out.1 0
  have c_q_s1 := LK.cell HQ.out.1 1
  have c_q_s2 := LK.cell HQ.out.1 2
  have c_q_s3 := LK.cell HQ.out.1 3
  have c_q_k0 := LK.cell HQ.out.2.1 0
  have c_q_k1 := LK.cell HQ.out.2.1 1
  have c_q_k2 := LK.cell HQ.out.2.1 2
  simp at c_q_s0 c_q_s1 c_q_s2 c_q_s3 c_q_k0 c_q_k1 c_q_k2
  go_upto_region 4 with (fail)
  clear c_q_s0 c_q_s1 c_q_s2 c_q_s3 c_q_k0 c_q_k1 c_q_k2
  obtain ⟨q_s, q_k, O_s, O_o, hB⟩ := HQ.out
  clear HQ
  have hst := (Below.refl w2.heap.size w2).alloc (Nat.le_refl _) (.cells #[.slice ab_o s.disk.blocks.length cb_o, .slice au_o s.disk.waits.length cu_o, .slice ax_o s.now.length cx_o, .slice ay_o s.last.length cy_o] 46)
  have hlt : w2.heap.size < (w2.alloc (.cells #[.slice ab_o s.disk.blocks.length cb_o, .slice au_o s.disk.waits.length cu_o, .slice ax_o s.now.length cx_o, .slice ay_o s.last.length cy_o] 46)).heap.size := by simp
  have q_o := LK.new w2 (.cells #[.slice ab_o s.disk.blocks.length cb_o, .slice au_o s.disk.waits.length cu_o, .slice ax_o s.now.length cx_o, .slice ay_o s.last.length cy_o] 46)
  replace q_s := q_s.step hst
  replace q_k := q_k.step hst
  replace O_s := O_s.step hst
  replace O_o := O_o.step hst
  replace hB := hB.step hst
  obtain ⟨w3, hw⟩ : ∃ v, w2.alloc (.cells #[.slice ab_o s.disk.blocks.length cb_o, .slice au_o s.disk.waits.length cu_o, .slice ax_o s.now.length cx_o, .slice ay_o s.last.length cy_o] 46) = v := ⟨_, rfl⟩
  rw [hw] at hlt q_o q_s q_k O_s O_o hB ⊢
  clear hw hst
  have sz_w3 := hlt
  clear hlt
  have HQ := Lib.hid (And.intro q_s (And.intro q_k (And.intro O_s (And.intro O_o (And.intro q_o hB)))))
  clear q_s q_k O_s O_o q_o hB
  have c_q_s0 := LK.cell HQ.out.1 0
  have c_q_s1 := LK.cell HQ.out.1 1
  have c_q_s2 := LK.cell HQ.out.1 2
  have c_q_s3 := LK.cell HQ.out.1 3
  have c_q_k0 := LK.cell HQ.out.2.1 0
  have c_q_k1 := LK.cell HQ.out.2.1 1
  have c_q_k2 := LK.cell HQ.out.2.1 2
  have c_q_o0 := LK.cell HQ.out.2.2.2.2.1 0
  have c_q_o1 := LK.cell HQ.out.2.2.2.2.1 1
  have c_q_o2 := LK.cell HQ.out.2.2.2.2.1 2
  have c_q_o3 := LK.cell HQ.out.2.2.2.2.1 3
  simp at c_q_s0 c_q_s1 c_q_s2 c_q_s3 c_q_k0 c_q_k1 c_q_k2 c_q_o0 c_q_o1 c_q_o2 c_q_o3
  go_wp2_with fail
  refine (HC.out.2.2.1 _ _ _ _ _ HQ.out.2.2.2.1.v).mono ?_
  rintro e w4 ⟨rfl, hst⟩
  clear c_q_s0 c_q_s1 c_q_s2 c_q_s3 c_q_k0 c_q_k1 c_q_k2 c_q_o0 c_q_o1 c_q_o2 c_q_o3
  obtain ⟨q_s, q_k, O_s, O_o, q_o, hB⟩ := HQ.out
  clear HQ
  have sz_w4 : w3.heap.size ≤ w4.heap.size := hst.size
  replace q_s := q_s.step hst
  replace q_k := q_k.step hst
  replace O_s := O_s.step hst
  replace O_o := O_o.step hst
  replace q_o := q_o.step hst
  replace hB := hB.step hst
  clear hst
  have HQ := Lib.hid (And.intro q_s (And.intro q_k (And.intro O_s (And.intro O_o (And.intro q_o hB)))))
  clear q_s q_k O_s O_o q_o hB
  have c_q_s0 := LK.cell HQ.out.1 0
  have c_q_s1 := LK.cell HQ.out.1 1
  have c_q_s2 := LK.cell HQ.out.1 2
  have c_q_s3 := LK.cell HQ.out.1 3
  have c_q_k0 := LK.cell HQ.out.2.1 0
  have c_q_k1 := LK.cell HQ.out.2.1 1
  have c_q_k2 := LK.cell HQ.out.2.1 2
  have c_q_o0 := LK.cell HQ.out.2.2.2.2.1 0
  have c_q_o1 := LK.cell HQ.out.2.2.2.2.1 1
  have c_q_o2 := LK.cell HQ.out.2.2.2.2.1 2
  have c_q_o3 := LK.cell HQ.out.2.2.2.2.1 3
  simp at c_q_s0 c_q_s1 c_q_s2 c_q_s3 c_q_k0 c_q_k1 c_q_k2 c_q_o0 c_q_o1 c_q_o2 c_q_o3
  go_wp2_with fail
  refine (HC.out.2.2.2.1 _ _ _ _ _ HQ.out.2.2.1.v).mono ?_
  rintro e w5 ⟨rfl, hst⟩
  clear c_q_s0 c_q_s1 c_q_s2 c_q_s3 c_q_k0 c_q_k1 c_q_k2 c_q_o0 c_q_o1 c_q_o2 c_q_o3
  obtain ⟨q_s, q_k, O_s, O_o, q_o, hB⟩ := HQ.out
  clear HQ
  have sz_w5 : w4.heap.size ≤ w5.heap.size := hst.size
  replace q_s := q_s.step hst
  replace q_k := q_k.step hst
  replace O_s := O_s.step hst
  replace O_o := O_o.step hst
  replace q_o := q_o.step hst
  replace hB := hB.step hst
  clear hst
  have HQ := Lib.hid (And.intro q_s (And.intro q_k (And.intro O_s (And.intro O_o (And.intro q_o hB)))))
  clear q_s q_k O_s O_o q_o hB
  have c_q_s0 := LK.cell HQ.out.1 0
  have c_q_s1 := LK.cell HQ.out.1 1
  have c_q_s2 := LK.cell HQ.out.1 2
  have c_q_s3 := LK.cell HQ.out.1 3
  have c_q_k0 := LK.cell HQ.out.2.1 0
  have c_q_k1 := LK.cell HQ.out.2.1 1
  have c_q_k2 := LK.cell HQ.out.2.1 2
  have c_q_o0 := LK.cell HQ.out.2.2.2.2.1 0
  have c_q_o1 := LK.cell HQ.out.2.2.2.2.1 1
  have c_q_o2 := LK.cell HQ.out.2.2.2.2.1 2
  have c_q_o3 := LK.cell HQ.out.2.2.2.2.1 3
  simp at c_q_s0 c_q_s1 c_q_s2 c_q_s3 c_q_k0 c_q_k1 c_q_k2 c_q_o0 c_q_o1 c_q_o2 c_q_o3
  go_wp2_with fail
  refine (HC.out.2.2.2.2.1 _ _ _ _ _ HQ.out.2.2.2.1.v).mono ?_
  rintro e w6 ⟨v9, rfl, hm⟩
  clear c_q_s0 c_q_s1 c_q_s2 c_q_s3 c_q_k0 c_q_k1 c_q_k2 c_q_o0 c_q_o1 c_q_o2 c_q_o3
  obtain ⟨q_s, q_k, O_s, O_o, q_o, hB⟩ := HQ.out
  clear HQ
  have hst := hm.below
  have hmb := hm.bytes
  obtain ⟨a_x, c_x, rfl, -, -⟩ := hmb.form rfl
  have B_x := LM.of hm
  clear hm hmb
  have sz_w6 : w5.heap.size ≤ w6.heap.size := hst.size
  replace q_s := q_s.step hst
  replace q_k := q_k.step hst
  replace O_s := O_s.step hst
  replace O_o := O_o.step hst
  replace q_o := q_o.step hst
  replace hB := hB.step hst
  clear hst
  have HQ := Lib.hid (And.intro q_s (And.intro q_k (And.intro O_s (And.intro O_o (And.intro q_o (And.intro B_x hB))))))
  clear q_s q_k O_s O_o q_o B_x hB
  have c_q_s0 := LK.cell HQ.out.1 0
  have c_q_s1 := LK.cell HQ.out.1 1
  have c_q_s2 := LK.cell HQ.out.1 2
  have c_q_s3 := LK.cell HQ.out.1 3
  have c_q_k0 := LK.cell HQ.out.2.1 0
  have c_q_k1 := LK.cell HQ.out.2.1 1
  have c_q_k2 := LK.cell HQ.out.2.1 2
  have c_q_o0 := LK.cell HQ.out.2.2.2.2.1 0
  have c_q_o1 := LK.cell HQ.out.2.2.2.2.1 1
  have c_q_o2 := LK.cell HQ.out.2.2.2.2.1 2
  have c_q_o3 := LK.cell HQ.out.2.2.2.2.1 3
  simp at c_q_s0 c_q_s1 c_q_s2 c_q_s3 c_q_k0 c_q_k1 c_q_k2 c_q_o0 c_q_o1 c_q_o2 c_q_o3
  go_upto_region 7 with (fail)
  clear c_q_s0 c_q_s1 c_q_s2 c_q_s3 c_q_k0 c_q_k1 c_q_k2 c_q_o0 c_q_o1 c_q_o2 c_q_o3
  obtain ⟨q_s, q_k, O_s, O_o, q_o, B_x, hB⟩ := HQ.out
  clear HQ
  have hst := (Below.refl w6.heap.size w6).alloc (Nat.le_refl _) (.cells #[.int .u8 (it.key.kind.toNat : Int), .int .u32 (it.key.id.toNat : Int), .int .u32 (it.key.off.toNat : Int), .int .i64 it.ref, .slice a_x it.val.length c_x] 56)
  have hlt : w6.heap.size < (w6.alloc (.cells #[.int .u8 (it.key.kind.toNat : Int), .int .u32 (it.key.id.toNat : Int), .int .u32 (it.key.off.toNat : Int), .int .i64 it.ref, .slice a_x it.val.length c_x] 56)).heap.size := by simp
  have q_x := LK.new w6 (.cells #[.int .u8 (it.key.kind.toNat : Int), .int .u32 (it.key.id.toNat : Int), .int .u32 (it.key.off.toNat : Int), .int .i64 it.ref, .slice a_x it.val.length c_x] 56)
  replace q_s := q_s.step hst
  replace q_k := q_k.step hst
  replace O_s := O_s.step hst
  replace O_o := O_o.step hst
  replace q_o := q_o.step hst
  replace B_x := B_x.step hst
  replace hB := hB.step hst
  obtain ⟨w7, hw⟩ : ∃ v, w6.alloc (.cells #[.int .u8 (it.key.kind.toNat : Int), .int .u32 (it.key.id.toNat : Int), .int .u32 (it.key.off.toNat : Int), .int .i64 it.ref, .slice a_x it.val.length c_x] 56) = v := ⟨_, rfl⟩
  rw [hw] at hlt q_x q_s q_k O_s O_o q_o B_x hB ⊢
  clear hw hst
  have sz_w7 := hlt
  clear hlt
  have HQ := Lib.hid (And.intro q_s (And.intro q_k (And.intro O_s (And.intro O_o (And.intro q_o (And.intro B_x (And.intro q_x hB)))))))
  clear q_s q_k O_s O_o q_o B_x q_x hB
  have c_q_s0 := LK.cell HQ.out.1 0
  have c_q_s1 := LK.cell HQ.out.1 1
  have c_q_s2 := LK.cell HQ.out.1 2
  have c_q_s3 := LK.cell HQ.out.1 3
  have c_q_k0 := LK.cell HQ.out.2.1 0
  have c_q_k1 := LK.cell HQ.out.2.1 1
  have c_q_k2 := LK.cell HQ.out.2.1 2
  have c_q_o0 := LK.cell HQ.out.2.2.2.2.1 0
  have c_q_o1 := LK.cell HQ.out.2.2.2.2.1 1
  have c_q_o2 := LK.cell HQ.out.2.2.2.2.1 2
  have c_q_o3 := LK.cell HQ.out.2.2.2.2.1 3
  have c_q_x0 := LK.cell HQ.out.2.2.2.2.2.2.1 0
  have c_q_x1 := LK.cell HQ.out.2.2.2.2.2.2.1 1
  have c_q_x2 := LK.cell HQ.out.2.2.2.2.2.2.1 2
  have c_q_x3 := LK.cell HQ.out.2.2.2.2.2.2.1 3
  have c_q_x4 := LK.cell HQ.out.2.2.2.2.2.2.1 4
  simp at c_q_s0 c_q_s1 c_q_s2 c_q_s3 c_q_k0 c_q_k1 c_q_k2 c_q_o0 c_q_o1 c_q_o2 c_q_o3 c_q_x0 c_q_x1 c_q_x2 c_q_x3 c_q_x4
  go_wp2_with fail
  refine (HC.out.2.2.2.2.2.1 _ _ _ _ _ HQ.out.2.2.1.v).mono ?_
  rintro e w8 ⟨v8, rfl, hb, hst⟩
  clear c_q_s0 c_q_s1 c_q_s2 c_q_s3 c_q_k0 c_q_k1 c_q_k2 c_q_o0 c_q_o1 c_q_o2 c_q_o3 c_q_x0 c_q_x1 c_q_x2 c_q_x3 c_q_x4
  obtain ⟨q_s, q_k, O_s, O_o, q_o, B_x, q_x, hB⟩ := HQ.out
  clear HQ
  obtain ⟨a_y, c_y, rfl, -, -⟩ := hb.form rfl
  have B_y := LB.of hb (Nat.le_refl _)
  clear hb
  have sz_w8 : w7.heap.size ≤ w8.heap.size := hst.size
  replace q_s := q_s.step hst
  replace q_k := q_k.step hst
  replace O_s := O_s.step hst
  replace O_o := O_o.step hst
  replace q_o := q_o.step hst
  replace B_x := B_x.step hst
  replace q_x := q_x.step hst
  replace hB := hB.step hst
  clear hst
  have HQ := Lib.hid (And.intro q_s (And.intro q_k (And.intro O_s (And.intro O_o (And.intro q_o (And.intro B_x (And.intro q_x (And.intro B_y hB))))))))
  clear q_s q_k O_s O_o q_o B_x q_x B_y hB
  have c_q_s0 := LK.cell HQ.out.1 0
  have c_q_s1 := LK.cell HQ.out.1 1
  have c_q_s2 := LK.cell HQ.out.1 2
  have c_q_s3 := LK.cell HQ.out.1 3
  have c_q_k0 := LK.cell HQ.out.2.1 0
  have c_q_k1 := LK.cell HQ.out.2.1 1
  have c_q_k2 := LK.cell HQ.out.2.1 2
  have c_q_o0 := LK.cell HQ.out.2.2.2.2.1 0
  have c_q_o1 := LK.cell HQ.out.2.2.2.2.1 1
  have c_q_o2 := LK.cell HQ.out.2.2.2.2.1 2
  have c_q_o3 := LK.cell HQ.out.2.2.2.2.1 3
  have c_q_x0 := LK.cell HQ.out.2.2.2.2.2.2.1 0
  have c_q_x1 := LK.cell HQ.out.2.2.2.2.2.2.1 1
  have c_q_x2 := LK.cell HQ.out.2.2.2.2.2.2.1 2
  have c_q_x3 := LK.cell HQ.out.2.2.2.2.2.2.1 3
  have c_q_x4 := LK.cell HQ.out.2.2.2.2.2.2.1 4
  simp at c_q_s0 c_q_s1 c_q_s2 c_q_s3 c_q_k0 c_q_k1 c_q_k2 c_q_o0 c_q_o1 c_q_o2 c_q_o3 c_q_x0 c_q_x1 c_q_x2 c_q_x3 c_q_x4
  go_upto_region 8 with (fail)
  clear c_q_s0 c_q_s1 c_q_s2 c_q_s3 c_q_k0 c_q_k1 c_q_k2 c_q_o0 c_q_o1 c_q_o2 c_q_o3 c_q_x0 c_q_x1 c_q_x2 c_q_x3 c_q_x4
  obtain ⟨q_s, q_k, O_s, O_o, q_o, B_x, q_x, B_y, hB⟩ := HQ.out
  clear HQ
  have hst := (Below.refl w8.heap.size w8).alloc (Nat.le_refl _) (.cells #[.int .u8 (it.key.kind.toNat : Int), .int .u32 (it.key.id.toNat : Int), .int .u32 (it.key.off.toNat : Int), .int .i64 it.ref, .slice a_y it.val.length c_y] 56)
  have hlt : w8.heap.size < (w8.alloc (.cells #[.int .u8 (it.key.kind.toNat : Int), .int .u32 (it.key.id.toNat : Int), .int .u32 (it.key.off.toNat : Int), .int .i64 it.ref, .slice a_y it.val.length c_y] 56)).heap.size := by simp
  have q_y := LK.new w8 (.cells #[.int .u8 (it.key.kind.toNat : Int), .int .u32 (it.key.id.toNat : Int), .int .u32 (it.key.off.toNat : Int), .int .i64 it.ref, .slice a_y it.val.length c_y] 56)
  replace q_s := q_s.step hst
  replace q_k := q_k.step hst
  replace O_s := O_s.step hst
  replace O_o := O_o.step hst
  replace q_o := q_o.step hst
  replace B_x := B_x.step hst
  replace q_x := q_x.step hst
  replace B_y := B_y.step hst
  replace hB := hB.step hst
  obtain ⟨w9, hw⟩ : ∃ v, w8.alloc (.cells #[.int .u8 (it.key.kind.toNat : Int), .int .u32 (it.key.id.toNat : Int), .int .u32 (it.key.off.toNat : Int), .int .i64 it.ref, .slice a_y it.val.length c_y] 56) = v := ⟨_, rfl⟩
  rw [hw] at hlt q_y q_s q_k O_s O_o q_o B_x q_x B_y hB ⊢
  clear hw hst
  have sz_w9 := hlt
  clear hlt
  have HQ := Lib.hid (And.intro q_s (And.intro q_k (And.intro O_s (And.intro O_o (And.intro q_o (And.intro B_x (And.intro q_x (And.intro B_y (And.intro q_y hB)))))))))
  clear q_s q_k O_s O_o q_o B_x q_x B_y q_y hB
  have c_q_s0 := LK.cell HQ.out.1 0
  have c_q_s1 := LK.cell HQ.out.1 1
  have c_q_s2 := LK.cell HQ.out.1 2
  have c_q_s3 := LK.cell HQ.out.1 3
  have c_q_k0 := LK.cell HQ.out.2.1 0
  have c_q_k1 := LK.cell HQ.out.2.1 1
  have c_q_k2 := LK.cell HQ.out.2.1 2
  have c_q_o0 := LK.cell HQ.out.2.2.2.2.1 0
  have c_q_o1 := LK.cell HQ.out.2.2.2.2.1 1
  have c_q_o2 := LK.cell HQ.out.2.2.2.2.1 2
  have c_q_o3 := LK.cell HQ.out.2.2.2.2.1 3
  have c_q_x0 := LK.cell HQ.out.2.2.2.2.2.2.1 0
  have c_q_x1 := LK.cell HQ.out.2.2.2.2.2.2.1 1
  have c_q_x2 := LK.cell HQ.out.2.2.2.2.2.2.1 2
  have c_q_x3 := LK.cell HQ.out.2.2.2.2.2.2.1 3
  have c_q_x4 := LK.cell HQ.out.2.2.2.2.2.2.1 4
  have c_q_y0 := LK.cell HQ.out.2.2.2.2.2.2.2.2.1 0
  have c_q_y1 := LK.cell HQ.out.2.2.2.2.2.2.2.2.1 1
  have c_q_y2 := LK.cell HQ.out.2.2.2.2.2.2.2.2.1 2
  have c_q_y3 := LK.cell HQ.out.2.2.2.2.2.2.2.2.1 3
  have c_q_y4 := LK.cell HQ.out.2.2.2.2.2.2.2.2.1 4
  simp at c_q_s0 c_q_s1 c_q_s2 c_q_s3 c_q_k0 c_q_k1 c_q_k2 c_q_o0 c_q_o1 c_q_o2 c_q_o3 c_q_x0 c_q_x1 c_q_x2 c_q_x3 c_q_x4 c_q_y0 c_q_y1 c_q_y2 c_q_y3 c_q_y4
  go_wp2_with fail
  refine (HC.out.2.2.2.2.2.2.1 _ _ _ HQ.out.2.2.2.2.2.1.v HQ.out.2.2.2.2.2.2.2.1.v).mono ?_
  rintro e w10 ⟨rfl, hst⟩
  clear c_q_s0 c_q_s1 c_q_s2 c_q_s3 c_q_k0 c_q_k1 c_q_k2 c_q_o0 c_q_o1 c_q_o2 c_q_o3 c_q_x0 c_q_x1 c_q_x2 c_q_x3 c_q_x4 c_q_y0 c_q_y1 c_q_y2 c_q_y3 c_q_y4
  obtain ⟨q_s, q_k, O_s, O_o, q_o, B_x, q_x, B_y, q_y, hB⟩ := HQ.out
  clear HQ
  have sz_w10 : w9.heap.size ≤ w10.heap.size := hst.size
  replace q_s := q_s.step hst
  replace q_k := q_k.step hst
  replace O_s := O_s.step hst
  replace O_o := O_o.step hst
  replace q_o := q_o.step hst
  replace B_x := B_x.step hst
  replace q_x := q_x.step hst
  replace B_y := B_y.step hst
  replace q_y := q_y.step hst
  replace hB := hB.step hst
  clear hst
  have HQ := Lib.hid (And.intro q_s (And.intro q_k (And.intro O_s (And.intro O_o (And.intro q_o (And.intro B_x (And.intro q_x (And.intro B_y (And.intro q_y hB)))))))))
  clear q_s q_k O_s O_o q_o B_x q_x B_y q_y hB
  have c_q_s0 := LK.cell HQ.out.1 0
  have c_q_s1 := LK.cell HQ.out.1 1
  have c_q_s2 := LK.cell HQ.out.1 2
  have c_q_s3 := LK.cell HQ.out.1 3
  have c_q_k0 := LK.cell HQ.out.2.1 0
  have c_q_k1 := LK.cell HQ.out.2.1 1
  have c_q_k2 := LK.cell HQ.out.2.1 2
  have c_q_o0 := LK.cell HQ.out.2.2.2.2.1 0
  have c_q_o1 := LK.cell HQ.out.2.2.2.2.1 1
  have c_q_o2 := LK.cell HQ.out.2.2.2.2.1 2
  have c_q_o3 := LK.cell HQ.out.2.2.2.2.1 3
  have c_q_x0 := LK.cell HQ.out.2.2.2.2.2.2.1 0
  have c_q_x1 := LK.cell HQ.out.2.2.2.2.2.2.1 1
  have c_q_x2 := LK.cell HQ.out.2.2.2.2.2.2.1 2
  have c_q_x3 := LK.cell HQ.out.2.2.2.2.2.2.1 3
  have c_q_x4 := LK.cell HQ.out.2.2.2.2.2.2.1 4
  have c_q_y0 := LK.cell HQ.out.2.2.2.2.2.2.2.2.1 0
  have c_q_y1 := LK.cell HQ.out.2.2.2.2.2.2.2.2.1 1
  have c_q_y2 := LK.cell HQ.out.2.2.2.2.2.2.2.2.1 2
  have c_q_y3 := LK.cell HQ.out.2.2.2.2.2.2.2.2.1 3
  have c_q_y4 := LK.cell HQ.out.2.2.2.2.2.2.2.2.1 4
  simp at c_q_s0 c_q_s1 c_q_s2 c_q_s3 c_q_k0 c_q_k1 c_q_k2 c_q_o0 c_q_o1 c_q_o2 c_q_o3 c_q_x0 c_q_x1 c_q_x2 c_q_x3 c_q_x4 c_q_y0 c_q_y1 c_q_y2 c_q_y3 c_q_y4
  clear c_q_s0 c_q_s1 c_q_s2 c_q_s3 c_q_k0 c_q_k1 c_q_k2 c_q_o0 c_q_o1 c_q_o2 c_q_o3 c_q_x0 c_q_x1 c_q_x2 c_q_x3 c_q_x4 c_q_y0 c_q_y1 c_q_y2 c_q_y3 c_q_y4
  have hrl : it.val.length ≤ 9223372036854775807 := by have := HQ.out.2.2.2.2.2.1.v.len_le; unfold maxLen at this; omega
  have hqx := HQ.out.2.2.2.2.2.2.1
  have HQX := Lib.hid hqx
  clear hqx
  obtain ⟨vn, hvn⟩ : ∃ n, it.val.length = n := ⟨_, rfl⟩
  have HVN := Lib.hid hvn
  go_wp2_with fail
  go_loopw [16] (fun i wr => ∃ (j : Nat) (L : List UInt8), j ≤ it.val.length ∧ i = .int .i64 j ∧ L.length = it.val.length ∧ LM w5.heap.size w6.heap.size (.slice a_x it.val.length c_x) L wr ∧ (Below w5.heap.size w10 wr ∧ ∀ x, x < w10.heap.size → (x < w5.heap.size ∨ w6.heap.size ≤ x) → wr.heap[x]? = w10.heap[x]?)) (fun i _ => it.val.length - (intOf i).toNat)
  case atStart => exact ⟨0, it.val, Nat.zero_le _, rfl, rfl, HQ.out.2.2.2.2.2.1, Below.refl _ _, fun _ _ _ => rfl⟩
  case round =>
  obtain ⟨j, L, hj, rfl, hL, hm, hF⟩ := hrel
  have qx4 := blk_cell ((hF.2 w6.heap.size (LK.lt HQX.out) (.inr (Nat.le_refl _))).trans HQX.out.blk) 4
  simp at qx4
  clear hvn
  by_cases hlt : j < it.val.length
  · obtain ⟨xb, xo, xc2, he, y1, y2, y3, y4, y5⟩ := hm.m.1.at_n hL (by omega)
    cases he
    obtain ⟨z, hz⟩ : ∃ z, L[j]? = some z := ⟨L[j]'(by omega), by simp⟩
    have hcell := y5 j z hz
    have hfz := hm.m.2 _ _ _ _ rfl j hlt
    simp only [bV] at hcell
    have HP := Lib.hid (And.intro hm (And.intro hF (And.intro hL (spo_add z))))
    have hz1 : (z.toNat : Int) < 256 := by have := z.toNat_lt; omega
    unfold maxLen at y4
    clear hm hF hL y5 hz
    go_wp2_with fail
    go_still_tail 10, (by kernel_rfl)
    go_wp2
    go_roundw
    case rel =>
      obtain ⟨hm, hF, hL, hadd⟩ := HP.out
      rw [hadd]
      exact ⟨j + 1, L.set j (z + 1), by omega, by go_num, by rw [List.length_set]; exact hL, LM.set (V := wr) hm j (z + 1) (by omega), hF.1.drew.setCell (p := ⟨xb, xo + j, none⟩) y1 _, fun x h1 h2 => (set_other wr xb (xo + j) _ x (by omega)).trans (hF.2 x h1 h2)⟩
    case measure => simp [intOf]; omega
  obtain rfl : j = it.val.length := by omega
  obtain ⟨hbel, hfr⟩ := hF
  clear hm hL hj hlt
  obtain ⟨wa, hnm⟩ : ∃ v, v = wr := ⟨_, rfl⟩
  subst hnm
  have sz_wa : w10.heap.size ≤ wa.heap.size := hbel.size
  obtain ⟨q_s, q_k, O_s, O_o, q_o, B_x, q_x, B_y, q_y, hB⟩ := HQ.out
  clear HQ
  clear B_x B_y q_y
  replace q_s := q_s.out hbel.size hfr (by omega)
  replace q_k := q_k.out hbel.size hfr (by omega)
  replace O_s := O_s.out hbel.size hfr (by omega)
  replace O_o := O_o.out hbel.size hfr (by omega)
  replace q_o := q_o.out hbel.size hfr (by omega)
  replace q_x := q_x.out hbel.size hfr (by omega)
  replace hB := hB.outB hbel (by omega)
  have HQ := Lib.hid (And.intro q_s (And.intro q_k (And.intro O_s (And.intro O_o (And.intro q_o (And.intro q_x hB))))))
  clear q_s q_k O_s O_o q_o q_x hB
  clear hbel hfr hrl
  have c_q_s0 := LK.cell HQ.out.1 0
  have c_q_s1 := LK.cell HQ.out.1 1
  have c_q_s2 := LK.cell HQ.out.1 2
  have c_q_s3 := LK.cell HQ.out.1 3
  have c_q_o0 := LK.cell HQ.out.2.2.2.2.1 0
  have c_q_o1 := LK.cell HQ.out.2.2.2.2.1 1
  have c_q_o2 := LK.cell HQ.out.2.2.2.2.1 2
  have c_q_o3 := LK.cell HQ.out.2.2.2.2.1 3
  simp at c_q_s0 c_q_s1 c_q_s2 c_q_s3 c_q_o0 c_q_o1 c_q_o2 c_q_o3
  go_wp2_with fail
  clear qx4
  refine (HC.out.2.2.2.2.2.2.2 _ _ _ _ _ _ _ _ _ HQ.out.2.2.2.1.v HQ.out.2.2.1.v).mono ?_
  rintro e w11 ⟨rfl, hst⟩
  clear c_q_s0 c_q_s1 c_q_s2 c_q_s3 c_q_o0 c_q_o1 c_q_o2 c_q_o3
  obtain ⟨q_s, q_k, O_s, O_o, q_o, q_x, hB⟩ := HQ.out
  clear HQ
  have sz_w11 : wa.heap.size ≤ w11.heap.size := hst.size
  replace q_s := q_s.step hst
  replace q_k := q_k.step hst
  replace O_s := O_s.step hst
  replace O_o := O_o.step hst
  replace q_o := q_o.step hst
  replace q_x := q_x.step hst
  replace hB := hB.step hst
  clear hst
  have HQ := Lib.hid (And.intro q_s (And.intro q_k (And.intro O_s (And.intro O_o (And.intro q_o (And.intro q_x hB))))))
  clear q_s q_k O_s O_o q_o q_x hB
  have c_q_s0 := LK.cell HQ.out.1 0
  have c_q_s1 := LK.cell HQ.out.1 1
  have c_q_s2 := LK.cell HQ.out.1 2
  have c_q_s3 := LK.cell HQ.out.1 3
  have c_q_o0 := LK.cell HQ.out.2.2.2.2.1 0
  have c_q_o1 := LK.cell HQ.out.2.2.2.2.1 1
  have c_q_o2 := LK.cell HQ.out.2.2.2.2.1 2
  have c_q_o3 := LK.cell HQ.out.2.2.2.2.1 3
  simp at c_q_s0 c_q_s1 c_q_s2 c_q_s3 c_q_o0 c_q_o1 c_q_o2 c_q_o3
  go_wp2
  go_ret
  exact ⟨rfl, HQ.out.2.2.2.2.2.2⟩

end Go.Proofs.Ytcibihakjcenaaa

namespace Go.Proofs.Ytcibihakjcenaaa
open Go.ChangeShapes Go.WideShapes Go.ChangeAt Go.RowKit

theorem own_ : ownKnob Try.prog.godebug = none := by kernel_rfl
theorem laidOut_ : laidOutB Try.prog = true := by kernel_rfl

end Go.Proofs.Ytcibihakjcenaaa

namespace Go.Proofs.Ytcibihakjcenaaa
open Go.ChangeShapes Go.WideShapes Go.ChangeAt Go.RowKit

section
variable {H : Type} {enc : TypeId × Value → H} {W : World} {r : Reach} {base : Nat} {spare : Nat → Bool} {held : Bool} {v : Value} {d : DataW H} {p : List MemPlace}
set_option maxRecDepth 100000 in
theorem arg_key (hv : Value.okWide Try.prog W r base 48 v) (h : DataW.Trod enc Try.prog W 0 spare held 48 v d p) : ∃ k : KeyL, v = .agg #[bV k.kind, wV k.id, wV k.off] := by
  have ht : fieldsOf Try.prog 48 = some [(0, 5), (1, 22), (2, 22)] := by kernel_rfl
  obtain ⟨cs, rfl, hsz⟩ := okW_struct ht hv
  obtain ⟨fuel, hf⟩ := h
  obtain ⟨k, hk⟩ := open_key ht Try.underlying5 Try.underlying22 (by kernel_rfl) (by kernel_rfl) (by kernel_rfl) hf
  refine ⟨k, ?_⟩
  congr 1
  apply Array.toList_inj.1
  exact hk
end
end Go.Proofs.Ytcibihakjcenaaa

namespace Go.Proofs.Ytcibihakjcenaaa
open Go.ChangeShapes Go.WideShapes Go.ChangeAt Go.RowKit

section
variable {H : Type} {enc : TypeId × Value → H} {W : World} {r : Reach} {base : Nat} {spare : Nat → Bool} {held : Bool} {v : Value} {d : DataW H} {p : List MemPlace}
set_option maxRecDepth 100000 in
theorem arg_store (hv : Value.okWide Try.prog W r base 46 v) (h : DataW.Trod enc Try.prog W 0 spare held 46 v d p) :
    ∃ (s : StoreL) (b u x y : Value), v = .agg #[b, u, x, y] ∧ StoreV W 0 W.heap.size b u x y s := by
  have ht : fieldsOf Try.prog 46 = some [(0, 44), (2, 26), (3, 26)] := by kernel_rfl
  have hd : fieldsOf Try.prog 44 = some [(0, 41), (1, 42)] := by kernel_rfl
  have htw : fieldsOf Try.prog 143 = some [(0, 3), (1, 26)] := by kernel_rfl
  have hcb : Try.prog.cellsOf 26 = 1 := by kernel_rfl
  have hcd : Try.prog.cellsOf 44 = 2 := by kernel_rfl
  have ce : Try.prog.cellsOf 46 = 4 := by kernel_rfl
  obtain ⟨cs, rfl, hsz⟩ := okW_struct ht hv
  obtain ⟨fuel, hf⟩ := h
  obtain ⟨hl, n, hf⟩ := trod_parts ht hf
  obtain ⟨y0, h0⟩ := hf (0, 44) (by simp)
  obtain ⟨y1, h1⟩ := hf (2, 26) (by simp)
  obtain ⟨y2, h2⟩ := hf (3, 26) (by simp)
  dsimp only at h0 h1 h2
  rw [hcb] at h1 h2
  rw [hcd] at h0
  rw [ce] at hsz
  obtain ⟨b, u, x, e0, hD⟩ := open_disk hd Try.underlying41 Try.underlying42 (by kernel_rfl) (by kernel_rfl) htw (by kernel_rfl) Try.underlying3 (by kernel_rfl) (by kernel_rfl) (by kernel_rfl) Try.underlying26 Try.underlying5 (by kernel_rfl) h0
  obtain ⟨v1, l1, e1, B1⟩ := open_bytes Try.underlying26 Try.underlying5 (by kernel_rfl) h1
  obtain ⟨v2, l2, e2, B2⟩ := open_bytes Try.underlying26 Try.underlying5 (by kernel_rfl) h2
  refine ⟨⟨x, l1, l2⟩, b, u, v1, v2, ?_, hD, B1, B2⟩
  congr 1
  apply Array.toList_inj.1
  obtain ⟨cl⟩ := cs
  match cl, hsz with
  | [c0, c1, c2, c3], _ =>
    simp [Value.cells] at e0 e1 e2
    simp [e0, e1, e2]
end
end Go.Proofs.Ytcibihakjcenaaa

