/- DropNames: the words and contracts, part 19. -/
import Derived.Test.YtbddbadmfhplmaaDropNamesQ1
import Derived.Test.YtbddbadmfhplmaaDropNamesQ2
import Derived.Test.YtbddbadmfhplmaaDropNamesQ3
import Derived.Test.YtbddbadmfhplmaaDropNamesQ4
import Derived.Test.YtbddbadmfhplmaaDropNamesQ5
import Derived.Test.YtbddbadmfhplmaaDropNamesQ6
import Derived.Test.YtbddbadmfhplmaaDropNamesQ7
import Derived.Test.YtbddbadmfhplmaaDropNamesQ8
import Derived.Test.YtbddbadmfhplmaaDropNamesQ9
import Derived.Test.YtbddbadmfhplmaaDropNamesQ10
import Derived.Test.YtbddbadmfhplmaaDropNamesQ11
import Derived.Test.YtbddbadmfhplmaaDropNamesQ12
import Derived.Test.YtbddbadmfhplmaaDropNamesQ13
import Derived.Test.YtbddbadmfhplmaaDropNamesQ14
import Derived.Test.YtbddbadmfhplmaaDropNamesQ15
import Derived.Test.YtbddbadmfhplmaaDropNamesQ16
import Derived.Test.YtbddbadmfhplmaaDropNamesQ17
import Derived.Test.YtbddbadmfhplmaaDropNamesQ18
import Derived.WalkKit
import Derived.WalkLawsBesides
import Derived.WalkSpells
import Derived.Lib.Hide
import Derived.Laws.Rows
import Derived.Laws.AppendOwnNone
import Derived.Maps.AppendAt
import Derived.ProofKit
import Derived.Deep.Slices
import Derived.WideShapes
import Derived.RangeFuncNested
import Derived.RangeFuncBound
import Derived.RangeFuncCalls
import Derived.RangeFuncLeaves
import Derived.RangeFuncBox
import Derived.Shelf.Abstract
import Derived.Shelf.RegionOpen
import Derived.OwnWalkIn
import Derived.TacticsInMore
import Derived.LoopNIn
import Derived.LoopIn
import Derived.Lib.AppendZerosOnto
import Derived.Lib.SliceRun
import Derived.Lib.Walk
import Derived.Deep.LoopGhost
import Derived.Laws.CopyOwn
import Derived.Laws.CopyRow
import Derived.OrdersHeld
import Derived.Deep.QuietTactic
import Derived.BigQuiet
import Derived.StillTailTactics
import Derived.OpenShut
import Derived.Deep.DeepCutAuto
import Derived.Laws.MakeOwn
import Derived.Deep.RegionHeld
import Derived.KernelRfl
import Derived.BigFrameIn
import Derived.OrdersIn
import Derived.Sort.CutIn
import Derived.ArgAppend
namespace Go.Proofs.Ytbddbadmfhplmaa
open Go.RowKit

def n09 : NodeL := ⟨0, []⟩
theorem alive9_words : errDm newS n09 = 0 ∧ atD newS n09 = 8 ∧ (madS newS n09).now.length = 256 ∧ (madS newS n09).now[8]? = some 1 ∧ errLv (madS newS n09) 8 = 0 ∧ (leftS (madS newS n09) 8).now.length = 256 ∧ (leftS (madS newS n09) 8).now[8]? = some 0 := by decide +kernel

set_option maxRecDepth 100000 in
set_option maxHeartbeats 2000000 in
theorem alive9  (w : World)  :
    Calls Try.prog 46 #[] w fun e w' => e = .returned (.bool true) ∧ Below w.heap.size w w' := by
  have hB : LW w w := Below.refl _ _
  have HQ := Lib.hid (hB)
  clear hB
  obtain ⟨t1, t2, t3, t4, t5, t6, t7⟩ := alive9_words
  obtain ⟨N, hN⟩ : ∃ N, newS = N := ⟨_, rfl⟩
  obtain ⟨T, hT⟩ : ∃ T, madS newS n09 = T := ⟨_, rfl⟩
  obtain ⟨U, hU⟩ : ∃ U, leftS (madS newS n09) 8 = U := ⟨_, rfl⟩
  have k_t := fun V b u x y h1 => dmake_any b u x y newS n09 (.slice none 0 0) V h1 ⟨by decide, Sl.nil_ _ _ _⟩
  rw [t1, t2, hT] at k_t
  rw [show (n09.level) = 0 from rfl] at k_t
  have k_l := fun V b u x y h1 => dleave_any b u x y (madS newS n09) 8 V h1
  rw [t5, hU, hT] at k_l
  rw [hU] at t6 t7
  rw [hT] at t3 t4
  rw [hN] at k_t
  have k_n := fun V => snew_any V
  rw [hN] at k_n
  have HT := Lib.hid (And.intro t3 (And.intro t4 (And.intro t6 t7)))
  clear hN hT hU t1 t2 t3 t4 t5 t6 t7
  have HC := Lib.hid (And.intro k_t (And.intro k_n k_l))
  clear k_t k_n k_l
  go_enter Try.func46, Try.ntmps46
  go_wp2_with fail
  refine (HC.out.2.1 _).mono ?_
  rintro e w1 ⟨b0, u0, x0, y0, rfl, hm⟩
  have hB := HQ.out
  clear HQ
  have O_n := LP.of hm
  have hst := hm.below
  clear hm
  have sz_w1 : w.heap.size ≤ w1.heap.size := hst.size
  replace hB := hB.step hst
  clear hst
  have HQ := Lib.hid (And.intro O_n hB)
  clear O_n hB
  go_wp2_with fail
  refine (HC.out.1 _ _ _ _ _ HQ.out.1.v).mono ?_
  rintro e w2 ⟨b1, u1, x1, y1, rfl, hm⟩
  obtain ⟨O_n, hB⟩ := HQ.out
  clear HQ
  have P_t := LP.of hm
  have hst := hm.below
  obtain ⟨ab_t, cb_t, rfl, -, -, -, -⟩ := hm.store.v.1.1
  obtain ⟨au_t, cu_t, rfl, -, -, -, -⟩ := hm.store.v.1.2
  obtain ⟨ax_t, cx_t, rfl, -, -⟩ := hm.store.v.2.1.form rfl
  obtain ⟨ay_t, cy_t, rfl, -, -⟩ := hm.store.v.2.2.form rfl
  clear hm
  have sz_w2 : w1.heap.size ≤ w2.heap.size := hst.size
  replace O_n := O_n.step hst
  replace hB := hB.step hst
  clear hst
  have HQ := Lib.hid (And.intro O_n (And.intro P_t hB))
  clear O_n P_t hB
  go_upto_region 2 with (fail)
  obtain ⟨O_n, P_t, hB⟩ := HQ.out
  clear HQ
  have hst := (Below.refl w2.heap.size w2).alloc (Nat.le_refl _) (.cells #[.slice ab_t T.disk.blocks.length cb_t, .slice au_t T.disk.waits.length cu_t, .slice ax_t T.now.length cx_t, .slice ay_t T.last.length cy_t] 28)
  have hlt : w2.heap.size < (w2.alloc (.cells #[.slice ab_t T.disk.blocks.length cb_t, .slice au_t T.disk.waits.length cu_t, .slice ax_t T.now.length cx_t, .slice ay_t T.last.length cy_t] 28)).heap.size := by simp
  have q_T := LK.new w2 (.cells #[.slice ab_t T.disk.blocks.length cb_t, .slice au_t T.disk.waits.length cu_t, .slice ax_t T.now.length cx_t, .slice ay_t T.last.length cy_t] 28)
  replace O_n := O_n.step hst
  replace P_t := P_t.step hst
  replace hB := hB.step hst
  obtain ⟨w3, hw⟩ : ∃ v, w2.alloc (.cells #[.slice ab_t T.disk.blocks.length cb_t, .slice au_t T.disk.waits.length cu_t, .slice ax_t T.now.length cx_t, .slice ay_t T.last.length cy_t] 28) = v := ⟨_, rfl⟩
  rw [hw] at hlt q_T O_n P_t hB ⊢
  clear hw hst
  have sz_w3 := hlt
  clear hlt
  have HQ := Lib.hid (And.intro O_n (And.intro P_t (And.intro q_T hB)))
  clear O_n P_t q_T hB
  have c_q_T0 := LK.cell HQ.out.2.2.1 0
  have c_q_T1 := LK.cell HQ.out.2.2.1 1
  have c_q_T2 := LK.cell HQ.out.2.2.1 2
  have c_q_T3 := LK.cell HQ.out.2.2.1 3
  simp at c_q_T0 c_q_T1 c_q_T2 c_q_T3
  go_wp2_with fail
  refine (HC.out.2.2 _ _ _ _ _ HQ.out.2.1.v).mono ?_
  rintro e w4 ⟨b1, u1, x1, y1, rfl, hm⟩
  clear c_q_T0 c_q_T1 c_q_T2 c_q_T3
  obtain ⟨O_n, P_t, q_T, hB⟩ := HQ.out
  clear HQ
  have P_u := LP.of hm
  have hst := hm.below
  obtain ⟨ab_u, cb_u, rfl, -, -, -, -⟩ := hm.store.v.1.1
  obtain ⟨au_u, cu_u, rfl, -, -, -, -⟩ := hm.store.v.1.2
  obtain ⟨ax_u, cx_u, rfl, -, -⟩ := hm.store.v.2.1.form rfl
  obtain ⟨ay_u, cy_u, rfl, -, -⟩ := hm.store.v.2.2.form rfl
  clear hm
  have sz_w4 : w3.heap.size ≤ w4.heap.size := hst.size
  replace O_n := O_n.step hst
  replace P_t := P_t.step hst
  replace q_T := q_T.step hst
  replace hB := hB.step hst
  clear hst
  have HQ := Lib.hid (And.intro O_n (And.intro P_t (And.intro q_T (And.intro P_u hB))))
  clear O_n P_t q_T P_u hB
  have c_q_T0 := LK.cell HQ.out.2.2.1 0
  have c_q_T1 := LK.cell HQ.out.2.2.1 1
  have c_q_T2 := LK.cell HQ.out.2.2.1 2
  have c_q_T3 := LK.cell HQ.out.2.2.1 3
  simp at c_q_T0 c_q_T1 c_q_T2 c_q_T3
  go_upto_region 3 with (fail)
  clear c_q_T0 c_q_T1 c_q_T2 c_q_T3
  obtain ⟨O_n, P_t, q_T, P_u, hB⟩ := HQ.out
  clear HQ
  have hst := (Below.refl w4.heap.size w4).alloc (Nat.le_refl _) (.cells #[.slice ab_u U.disk.blocks.length cb_u, .slice au_u U.disk.waits.length cu_u, .slice ax_u U.now.length cx_u, .slice ay_u U.last.length cy_u] 28)
  have hlt : w4.heap.size < (w4.alloc (.cells #[.slice ab_u U.disk.blocks.length cb_u, .slice au_u U.disk.waits.length cu_u, .slice ax_u U.now.length cx_u, .slice ay_u U.last.length cy_u] 28)).heap.size := by simp
  have q_u := LK.new w4 (.cells #[.slice ab_u U.disk.blocks.length cb_u, .slice au_u U.disk.waits.length cu_u, .slice ax_u U.now.length cx_u, .slice ay_u U.last.length cy_u] 28)
  replace O_n := O_n.step hst
  replace P_t := P_t.step hst
  replace q_T := q_T.step hst
  replace P_u := P_u.step hst
  replace hB := hB.step hst
  obtain ⟨w5, hw⟩ : ∃ v, w4.alloc (.cells #[.slice ab_u U.disk.blocks.length cb_u, .slice au_u U.disk.waits.length cu_u, .slice ax_u U.now.length cx_u, .slice ay_u U.last.length cy_u] 28) = v := ⟨_, rfl⟩
  rw [hw] at hlt q_u O_n P_t q_T P_u hB ⊢
  clear hw hst
  have sz_w5 := hlt
  clear hlt
  have HQ := Lib.hid (And.intro O_n (And.intro P_t (And.intro q_T (And.intro P_u (And.intro q_u hB)))))
  clear O_n P_t q_T P_u q_u hB
  have c_q_T0 := LK.cell HQ.out.2.2.1 0
  have c_q_T1 := LK.cell HQ.out.2.2.1 1
  have c_q_T2 := LK.cell HQ.out.2.2.1 2
  have c_q_T3 := LK.cell HQ.out.2.2.1 3
  have c_q_u0 := LK.cell HQ.out.2.2.2.2.1 0
  have c_q_u1 := LK.cell HQ.out.2.2.2.2.1 1
  have c_q_u2 := LK.cell HQ.out.2.2.2.2.1 2
  have c_q_u3 := LK.cell HQ.out.2.2.2.2.1 3
  simp at c_q_T0 c_q_T1 c_q_T2 c_q_T3 c_q_u0 c_q_u1 c_q_u2 c_q_u3
  obtain ⟨xb, xo, xc, e1, -, -, x1, x2, hx⟩ := HQ.out.2.1.n.at_n HT.out.1 (by omega)
  injection e1 with e1 el e2
  subst e1 e2
  clear el
  have h8 := hx 8 1 HT.out.2.1
  obtain ⟨yb, yo, yc, e1, -, -, y1, y2, hy⟩ := HQ.out.2.2.2.1.n.at_n HT.out.2.2.1 (by omega)
  injection e1 with e1 el e2
  subst e1 e2
  have h9 := hy 8 0 HT.out.2.2.2
  unfold maxLen at x2 y2
  have e1 : bV 1 = .int .u8 1 := rfl
  have e2 : bV 0 = .int .u8 0 := rfl
  rw [e1] at h8
  rw [e2] at h9
  rw [HT.out.2.2.1] at c_q_u2
  rw [HT.out.1] at c_q_T2
  clear hx hy e1 e2 el
  go_wp2
  go_ret
  exact ⟨rfl, HQ.out.2.2.2.2.2⟩

end Go.Proofs.Ytbddbadmfhplmaa

