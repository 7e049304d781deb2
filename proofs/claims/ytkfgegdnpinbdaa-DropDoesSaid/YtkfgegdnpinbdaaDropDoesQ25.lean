/- DropDoes: the words and contracts, part 25. -/
import Derived.Test.YtkfgegdnpinbdaaDropDoesQ1
import Derived.Test.YtkfgegdnpinbdaaDropDoesQ2
import Derived.Test.YtkfgegdnpinbdaaDropDoesQ3
import Derived.Test.YtkfgegdnpinbdaaDropDoesQ4
import Derived.Test.YtkfgegdnpinbdaaDropDoesQ5
import Derived.Test.YtkfgegdnpinbdaaDropDoesQ6
import Derived.Test.YtkfgegdnpinbdaaDropDoesQ7
import Derived.Test.YtkfgegdnpinbdaaDropDoesQ8
import Derived.Test.YtkfgegdnpinbdaaDropDoesQ9
import Derived.Test.YtkfgegdnpinbdaaDropDoesQ10
import Derived.Test.YtkfgegdnpinbdaaDropDoesQ11
import Derived.Test.YtkfgegdnpinbdaaDropDoesQ12
import Derived.Test.YtkfgegdnpinbdaaDropDoesQ13
import Derived.Test.YtkfgegdnpinbdaaDropDoesQ14
import Derived.Test.YtkfgegdnpinbdaaDropDoesQ15
import Derived.Test.YtkfgegdnpinbdaaDropDoesQ16
import Derived.Test.YtkfgegdnpinbdaaDropDoesQ17
import Derived.Test.YtkfgegdnpinbdaaDropDoesQ18
import Derived.Test.YtkfgegdnpinbdaaDropDoesQ19
import Derived.Test.YtkfgegdnpinbdaaDropDoesQ20
import Derived.Test.YtkfgegdnpinbdaaDropDoesQ21
import Derived.Test.YtkfgegdnpinbdaaDropDoesQ22
import Derived.Test.YtkfgegdnpinbdaaDropDoesQ23
import Derived.Test.YtkfgegdnpinbdaaDropDoesQ24
import Derived.WalkKit
import Derived.WalkLawsBesides
import Derived.WalkSpells
import Derived.Lib.Hide
import Derived.Laws.Rows
import Derived.Laws.AppendOwnNone
import Derived.Maps.AppendAt
import Derived.RangeFuncNested
import Derived.RangeFuncBound
import Derived.RangeFuncCalls
import Derived.RangeFuncLeaves
import Derived.RangeFuncBox
import Derived.Shelf.Abstract
import Derived.Shelf.RegionOpen
import Derived.OwnWalkIn
import Derived.TacticsInMore
import Derived.LoopNIn
import Derived.LoopIn
import Derived.ProofKit
import Derived.Deep.Slices
import Derived.WideShapes
import Derived.OrdersHeld
import Derived.Deep.QuietTactic
import Derived.BigQuiet
import Derived.StillTailTactics
import Derived.OpenShut
import Derived.Lib.SliceRun
import Derived.Lib.AppendZerosOnto
import Derived.Lib.Walk
import Derived.Deep.LoopGhost
import Derived.Laws.CopyOwn
import Derived.Deep.DeepCutAuto
import Derived.Laws.CopyRow
import Derived.Laws.MakeOwn
import Derived.Deep.RegionHeld
import Derived.KernelRfl
import Derived.BigFrameIn
import Derived.OrdersIn
import Derived.Sort.CutIn
import Derived.ArgAppend
namespace Go.Proofs.Ytkfgegdnpinbdaa
open Go.RowKit

set_option linter.unusedSimpArgs false
/-- Each row has a first byte. -/
def Rows1 (s : StoreL) : Prop := (∀ x ∈ s.disk.blocks, 0 < x.length) ∧ ∀ x ∈ s.disk.waits, 0 < x.data.length
theorem rows1_may {s : StoreL} (h : mayS s = true) : Rows1 s := by
  obtain ⟨-, -, h1, h2⟩ := may_len (mayS_iff.1 h).1
  exact ⟨fun x hx => by rw [h1 x hx]; decide, fun x hx => by rw [(h2 x hx).2.2]; decide⟩
theorem rows1_no : Rows1 noS := ⟨fun _ h => (by cases h), fun _ h => (by cases h)⟩
theorem rows1_made (s : StoreL) (n : NodeL) : Rows1 (madS s n) := by
  by_cases h : errDm s n = 0
  · obtain ⟨-, -, -, -, -, h1, -⟩ := errDm_zero h
    exact rows1_may h1
  · unfold madS; rw [if_neg h]; exact rows1_no
theorem rows1_left (s : StoreL) (p : Int) : Rows1 (leftS s p) := by
  by_cases h : errLv s p = 0
  · obtain ⟨-, -, -, -, _, -, -, -, h1⟩ := left_is h
    exact rows1_may h1
  · unfold leftS; rw [if_neg h]; exact rows1_no
theorem rows1_loos (s : StoreL) (p : Int) : Rows1 (loosS s p) := by
  by_cases h : errAs s p = 0
  · exact rows1_may (loos_is h).2.1
  · unfold loosS; rw [if_neg h]; exact rows1_no
theorem LP.su {V : World} {lo hi : Nat} {b u x y : Value} {s : StoreL} (h : LP lo hi b u x y s V) (hr : Rows1 s) : SpU V lo hi b u x y s.disk.blocks.length s.disk.waits.length s.now.length s.last.length := SpU.of h.t hr.1 hr.2

set_option maxRecDepth 100000 in
set_option maxHeartbeats 3000000 in
theorem dropDoes_walk (b_s u_s x_s y_s : Value) (s : StoreL) (n : NodeL) (u_n : Value) (p : Int) (w : World) (h_s : StoreV w 0 w.heap.size b_s u_s x_s y_s s) (h_n : (Lit.int .i64 n.level).wf = true ∧ Sl rItem w 0 w.heap.size u_n n.items) (_wp : (Lit.int .i64 p).wf = true) :
    Calls Try.prog 4 #[.agg #[b_s, u_s, x_s, y_s], .agg #[.int .i64 n.level, u_n], .int .i64 p] w fun e w' => e = .returned (.bool true) ∧ Below w.heap.size w w' := by
  obtain ⟨ab_s, cb_s, rfl, gb_s, gc_s, -, -⟩ := h_s.1.1
  obtain ⟨au_s, cu_s, rfl, gu_s, gv_s, -, -⟩ := h_s.1.2
  obtain ⟨ax_s, cx_s, rfl, gx_s, gz_s⟩ := h_s.2.1.form rfl
  obtain ⟨ay_s, cy_s, rfl, gy_s, gw_s⟩ := h_s.2.2.form rfl
  unfold maxLen at gc_s gv_s gz_s gw_s
  obtain ⟨hw_n, h_n⟩ := h_n
  obtain ⟨a_n, c_n, rfl, g_n, gm_n, -, -⟩ := id h_n
  unfold maxLen at gm_n
  have hst := (((Below.refl w.heap.size w).alloc (Nat.le_refl _) (.cells #[.slice ab_s s.disk.blocks.length cb_s, .slice au_s s.disk.waits.length cu_s, .slice ax_s s.now.length cx_s, .slice ay_s s.last.length cy_s] 28)).alloc (by simp) (.cells #[.int .i64 n.level, .slice a_n n.items.length c_n] 47))
  have hq := two_new w (.cells #[.slice ab_s s.disk.blocks.length cb_s, .slice au_s s.disk.waits.length cu_s, .slice ax_s s.now.length cx_s, .slice ay_s s.last.length cy_s] 28) (.cells #[.int .i64 n.level, .slice a_n n.items.length c_n] 47)
  have q_s := LK.of hq.1
  have q_n := LK.of hq.2
  have hB : LW w _ := hst
  have O_s := (LO.of h_s (Nat.le_refl _)).step hst
  have S_n := (LS.of h_n (Nat.le_refl _)).step hst
  have sz_V : w.heap.size + 1 < ((w.alloc (.cells #[.slice ab_s s.disk.blocks.length cb_s, .slice au_s s.disk.waits.length cu_s, .slice ax_s s.now.length cx_s, .slice ay_s s.last.length cy_s] 28)).alloc (.cells #[.int .i64 n.level, .slice a_n n.items.length c_n] 47)).heap.size := by simp
  obtain ⟨V, hV⟩ : ∃ V, ((w.alloc (.cells #[.slice ab_s s.disk.blocks.length cb_s, .slice au_s s.disk.waits.length cu_s, .slice ax_s s.now.length cx_s, .slice ay_s s.last.length cy_s] 28)).alloc (.cells #[.int .i64 n.level, .slice a_n n.items.length c_n] 47)) = V := ⟨_, rfl⟩
  rw [hV] at sz_V q_s q_n O_s S_n hB
  clear hst h_s h_n hq
  have HQ := Lib.hid (And.intro q_s (And.intro q_n (And.intro O_s (And.intro S_n hB))))
  clear q_s q_n O_s S_n hB
  have c_q_s0 := LK.cell HQ.out.1 0
  have c_q_s1 := LK.cell HQ.out.1 1
  have c_q_s2 := LK.cell HQ.out.1 2
  have c_q_s3 := LK.cell HQ.out.1 3
  have c_q_n0 := LK.cell HQ.out.2.1 0
  have c_q_n1 := LK.cell HQ.out.2.1 1
  simp at c_q_s0 c_q_s1 c_q_s2 c_q_s3 c_q_n0 c_q_n1
  have k_g := fun V b u x y hh => great8_any b u x y s V hh
  have k_h := fun V v hh => great6_any v n.items V hh
  have k_tw := fun V b u x y hh hf => rstwin_any b u x y s V hh hf
  have k_m1 := fun V b u x y v h1 h2 => dmake_any b u x y s n v V h1 ⟨hw_n, h2⟩
  have k_m2 := fun V b u x y v h1 h2 => rmake_any b u x y s n v V h1 ⟨hw_n, h2⟩
  have k_l1 := fun V b u x y h1 => dleave_any b u x y s p V h1
  have k_l2 := fun V b u x y h1 => rleave_any b u x y s p V h1
  have k_o1 := fun V b u x y h1 => dloose_any b u x y s p V h1
  have k_o2 := fun V b u x y h1 => rloose_any b u x y s p V h1
  have k_s := fun (t : StoreL) V b1 u1 x1 y1 b2 u2 x2 y2 h1 h2 => rssame_any b1 u1 x1 y1 t b2 u2 x2 y2 t V h1 h2
  have r1 := rows1_made s n
  have r2 := rows1_left s p
  have r3 := rows1_loos s p
  simp only [decide_true] at k_s
  generalize madS s n = MS at *
  generalize atD s n = ma at *
  generalize errDm s n = me at *
  generalize leftS s p = LS_ at *
  generalize errLv s p = le at *
  generalize loosS s p = OS at *
  generalize errAs s p = oe at *
  have HR := Lib.hid (And.intro r1 (And.intro r2 r3))
  clear r1 r2 r3 hw_n
  have HC := Lib.hid (And.intro k_g (And.intro k_h (And.intro k_tw (And.intro k_m1 (And.intro k_m2 (And.intro k_l1 (And.intro k_l2 (And.intro k_o1 (And.intro k_o2 k_s)))))))))
  clear k_g k_h k_tw k_m1 k_m2 k_l1 k_l2 k_o1 k_o2 k_s
  go_enter Try.func4, Try.ntmps4
  go_upto_region 1 with (fail)
  clear hV
  go_wp2_with fail
  refine (HC.out.1 _ _ _ _ _ HQ.out.2.2.1.v).mono ?_
  rintro e w1 ⟨g, rfl, hst, hg1⟩
  clear c_q_s0 c_q_s1 c_q_s2 c_q_s3 c_q_n0 c_q_n1
  obtain ⟨q_s, q_n, O_s, S_n, hB⟩ := HQ.out
  clear HQ
  have sz_w1 : V.heap.size ≤ w1.heap.size := hst.size
  replace q_s := q_s.step hst
  replace q_n := q_n.step hst
  replace O_s := O_s.step hst
  replace S_n := S_n.step hst
  replace hB := hB.step hst
  clear hst
  have HQ := Lib.hid (And.intro q_s (And.intro q_n (And.intro O_s (And.intro S_n hB))))
  clear q_s q_n O_s S_n hB
  have c_q_s0 := LK.cell HQ.out.1 0
  have c_q_s1 := LK.cell HQ.out.1 1
  have c_q_s2 := LK.cell HQ.out.1 2
  have c_q_s3 := LK.cell HQ.out.1 3
  have c_q_n0 := LK.cell HQ.out.2.1 0
  have c_q_n1 := LK.cell HQ.out.2.1 1
  simp at c_q_s0 c_q_s1 c_q_s2 c_q_s3 c_q_n0 c_q_n1
  cases g
  case true =>
    go_wp2
    go_ret
    exact ⟨rfl, HQ.out.2.2.2.2⟩
  have HSM := Lib.hid (hg1 rfl)
  clear hg1
  go_wp2_with fail
  refine (HC.out.2.1 _ _ HQ.out.2.2.2.1.v).mono ?_
  rintro e w2 ⟨g, rfl, hst, -⟩
  clear c_q_s0 c_q_s1 c_q_s2 c_q_s3 c_q_n0 c_q_n1
  obtain ⟨q_s, q_n, O_s, S_n, hB⟩ := HQ.out
  clear HQ
  have sz_w2 : w1.heap.size ≤ w2.heap.size := hst.size
  replace q_s := q_s.step hst
  replace q_n := q_n.step hst
  replace O_s := O_s.step hst
  replace S_n := S_n.step hst
  replace hB := hB.step hst
  clear hst
  have HQ := Lib.hid (And.intro q_s (And.intro q_n (And.intro O_s (And.intro S_n hB))))
  clear q_s q_n O_s S_n hB
  have c_q_s0 := LK.cell HQ.out.1 0
  have c_q_s1 := LK.cell HQ.out.1 1
  have c_q_s2 := LK.cell HQ.out.1 2
  have c_q_s3 := LK.cell HQ.out.1 3
  have c_q_n0 := LK.cell HQ.out.2.1 0
  have c_q_n1 := LK.cell HQ.out.2.1 1
  simp at c_q_s0 c_q_s1 c_q_s2 c_q_s3 c_q_n0 c_q_n1
  cases g
  case true =>
    go_wp2
    go_ret
    exact ⟨rfl, HQ.out.2.2.2.2⟩
  go_wp2_with fail
  refine (HC.out.2.2.1 _ _ _ _ _ HQ.out.2.2.1.v HSM.out.few).mono ?_
  rintro e w3 ⟨b1, u1, x1, y1, rfl, hm, hst⟩
  clear c_q_s0 c_q_s1 c_q_s2 c_q_s3 c_q_n0 c_q_n1
  obtain ⟨q_s, q_n, O_s, S_n, hB⟩ := HQ.out
  clear HQ
  have O_n := LO.of hm (Nat.le_refl _)
  obtain ⟨ab_n1, cb_n1, rfl, -, -, -, -⟩ := hm.1.1
  obtain ⟨au_n1, cu_n1, rfl, -, -, -, -⟩ := hm.1.2
  obtain ⟨ax_n1, cx_n1, rfl, -, -⟩ := hm.2.1.form rfl
  obtain ⟨ay_n1, cy_n1, rfl, -, -⟩ := hm.2.2.form rfl
  clear hm
  have sz_w3 : w2.heap.size ≤ w3.heap.size := hst.size
  replace q_s := q_s.step hst
  replace q_n := q_n.step hst
  replace O_s := O_s.step hst
  replace S_n := S_n.step hst
  replace hB := hB.step hst
  clear hst
  have HQ := Lib.hid (And.intro q_s (And.intro q_n (And.intro O_s (And.intro S_n (And.intro O_n hB)))))
  clear q_s q_n O_s S_n O_n hB
  have c_q_s0 := LK.cell HQ.out.1 0
  have c_q_s1 := LK.cell HQ.out.1 1
  have c_q_s2 := LK.cell HQ.out.1 2
  have c_q_s3 := LK.cell HQ.out.1 3
  have c_q_n0 := LK.cell HQ.out.2.1 0
  have c_q_n1 := LK.cell HQ.out.2.1 1
  simp at c_q_s0 c_q_s1 c_q_s2 c_q_s3 c_q_n0 c_q_n1
  go_upto_region 4 with (fail)
  clear c_q_s0 c_q_s1 c_q_s2 c_q_s3 c_q_n0 c_q_n1
  obtain ⟨q_s, q_n, O_s, S_n, O_n, hB⟩ := HQ.out
  clear HQ
  have hst := (Below.refl w3.heap.size w3).alloc (Nat.le_refl _) (.cells #[.slice ab_n1 s.disk.blocks.length cb_n1, .slice au_n1 s.disk.waits.length cu_n1, .slice ax_n1 s.now.length cx_n1, .slice ay_n1 s.last.length cy_n1] 28)
  have hlt : w3.heap.size < (w3.alloc (.cells #[.slice ab_n1 s.disk.blocks.length cb_n1, .slice au_n1 s.disk.waits.length cu_n1, .slice ax_n1 s.now.length cx_n1, .slice ay_n1 s.last.length cy_n1] 28)).heap.size := by simp
  have q_o := LK.new w3 (.cells #[.slice ab_n1 s.disk.blocks.length cb_n1, .slice au_n1 s.disk.waits.length cu_n1, .slice ax_n1 s.now.length cx_n1, .slice ay_n1 s.last.length cy_n1] 28)
  replace q_s := q_s.step hst
  replace q_n := q_n.step hst
  replace O_s := O_s.step hst
  replace S_n := S_n.step hst
  replace O_n := O_n.step hst
  replace hB := hB.step hst
  obtain ⟨w4, hw⟩ : ∃ v, w3.alloc (.cells #[.slice ab_n1 s.disk.blocks.length cb_n1, .slice au_n1 s.disk.waits.length cu_n1, .slice ax_n1 s.now.length cx_n1, .slice ay_n1 s.last.length cy_n1] 28) = v := ⟨_, rfl⟩
  rw [hw] at hlt q_o q_s q_n O_s S_n O_n hB ⊢
  clear hw hst
  have sz_w4 := hlt
  clear hlt
  have HQ := Lib.hid (And.intro q_s (And.intro q_n (And.intro O_s (And.intro S_n (And.intro O_n (And.intro q_o hB))))))
  clear q_s q_n O_s S_n O_n q_o hB
  have c_q_s0 := LK.cell HQ.out.1 0
  have c_q_s1 := LK.cell HQ.out.1 1
  have c_q_s2 := LK.cell HQ.out.1 2
  have c_q_s3 := LK.cell HQ.out.1 3
  have c_q_n0 := LK.cell HQ.out.2.1 0
  have c_q_n1 := LK.cell HQ.out.2.1 1
  have c_q_o0 := LK.cell HQ.out.2.2.2.2.2.1 0
  have c_q_o1 := LK.cell HQ.out.2.2.2.2.2.1 1
  have c_q_o2 := LK.cell HQ.out.2.2.2.2.2.1 2
  have c_q_o3 := LK.cell HQ.out.2.2.2.2.2.1 3
  simp at c_q_s0 c_q_s1 c_q_s2 c_q_s3 c_q_n0 c_q_n1 c_q_o0 c_q_o1 c_q_o2 c_q_o3
  go_wp2_with fail
  refine (HC.out.2.2.2.1 _ _ _ _ _ _ HQ.out.2.2.2.2.1.v HQ.out.2.2.2.1.v).mono ?_
  rintro e w5 ⟨b2, u2, x2, y2, rfl, hm⟩
  clear c_q_s0 c_q_s1 c_q_s2 c_q_s3 c_q_n0 c_q_n1 c_q_o0 c_q_o1 c_q_o2 c_q_o3
  obtain ⟨q_s, q_n, O_s, S_n, O_n, q_o, hB⟩ := HQ.out
  clear HQ
  have P_a := LP.of hm
  have hst := hm.below
  obtain ⟨ab_a, cb_a, rfl, -, -, -, -⟩ := hm.store.v.1.1
  obtain ⟨au_a, cu_a, rfl, -, -, -, -⟩ := hm.store.v.1.2
  obtain ⟨ax_a, cx_a, rfl, -, -⟩ := hm.store.v.2.1.form rfl
  obtain ⟨ay_a, cy_a, rfl, -, -⟩ := hm.store.v.2.2.form rfl
  clear hm
  have sz_w5 : w4.heap.size ≤ w5.heap.size := hst.size
  replace q_s := q_s.step hst
  replace q_n := q_n.step hst
  replace O_s := O_s.step hst
  replace S_n := S_n.step hst
  replace O_n := O_n.step hst
  replace q_o := q_o.step hst
  replace hB := hB.step hst
  clear hst
  have HQ := Lib.hid (And.intro q_s (And.intro q_n (And.intro O_s (And.intro S_n (And.intro O_n (And.intro q_o (And.intro P_a hB)))))))
  clear q_s q_n O_s S_n O_n q_o P_a hB
  have c_q_s0 := LK.cell HQ.out.1 0
  have c_q_s1 := LK.cell HQ.out.1 1
  have c_q_s2 := LK.cell HQ.out.1 2
  have c_q_s3 := LK.cell HQ.out.1 3
  have c_q_n0 := LK.cell HQ.out.2.1 0
  have c_q_n1 := LK.cell HQ.out.2.1 1
  have c_q_o0 := LK.cell HQ.out.2.2.2.2.2.1 0
  have c_q_o1 := LK.cell HQ.out.2.2.2.2.2.1 1
  have c_q_o2 := LK.cell HQ.out.2.2.2.2.2.1 2
  have c_q_o3 := LK.cell HQ.out.2.2.2.2.2.1 3
  simp at c_q_s0 c_q_s1 c_q_s2 c_q_s3 c_q_n0 c_q_n1 c_q_o0 c_q_o1 c_q_o2 c_q_o3
  go_upto_region 5 with (fail)
  clear c_q_s0 c_q_s1 c_q_s2 c_q_s3 c_q_n0 c_q_n1 c_q_o0 c_q_o1 c_q_o2 c_q_o3
  obtain ⟨q_s, q_n, O_s, S_n, O_n, q_o, P_a, hB⟩ := HQ.out
  clear HQ
  have hst := (Below.refl w5.heap.size w5).alloc (Nat.le_refl _) (.cells #[.slice ab_a MS.disk.blocks.length cb_a, .slice au_a MS.disk.waits.length cu_a, .slice ax_a MS.now.length cx_a, .slice ay_a MS.last.length cy_a] 28)
  have hlt : w5.heap.size < (w5.alloc (.cells #[.slice ab_a MS.disk.blocks.length cb_a, .slice au_a MS.disk.waits.length cu_a, .slice ax_a MS.now.length cx_a, .slice ay_a MS.last.length cy_a] 28)).heap.size := by simp
  have q_a := LK.new w5 (.cells #[.slice ab_a MS.disk.blocks.length cb_a, .slice au_a MS.disk.waits.length cu_a, .slice ax_a MS.now.length cx_a, .slice ay_a MS.last.length cy_a] 28)
  replace q_s := q_s.step hst
  replace q_n := q_n.step hst
  replace O_s := O_s.step hst
  replace S_n := S_n.step hst
  replace O_n := O_n.step hst
  replace q_o := q_o.step hst
  replace P_a := P_a.step hst
  replace hB := hB.step hst
  obtain ⟨w6, hw⟩ : ∃ v, w5.alloc (.cells #[.slice ab_a MS.disk.blocks.length cb_a, .slice au_a MS.disk.waits.length cu_a, .slice ax_a MS.now.length cx_a, .slice ay_a MS.last.length cy_a] 28) = v := ⟨_, rfl⟩
  rw [hw] at hlt q_a q_s q_n O_s S_n O_n q_o P_a hB ⊢
  clear hw hst
  have sz_w6 := hlt
  clear hlt
  have HQ := Lib.hid (And.intro q_s (And.intro q_n (And.intro O_s (And.intro S_n (And.intro O_n (And.intro q_o (And.intro P_a (And.intro q_a hB))))))))
  clear q_s q_n O_s S_n O_n q_o P_a q_a hB
  have c_q_s0 := LK.cell HQ.out.1 0
  have c_q_s1 := LK.cell HQ.out.1 1
  have c_q_s2 := LK.cell HQ.out.1 2
  have c_q_s3 := LK.cell HQ.out.1 3
  have c_q_n0 := LK.cell HQ.out.2.1 0
  have c_q_n1 := LK.cell HQ.out.2.1 1
  have c_q_o0 := LK.cell HQ.out.2.2.2.2.2.1 0
  have c_q_o1 := LK.cell HQ.out.2.2.2.2.2.1 1
  have c_q_o2 := LK.cell HQ.out.2.2.2.2.2.1 2
  have c_q_o3 := LK.cell HQ.out.2.2.2.2.2.1 3
  have c_q_a0 := LK.cell HQ.out.2.2.2.2.2.2.2.1 0
  have c_q_a1 := LK.cell HQ.out.2.2.2.2.2.2.2.1 1
  have c_q_a2 := LK.cell HQ.out.2.2.2.2.2.2.2.1 2
  have c_q_a3 := LK.cell HQ.out.2.2.2.2.2.2.2.1 3
  simp at c_q_s0 c_q_s1 c_q_s2 c_q_s3 c_q_n0 c_q_n1 c_q_o0 c_q_o1 c_q_o2 c_q_o3 c_q_a0 c_q_a1 c_q_a2 c_q_a3
  go_wp2_with fail
  refine (HC.out.2.2.2.2.1 _ _ _ _ _ _ HQ.out.2.2.1.v HQ.out.2.2.2.1.v).mono ?_
  rintro e w7 ⟨b3, u3, x3, y3, rfl, hm, hst⟩
  clear c_q_s0 c_q_s1 c_q_s2 c_q_s3 c_q_n0 c_q_n1 c_q_o0 c_q_o1 c_q_o2 c_q_o3 c_q_a0 c_q_a1 c_q_a2 c_q_a3
  obtain ⟨q_s, q_n, O_s, S_n, O_n, q_o, P_a, q_a, hB⟩ := HQ.out
  clear HQ
  have O_b := LO.of hm (Nat.le_refl _)
  obtain ⟨ab_b, cb_b, rfl, -, -, -, -⟩ := hm.1.1
  obtain ⟨au_b, cu_b, rfl, -, -, -, -⟩ := hm.1.2
  obtain ⟨ax_b, cx_b, rfl, -, -⟩ := hm.2.1.form rfl
  obtain ⟨ay_b, cy_b, rfl, -, -⟩ := hm.2.2.form rfl
  clear hm
  have sz_w7 : w6.heap.size ≤ w7.heap.size := hst.size
  replace q_s := q_s.step hst
  replace q_n := q_n.step hst
  replace O_s := O_s.step hst
  replace S_n := S_n.step hst
  replace O_n := O_n.step hst
  replace q_o := q_o.step hst
  replace P_a := P_a.step hst
  replace q_a := q_a.step hst
  replace hB := hB.step hst
  clear hst
  have HQ := Lib.hid (And.intro q_s (And.intro q_n (And.intro O_s (And.intro S_n (And.intro O_n (And.intro q_o (And.intro P_a (And.intro q_a (And.intro O_b hB)))))))))
  clear q_s q_n O_s S_n O_n q_o P_a q_a O_b hB
  have c_q_s0 := LK.cell HQ.out.1 0
  have c_q_s1 := LK.cell HQ.out.1 1
  have c_q_s2 := LK.cell HQ.out.1 2
  have c_q_s3 := LK.cell HQ.out.1 3
  have c_q_n0 := LK.cell HQ.out.2.1 0
  have c_q_n1 := LK.cell HQ.out.2.1 1
  have c_q_o0 := LK.cell HQ.out.2.2.2.2.2.1 0
  have c_q_o1 := LK.cell HQ.out.2.2.2.2.2.1 1
  have c_q_o2 := LK.cell HQ.out.2.2.2.2.2.1 2
  have c_q_o3 := LK.cell HQ.out.2.2.2.2.2.1 3
  have c_q_a0 := LK.cell HQ.out.2.2.2.2.2.2.2.1 0
  have c_q_a1 := LK.cell HQ.out.2.2.2.2.2.2.2.1 1
  have c_q_a2 := LK.cell HQ.out.2.2.2.2.2.2.2.1 2
  have c_q_a3 := LK.cell HQ.out.2.2.2.2.2.2.2.1 3
  simp at c_q_s0 c_q_s1 c_q_s2 c_q_s3 c_q_n0 c_q_n1 c_q_o0 c_q_o1 c_q_o2 c_q_o3 c_q_a0 c_q_a1 c_q_a2 c_q_a3
  go_upto_region 6 with (fail)
  clear c_q_s0 c_q_s1 c_q_s2 c_q_s3 c_q_n0 c_q_n1 c_q_o0 c_q_o1 c_q_o2 c_q_o3 c_q_a0 c_q_a1 c_q_a2 c_q_a3
  obtain ⟨q_s, q_n, O_s, S_n, O_n, q_o, P_a, q_a, O_b, hB⟩ := HQ.out
  clear HQ
  have hst := (Below.refl w7.heap.size w7).alloc (Nat.le_refl _) (.cells #[.slice ab_b MS.disk.blocks.length cb_b, .slice au_b MS.disk.waits.length cu_b, .slice ax_b MS.now.length cx_b, .slice ay_b MS.last.length cy_b] 28)
  have hlt : w7.heap.size < (w7.alloc (.cells #[.slice ab_b MS.disk.blocks.length cb_b, .slice au_b MS.disk.waits.length cu_b, .slice ax_b MS.now.length cx_b, .slice ay_b MS.last.length cy_b] 28)).heap.size := by simp
  have q_b := LK.new w7 (.cells #[.slice ab_b MS.disk.blocks.length cb_b, .slice au_b MS.disk.waits.length cu_b, .slice ax_b MS.now.length cx_b, .slice ay_b MS.last.length cy_b] 28)
  replace q_s := q_s.step hst
  replace q_n := q_n.step hst
  replace O_s := O_s.step hst
  replace S_n := S_n.step hst
  replace O_n := O_n.step hst
  replace q_o := q_o.step hst
  replace P_a := P_a.step hst
  replace q_a := q_a.step hst
  replace O_b := O_b.step hst
  replace hB := hB.step hst
  obtain ⟨w8, hw⟩ : ∃ v, w7.alloc (.cells #[.slice ab_b MS.disk.blocks.length cb_b, .slice au_b MS.disk.waits.length cu_b, .slice ax_b MS.now.length cx_b, .slice ay_b MS.last.length cy_b] 28) = v := ⟨_, rfl⟩
  rw [hw] at hlt q_b q_s q_n O_s S_n O_n q_o P_a q_a O_b hB ⊢
  clear hw hst
  have sz_w8 := hlt
  clear hlt
  have HQ := Lib.hid (And.intro q_s (And.intro q_n (And.intro O_s (And.intro S_n (And.intro O_n (And.intro q_o (And.intro P_a (And.intro q_a (And.intro O_b (And.intro q_b hB))))))))))
  clear q_s q_n O_s S_n O_n q_o P_a q_a O_b q_b hB
  have c_q_s0 := LK.cell HQ.out.1 0
  have c_q_s1 := LK.cell HQ.out.1 1
  have c_q_s2 := LK.cell HQ.out.1 2
  have c_q_s3 := LK.cell HQ.out.1 3
  have c_q_n0 := LK.cell HQ.out.2.1 0
  have c_q_n1 := LK.cell HQ.out.2.1 1
  have c_q_o0 := LK.cell HQ.out.2.2.2.2.2.1 0
  have c_q_o1 := LK.cell HQ.out.2.2.2.2.2.1 1
  have c_q_o2 := LK.cell HQ.out.2.2.2.2.2.1 2
  have c_q_o3 := LK.cell HQ.out.2.2.2.2.2.1 3
  have c_q_a0 := LK.cell HQ.out.2.2.2.2.2.2.2.1 0
  have c_q_a1 := LK.cell HQ.out.2.2.2.2.2.2.2.1 1
  have c_q_a2 := LK.cell HQ.out.2.2.2.2.2.2.2.1 2
  have c_q_a3 := LK.cell HQ.out.2.2.2.2.2.2.2.1 3
  have c_q_b0 := LK.cell HQ.out.2.2.2.2.2.2.2.2.2.1 0
  have c_q_b1 := LK.cell HQ.out.2.2.2.2.2.2.2.2.2.1 1
  have c_q_b2 := LK.cell HQ.out.2.2.2.2.2.2.2.2.2.1 2
  have c_q_b3 := LK.cell HQ.out.2.2.2.2.2.2.2.2.2.1 3
  simp at c_q_s0 c_q_s1 c_q_s2 c_q_s3 c_q_n0 c_q_n1 c_q_o0 c_q_o1 c_q_o2 c_q_o3 c_q_a0 c_q_a1 c_q_a2 c_q_a3 c_q_b0 c_q_b1 c_q_b2 c_q_b3
  go_wp2_with fail
  refine (HC.out.2.2.2.2.2.1 _ _ _ _ _ HQ.out.2.2.2.2.1.v).mono ?_
  rintro e w9 ⟨b4, u4, x4, y4, rfl, hm⟩
  clear c_q_s0 c_q_s1 c_q_s2 c_q_s3 c_q_n0 c_q_n1 c_q_o0 c_q_o1 c_q_o2 c_q_o3 c_q_a0 c_q_a1 c_q_a2 c_q_a3 c_q_b0 c_q_b1 c_q_b2 c_q_b3
  obtain ⟨q_s, q_n, O_s, S_n, O_n, q_o, P_a, q_a, O_b, q_b, hB⟩ := HQ.out
  clear HQ
  have P_c := LP.of hm
  have hst := hm.below
  obtain ⟨ab_c, cb_c, rfl, -, -, -, -⟩ := hm.store.v.1.1
  obtain ⟨au_c, cu_c, rfl, -, -, -, -⟩ := hm.store.v.1.2
  obtain ⟨ax_c, cx_c, rfl, -, -⟩ := hm.store.v.2.1.form rfl
  obtain ⟨ay_c, cy_c, rfl, -, -⟩ := hm.store.v.2.2.form rfl
  clear hm
  have sz_w9 : w8.heap.size ≤ w9.heap.size := hst.size
  replace q_s := q_s.step hst
  replace q_n := q_n.step hst
  replace O_s := O_s.step hst
  replace S_n := S_n.step hst
  replace O_n := O_n.step hst
  replace q_o := q_o.step hst
  replace P_a := P_a.step hst
  replace q_a := q_a.step hst
  replace O_b := O_b.step hst
  replace q_b := q_b.step hst
  replace hB := hB.step hst
  clear hst
  have HQ := Lib.hid (And.intro q_s (And.intro q_n (And.intro O_s (And.intro S_n (And.intro O_n (And.intro q_o (And.intro P_a (And.intro q_a (And.intro O_b (And.intro q_b (And.intro P_c hB)))))))))))
  clear q_s q_n O_s S_n O_n q_o P_a q_a O_b q_b P_c hB
  have c_q_s0 := LK.cell HQ.out.1 0
  have c_q_s1 := LK.cell HQ.out.1 1
  have c_q_s2 := LK.cell HQ.out.1 2
  have c_q_s3 := LK.cell HQ.out.1 3
  have c_q_n0 := LK.cell HQ.out.2.1 0
  have c_q_n1 := LK.cell HQ.out.2.1 1
  have c_q_o0 := LK.cell HQ.out.2.2.2.2.2.1 0
  have c_q_o1 := LK.cell HQ.out.2.2.2.2.2.1 1
  have c_q_o2 := LK.cell HQ.out.2.2.2.2.2.1 2
  have c_q_o3 := LK.cell HQ.out.2.2.2.2.2.1 3
  have c_q_a0 := LK.cell HQ.out.2.2.2.2.2.2.2.1 0
  have c_q_a1 := LK.cell HQ.out.2.2.2.2.2.2.2.1 1
  have c_q_a2 := LK.cell HQ.out.2.2.2.2.2.2.2.1 2
  have c_q_a3 := LK.cell HQ.out.2.2.2.2.2.2.2.1 3
  have c_q_b0 := LK.cell HQ.out.2.2.2.2.2.2.2.2.2.1 0
  have c_q_b1 := LK.cell HQ.out.2.2.2.2.2.2.2.2.2.1 1
  have c_q_b2 := LK.cell HQ.out.2.2.2.2.2.2.2.2.2.1 2
  have c_q_b3 := LK.cell HQ.out.2.2.2.2.2.2.2.2.2.1 3
  simp at c_q_s0 c_q_s1 c_q_s2 c_q_s3 c_q_n0 c_q_n1 c_q_o0 c_q_o1 c_q_o2 c_q_o3 c_q_a0 c_q_a1 c_q_a2 c_q_a3 c_q_b0 c_q_b1 c_q_b2 c_q_b3
  go_upto_region 7 with (fail)
  clear c_q_s0 c_q_s1 c_q_s2 c_q_s3 c_q_n0 c_q_n1 c_q_o0 c_q_o1 c_q_o2 c_q_o3 c_q_a0 c_q_a1 c_q_a2 c_q_a3 c_q_b0 c_q_b1 c_q_b2 c_q_b3
  obtain ⟨q_s, q_n, O_s, S_n, O_n, q_o, P_a, q_a, O_b, q_b, P_c, hB⟩ := HQ.out
  clear HQ
  have hst := (Below.refl w9.heap.size w9).alloc (Nat.le_refl _) (.cells #[.slice ab_c LS_.disk.blocks.length cb_c, .slice au_c LS_.disk.waits.length cu_c, .slice ax_c LS_.now.length cx_c, .slice ay_c LS_.last.length cy_c] 28)
  have hlt : w9.heap.size < (w9.alloc (.cells #[.slice ab_c LS_.disk.blocks.length cb_c, .slice au_c LS_.disk.waits.length cu_c, .slice ax_c LS_.now.length cx_c, .slice ay_c LS_.last.length cy_c] 28)).heap.size := by simp
  have q_c := LK.new w9 (.cells #[.slice ab_c LS_.disk.blocks.length cb_c, .slice au_c LS_.disk.waits.length cu_c, .slice ax_c LS_.now.length cx_c, .slice ay_c LS_.last.length cy_c] 28)
  replace q_s := q_s.step hst
  replace q_n := q_n.step hst
  replace O_s := O_s.step hst
  replace S_n := S_n.step hst
  replace O_n := O_n.step hst
  replace q_o := q_o.step hst
  replace P_a := P_a.step hst
  replace q_a := q_a.step hst
  replace O_b := O_b.step hst
  replace q_b := q_b.step hst
  replace P_c := P_c.step hst
  replace hB := hB.step hst
  obtain ⟨w10, hw⟩ : ∃ v, w9.alloc (.cells #[.slice ab_c LS_.disk.blocks.length cb_c, .slice au_c LS_.disk.waits.length cu_c, .slice ax_c LS_.now.length cx_c, .slice ay_c LS_.last.length cy_c] 28) = v := ⟨_, rfl⟩
  rw [hw] at hlt q_c q_s q_n O_s S_n O_n q_o P_a q_a O_b q_b P_c hB ⊢
  clear hw hst
  have sz_w10 := hlt
  clear hlt
  have HQ := Lib.hid (And.intro q_s (And.intro q_n (And.intro O_s (And.intro S_n (And.intro O_n (And.intro q_o (And.intro P_a (And.intro q_a (And.intro O_b (And.intro q_b (And.intro P_c (And.intro q_c hB))))))))))))
  clear q_s q_n O_s S_n O_n q_o P_a q_a O_b q_b P_c q_c hB
  have c_q_s0 := LK.cell HQ.out.1 0
  have c_q_s1 := LK.cell HQ.out.1 1
  have c_q_s2 := LK.cell HQ.out.1 2
  have c_q_s3 := LK.cell HQ.out.1 3
  have c_q_n0 := LK.cell HQ.out.2.1 0
  have c_q_n1 := LK.cell HQ.out.2.1 1
  have c_q_o0 := LK.cell HQ.out.2.2.2.2.2.1 0
  have c_q_o1 := LK.cell HQ.out.2.2.2.2.2.1 1
  have c_q_o2 := LK.cell HQ.out.2.2.2.2.2.1 2
  have c_q_o3 := LK.cell HQ.out.2.2.2.2.2.1 3
  have c_q_a0 := LK.cell HQ.out.2.2.2.2.2.2.2.1 0
  have c_q_a1 := LK.cell HQ.out.2.2.2.2.2.2.2.1 1
  have c_q_a2 := LK.cell HQ.out.2.2.2.2.2.2.2.1 2
  have c_q_a3 := LK.cell HQ.out.2.2.2.2.2.2.2.1 3
  have c_q_b0 := LK.cell HQ.out.2.2.2.2.2.2.2.2.2.1 0
  have c_q_b1 := LK.cell HQ.out.2.2.2.2.2.2.2.2.2.1 1
  have c_q_b2 := LK.cell HQ.out.2.2.2.2.2.2.2.2.2.1 2
  have c_q_b3 := LK.cell HQ.out.2.2.2.2.2.2.2.2.2.1 3
  have c_q_c0 := LK.cell HQ.out.2.2.2.2.2.2.2.2.2.2.2.1 0
  have c_q_c1 := LK.cell HQ.out.2.2.2.2.2.2.2.2.2.2.2.1 1
  have c_q_c2 := LK.cell HQ.out.2.2.2.2.2.2.2.2.2.2.2.1 2
  have c_q_c3 := LK.cell HQ.out.2.2.2.2.2.2.2.2.2.2.2.1 3
  simp at c_q_s0 c_q_s1 c_q_s2 c_q_s3 c_q_n0 c_q_n1 c_q_o0 c_q_o1 c_q_o2 c_q_o3 c_q_a0 c_q_a1 c_q_a2 c_q_a3 c_q_b0 c_q_b1 c_q_b2 c_q_b3 c_q_c0 c_q_c1 c_q_c2 c_q_c3
  go_wp2_with fail
  refine (HC.out.2.2.2.2.2.2.1 _ _ _ _ _ HQ.out.2.2.1.v).mono ?_
  rintro e w11 ⟨b5, u5, x5, y5, rfl, hm, hst⟩
  clear c_q_s0 c_q_s1 c_q_s2 c_q_s3 c_q_n0 c_q_n1 c_q_o0 c_q_o1 c_q_o2 c_q_o3 c_q_a0 c_q_a1 c_q_a2 c_q_a3 c_q_b0 c_q_b1 c_q_b2 c_q_b3 c_q_c0 c_q_c1 c_q_c2 c_q_c3
  obtain ⟨q_s, q_n, O_s, S_n, O_n, q_o, P_a, q_a, O_b, q_b, P_c, q_c, hB⟩ := HQ.out
  clear HQ
  have O_d := LO.of hm (Nat.le_refl _)
  obtain ⟨ab_d, cb_d, rfl, -, -, -, -⟩ := hm.1.1
  obtain ⟨au_d, cu_d, rfl, -, -, -, -⟩ := hm.1.2
  obtain ⟨ax_d, cx_d, rfl, -, -⟩ := hm.2.1.form rfl
  obtain ⟨ay_d, cy_d, rfl, -, -⟩ := hm.2.2.form rfl
  clear hm
  have sz_w11 : w10.heap.size ≤ w11.heap.size := hst.size
  replace q_s := q_s.step hst
  replace q_n := q_n.step hst
  replace O_s := O_s.step hst
  replace S_n := S_n.step hst
  replace O_n := O_n.step hst
  replace q_o := q_o.step hst
  replace P_a := P_a.step hst
  replace q_a := q_a.step hst
  replace O_b := O_b.step hst
  replace q_b := q_b.step hst
  replace P_c := P_c.step hst
  replace q_c := q_c.step hst
  replace hB := hB.step hst
  clear hst
  have HQ := Lib.hid (And.intro q_s (And.intro q_n (And.intro O_s (And.intro S_n (And.intro O_n (And.intro q_o (And.intro P_a (And.intro q_a (And.intro O_b (And.intro q_b (And.intro P_c (And.intro q_c (And.intro O_d hB)))))))))))))
  clear q_s q_n O_s S_n O_n q_o P_a q_a O_b q_b P_c q_c O_d hB
  have c_q_s0 := LK.cell HQ.out.1 0
  have c_q_s1 := LK.cell HQ.out.1 1
  have c_q_s2 := LK.cell HQ.out.1 2
  have c_q_s3 := LK.cell HQ.out.1 3
  have c_q_n0 := LK.cell HQ.out.2.1 0
  have c_q_n1 := LK.cell HQ.out.2.1 1
  have c_q_o0 := LK.cell HQ.out.2.2.2.2.2.1 0
  have c_q_o1 := LK.cell HQ.out.2.2.2.2.2.1 1
  have c_q_o2 := LK.cell HQ.out.2.2.2.2.2.1 2
  have c_q_o3 := LK.cell HQ.out.2.2.2.2.2.1 3
  have c_q_a0 := LK.cell HQ.out.2.2.2.2.2.2.2.1 0
  have c_q_a1 := LK.cell HQ.out.2.2.2.2.2.2.2.1 1
  have c_q_a2 := LK.cell HQ.out.2.2.2.2.2.2.2.1 2
  have c_q_a3 := LK.cell HQ.out.2.2.2.2.2.2.2.1 3
  have c_q_b0 := LK.cell HQ.out.2.2.2.2.2.2.2.2.2.1 0
  have c_q_b1 := LK.cell HQ.out.2.2.2.2.2.2.2.2.2.1 1
  have c_q_b2 := LK.cell HQ.out.2.2.2.2.2.2.2.2.2.1 2
  have c_q_b3 := LK.cell HQ.out.2.2.2.2.2.2.2.2.2.1 3
  have c_q_c0 := LK.cell HQ.out.2.2.2.2.2.2.2.2.2.2.2.1 0
  have c_q_c1 := LK.cell HQ.out.2.2.2.2.2.2.2.2.2.2.2.1 1
  have c_q_c2 := LK.cell HQ.out.2.2.2.2.2.2.2.2.2.2.2.1 2
  have c_q_c3 := LK.cell HQ.out.2.2.2.2.2.2.2.2.2.2.2.1 3
  simp at c_q_s0 c_q_s1 c_q_s2 c_q_s3 c_q_n0 c_q_n1 c_q_o0 c_q_o1 c_q_o2 c_q_o3 c_q_a0 c_q_a1 c_q_a2 c_q_a3 c_q_b0 c_q_b1 c_q_b2 c_q_b3 c_q_c0 c_q_c1 c_q_c2 c_q_c3
  go_upto_region 8 with (fail)
  clear c_q_s0 c_q_s1 c_q_s2 c_q_s3 c_q_n0 c_q_n1 c_q_o0 c_q_o1 c_q_o2 c_q_o3 c_q_a0 c_q_a1 c_q_a2 c_q_a3 c_q_b0 c_q_b1 c_q_b2 c_q_b3 c_q_c0 c_q_c1 c_q_c2 c_q_c3
  obtain ⟨q_s, q_n, O_s, S_n, O_n, q_o, P_a, q_a, O_b, q_b, P_c, q_c, O_d, hB⟩ := HQ.out
  clear HQ
  have hst := (Below.refl w11.heap.size w11).alloc (Nat.le_refl _) (.cells #[.slice ab_d LS_.disk.blocks.length cb_d, .slice au_d LS_.disk.waits.length cu_d, .slice ax_d LS_.now.length cx_d, .slice ay_d LS_.last.length cy_d] 28)
  have hlt : w11.heap.size < (w11.alloc (.cells #[.slice ab_d LS_.disk.blocks.length cb_d, .slice au_d LS_.disk.waits.length cu_d, .slice ax_d LS_.now.length cx_d, .slice ay_d LS_.last.length cy_d] 28)).heap.size := by simp
  have q_d := LK.new w11 (.cells #[.slice ab_d LS_.disk.blocks.length cb_d, .slice au_d LS_.disk.waits.length cu_d, .slice ax_d LS_.now.length cx_d, .slice ay_d LS_.last.length cy_d] 28)
  replace q_s := q_s.step hst
  replace q_n := q_n.step hst
  replace O_s := O_s.step hst
  replace S_n := S_n.step hst
  replace O_n := O_n.step hst
  replace q_o := q_o.step hst
  replace P_a := P_a.step hst
  replace q_a := q_a.step hst
  replace O_b := O_b.step hst
  replace q_b := q_b.step hst
  replace P_c := P_c.step hst
  replace q_c := q_c.step hst
  replace O_d := O_d.step hst
  replace hB := hB.step hst
  obtain ⟨w12, hw⟩ : ∃ v, w11.alloc (.cells #[.slice ab_d LS_.disk.blocks.length cb_d, .slice au_d LS_.disk.waits.length cu_d, .slice ax_d LS_.now.length cx_d, .slice ay_d LS_.last.length cy_d] 28) = v := ⟨_, rfl⟩
  rw [hw] at hlt q_d q_s q_n O_s S_n O_n q_o P_a q_a O_b q_b P_c q_c O_d hB ⊢
  clear hw hst
  have sz_w12 := hlt
  clear hlt
  have HQ := Lib.hid (And.intro q_s (And.intro q_n (And.intro O_s (And.intro S_n (And.intro O_n (And.intro q_o (And.intro P_a (And.intro q_a (And.intro O_b (And.intro q_b (And.intro P_c (And.intro q_c (And.intro O_d (And.intro q_d hB))))))))))))))
  clear q_s q_n O_s S_n O_n q_o P_a q_a O_b q_b P_c q_c O_d q_d hB
  have c_q_s0 := LK.cell HQ.out.1 0
  have c_q_s1 := LK.cell HQ.out.1 1
  have c_q_s2 := LK.cell HQ.out.1 2
  have c_q_s3 := LK.cell HQ.out.1 3
  have c_q_n0 := LK.cell HQ.out.2.1 0
  have c_q_n1 := LK.cell HQ.out.2.1 1
  have c_q_o0 := LK.cell HQ.out.2.2.2.2.2.1 0
  have c_q_o1 := LK.cell HQ.out.2.2.2.2.2.1 1
  have c_q_o2 := LK.cell HQ.out.2.2.2.2.2.1 2
  have c_q_o3 := LK.cell HQ.out.2.2.2.2.2.1 3
  have c_q_a0 := LK.cell HQ.out.2.2.2.2.2.2.2.1 0
  have c_q_a1 := LK.cell HQ.out.2.2.2.2.2.2.2.1 1
  have c_q_a2 := LK.cell HQ.out.2.2.2.2.2.2.2.1 2
  have c_q_a3 := LK.cell HQ.out.2.2.2.2.2.2.2.1 3
  have c_q_b0 := LK.cell HQ.out.2.2.2.2.2.2.2.2.2.1 0
  have c_q_b1 := LK.cell HQ.out.2.2.2.2.2.2.2.2.2.1 1
  have c_q_b2 := LK.cell HQ.out.2.2.2.2.2.2.2.2.2.1 2
  have c_q_b3 := LK.cell HQ.out.2.2.2.2.2.2.2.2.2.1 3
  have c_q_c0 := LK.cell HQ.out.2.2.2.2.2.2.2.2.2.2.2.1 0
  have c_q_c1 := LK.cell HQ.out.2.2.2.2.2.2.2.2.2.2.2.1 1
  have c_q_c2 := LK.cell HQ.out.2.2.2.2.2.2.2.2.2.2.2.1 2
  have c_q_c3 := LK.cell HQ.out.2.2.2.2.2.2.2.2.2.2.2.1 3
  have c_q_d0 := LK.cell HQ.out.2.2.2.2.2.2.2.2.2.2.2.2.2.1 0
  have c_q_d1 := LK.cell HQ.out.2.2.2.2.2.2.2.2.2.2.2.2.2.1 1
  have c_q_d2 := LK.cell HQ.out.2.2.2.2.2.2.2.2.2.2.2.2.2.1 2
  have c_q_d3 := LK.cell HQ.out.2.2.2.2.2.2.2.2.2.2.2.2.2.1 3
  simp at c_q_s0 c_q_s1 c_q_s2 c_q_s3 c_q_n0 c_q_n1 c_q_o0 c_q_o1 c_q_o2 c_q_o3 c_q_a0 c_q_a1 c_q_a2 c_q_a3 c_q_b0 c_q_b1 c_q_b2 c_q_b3 c_q_c0 c_q_c1 c_q_c2 c_q_c3 c_q_d0 c_q_d1 c_q_d2 c_q_d3
  go_wp2_with fail
  refine (HC.out.2.2.2.2.2.2.2.1 _ _ _ _ _ HQ.out.2.2.2.2.1.v).mono ?_
  rintro e w13 ⟨b6, u6, x6, y6, rfl, hm⟩
  clear c_q_s0 c_q_s1 c_q_s2 c_q_s3 c_q_n0 c_q_n1 c_q_o0 c_q_o1 c_q_o2 c_q_o3 c_q_a0 c_q_a1 c_q_a2 c_q_a3 c_q_b0 c_q_b1 c_q_b2 c_q_b3 c_q_c0 c_q_c1 c_q_c2 c_q_c3 c_q_d0 c_q_d1 c_q_d2 c_q_d3
  obtain ⟨q_s, q_n, O_s, S_n, O_n, q_o, P_a, q_a, O_b, q_b, P_c, q_c, O_d, q_d, hB⟩ := HQ.out
  clear HQ
  have P_x := LP.of hm
  have hst := hm.below
  obtain ⟨ab_x, cb_x, rfl, -, -, -, -⟩ := hm.store.v.1.1
  obtain ⟨au_x, cu_x, rfl, -, -, -, -⟩ := hm.store.v.1.2
  obtain ⟨ax_x, cx_x, rfl, -, -⟩ := hm.store.v.2.1.form rfl
  obtain ⟨ay_x, cy_x, rfl, -, -⟩ := hm.store.v.2.2.form rfl
  clear hm
  have sz_w13 : w12.heap.size ≤ w13.heap.size := hst.size
  replace q_s := q_s.step hst
  replace q_n := q_n.step hst
  replace O_s := O_s.step hst
  replace S_n := S_n.step hst
  replace O_n := O_n.step hst
  replace q_o := q_o.step hst
  replace P_a := P_a.step hst
  replace q_a := q_a.step hst
  replace O_b := O_b.step hst
  replace q_b := q_b.step hst
  replace P_c := P_c.step hst
  replace q_c := q_c.step hst
  replace O_d := O_d.step hst
  replace q_d := q_d.step hst
  replace hB := hB.step hst
  clear hst
  have HQ := Lib.hid (And.intro q_s (And.intro q_n (And.intro O_s (And.intro S_n (And.intro O_n (And.intro q_o (And.intro P_a (And.intro q_a (And.intro O_b (And.intro q_b (And.intro P_c (And.intro q_c (And.intro O_d (And.intro q_d (And.intro P_x hB)))))))))))))))
  clear q_s q_n O_s S_n O_n q_o P_a q_a O_b q_b P_c q_c O_d q_d P_x hB
  have c_q_s0 := LK.cell HQ.out.1 0
  have c_q_s1 := LK.cell HQ.out.1 1
  have c_q_s2 := LK.cell HQ.out.1 2
  have c_q_s3 := LK.cell HQ.out.1 3
  have c_q_n0 := LK.cell HQ.out.2.1 0
  have c_q_n1 := LK.cell HQ.out.2.1 1
  have c_q_o0 := LK.cell HQ.out.2.2.2.2.2.1 0
  have c_q_o1 := LK.cell HQ.out.2.2.2.2.2.1 1
  have c_q_o2 := LK.cell HQ.out.2.2.2.2.2.1 2
  have c_q_o3 := LK.cell HQ.out.2.2.2.2.2.1 3
  have c_q_a0 := LK.cell HQ.out.2.2.2.2.2.2.2.1 0
  have c_q_a1 := LK.cell HQ.out.2.2.2.2.2.2.2.1 1
  have c_q_a2 := LK.cell HQ.out.2.2.2.2.2.2.2.1 2
  have c_q_a3 := LK.cell HQ.out.2.2.2.2.2.2.2.1 3
  have c_q_b0 := LK.cell HQ.out.2.2.2.2.2.2.2.2.2.1 0
  have c_q_b1 := LK.cell HQ.out.2.2.2.2.2.2.2.2.2.1 1
  have c_q_b2 := LK.cell HQ.out.2.2.2.2.2.2.2.2.2.1 2
  have c_q_b3 := LK.cell HQ.out.2.2.2.2.2.2.2.2.2.1 3
  have c_q_c0 := LK.cell HQ.out.2.2.2.2.2.2.2.2.2.2.2.1 0
  have c_q_c1 := LK.cell HQ.out.2.2.2.2.2.2.2.2.2.2.2.1 1
  have c_q_c2 := LK.cell HQ.out.2.2.2.2.2.2.2.2.2.2.2.1 2
  have c_q_c3 := LK.cell HQ.out.2.2.2.2.2.2.2.2.2.2.2.1 3
  have c_q_d0 := LK.cell HQ.out.2.2.2.2.2.2.2.2.2.2.2.2.2.1 0
  have c_q_d1 := LK.cell HQ.out.2.2.2.2.2.2.2.2.2.2.2.2.2.1 1
  have c_q_d2 := LK.cell HQ.out.2.2.2.2.2.2.2.2.2.2.2.2.2.1 2
  have c_q_d3 := LK.cell HQ.out.2.2.2.2.2.2.2.2.2.2.2.2.2.1 3
  simp at c_q_s0 c_q_s1 c_q_s2 c_q_s3 c_q_n0 c_q_n1 c_q_o0 c_q_o1 c_q_o2 c_q_o3 c_q_a0 c_q_a1 c_q_a2 c_q_a3 c_q_b0 c_q_b1 c_q_b2 c_q_b3 c_q_c0 c_q_c1 c_q_c2 c_q_c3 c_q_d0 c_q_d1 c_q_d2 c_q_d3
  go_upto_region 9 with (fail)
  clear c_q_s0 c_q_s1 c_q_s2 c_q_s3 c_q_n0 c_q_n1 c_q_o0 c_q_o1 c_q_o2 c_q_o3 c_q_a0 c_q_a1 c_q_a2 c_q_a3 c_q_b0 c_q_b1 c_q_b2 c_q_b3 c_q_c0 c_q_c1 c_q_c2 c_q_c3 c_q_d0 c_q_d1 c_q_d2 c_q_d3
  obtain ⟨q_s, q_n, O_s, S_n, O_n, q_o, P_a, q_a, O_b, q_b, P_c, q_c, O_d, q_d, P_x, hB⟩ := HQ.out
  clear HQ
  have hst := (Below.refl w13.heap.size w13).alloc (Nat.le_refl _) (.cells #[.slice ab_x OS.disk.blocks.length cb_x, .slice au_x OS.disk.waits.length cu_x, .slice ax_x OS.now.length cx_x, .slice ay_x OS.last.length cy_x] 28)
  have hlt : w13.heap.size < (w13.alloc (.cells #[.slice ab_x OS.disk.blocks.length cb_x, .slice au_x OS.disk.waits.length cu_x, .slice ax_x OS.now.length cx_x, .slice ay_x OS.last.length cy_x] 28)).heap.size := by simp
  have q_x := LK.new w13 (.cells #[.slice ab_x OS.disk.blocks.length cb_x, .slice au_x OS.disk.waits.length cu_x, .slice ax_x OS.now.length cx_x, .slice ay_x OS.last.length cy_x] 28)
  replace q_s := q_s.step hst
  replace q_n := q_n.step hst
  replace O_s := O_s.step hst
  replace S_n := S_n.step hst
  replace O_n := O_n.step hst
  replace q_o := q_o.step hst
  replace P_a := P_a.step hst
  replace q_a := q_a.step hst
  replace O_b := O_b.step hst
  replace q_b := q_b.step hst
  replace P_c := P_c.step hst
  replace q_c := q_c.step hst
  replace O_d := O_d.step hst
  replace q_d := q_d.step hst
  replace P_x := P_x.step hst
  replace hB := hB.step hst
  obtain ⟨w14, hw⟩ : ∃ v, w13.alloc (.cells #[.slice ab_x OS.disk.blocks.length cb_x, .slice au_x OS.disk.waits.length cu_x, .slice ax_x OS.now.length cx_x, .slice ay_x OS.last.length cy_x] 28) = v := ⟨_, rfl⟩
  rw [hw] at hlt q_x q_s q_n O_s S_n O_n q_o P_a q_a O_b q_b P_c q_c O_d q_d P_x hB ⊢
  clear hw hst
  have sz_w14 := hlt
  clear hlt
  have HQ := Lib.hid (And.intro q_s (And.intro q_n (And.intro O_s (And.intro S_n (And.intro O_n (And.intro q_o (And.intro P_a (And.intro q_a (And.intro O_b (And.intro q_b (And.intro P_c (And.intro q_c (And.intro O_d (And.intro q_d (And.intro P_x (And.intro q_x hB))))))))))))))))
  clear q_s q_n O_s S_n O_n q_o P_a q_a O_b q_b P_c q_c O_d q_d P_x q_x hB
  have c_q_s0 := LK.cell HQ.out.1 0
  have c_q_s1 := LK.cell HQ.out.1 1
  have c_q_s2 := LK.cell HQ.out.1 2
  have c_q_s3 := LK.cell HQ.out.1 3
  have c_q_n0 := LK.cell HQ.out.2.1 0
  have c_q_n1 := LK.cell HQ.out.2.1 1
  have c_q_o0 := LK.cell HQ.out.2.2.2.2.2.1 0
  have c_q_o1 := LK.cell HQ.out.2.2.2.2.2.1 1
  have c_q_o2 := LK.cell HQ.out.2.2.2.2.2.1 2
  have c_q_o3 := LK.cell HQ.out.2.2.2.2.2.1 3
  have c_q_a0 := LK.cell HQ.out.2.2.2.2.2.2.2.1 0
  have c_q_a1 := LK.cell HQ.out.2.2.2.2.2.2.2.1 1
  have c_q_a2 := LK.cell HQ.out.2.2.2.2.2.2.2.1 2
  have c_q_a3 := LK.cell HQ.out.2.2.2.2.2.2.2.1 3
  have c_q_b0 := LK.cell HQ.out.2.2.2.2.2.2.2.2.2.1 0
  have c_q_b1 := LK.cell HQ.out.2.2.2.2.2.2.2.2.2.1 1
  have c_q_b2 := LK.cell HQ.out.2.2.2.2.2.2.2.2.2.1 2
  have c_q_b3 := LK.cell HQ.out.2.2.2.2.2.2.2.2.2.1 3
  have c_q_c0 := LK.cell HQ.out.2.2.2.2.2.2.2.2.2.2.2.1 0
  have c_q_c1 := LK.cell HQ.out.2.2.2.2.2.2.2.2.2.2.2.1 1
  have c_q_c2 := LK.cell HQ.out.2.2.2.2.2.2.2.2.2.2.2.1 2
  have c_q_c3 := LK.cell HQ.out.2.2.2.2.2.2.2.2.2.2.2.1 3
  have c_q_d0 := LK.cell HQ.out.2.2.2.2.2.2.2.2.2.2.2.2.2.1 0
  have c_q_d1 := LK.cell HQ.out.2.2.2.2.2.2.2.2.2.2.2.2.2.1 1
  have c_q_d2 := LK.cell HQ.out.2.2.2.2.2.2.2.2.2.2.2.2.2.1 2
  have c_q_d3 := LK.cell HQ.out.2.2.2.2.2.2.2.2.2.2.2.2.2.1 3
  have c_q_x0 := LK.cell HQ.out.2.2.2.2.2.2.2.2.2.2.2.2.2.2.2.1 0
  have c_q_x1 := LK.cell HQ.out.2.2.2.2.2.2.2.2.2.2.2.2.2.2.2.1 1
  have c_q_x2 := LK.cell HQ.out.2.2.2.2.2.2.2.2.2.2.2.2.2.2.2.1 2
  have c_q_x3 := LK.cell HQ.out.2.2.2.2.2.2.2.2.2.2.2.2.2.2.2.1 3
  simp at c_q_s0 c_q_s1 c_q_s2 c_q_s3 c_q_n0 c_q_n1 c_q_o0 c_q_o1 c_q_o2 c_q_o3 c_q_a0 c_q_a1 c_q_a2 c_q_a3 c_q_b0 c_q_b1 c_q_b2 c_q_b3 c_q_c0 c_q_c1 c_q_c2 c_q_c3 c_q_d0 c_q_d1 c_q_d2 c_q_d3 c_q_x0 c_q_x1 c_q_x2 c_q_x3
  go_wp2_with fail
  refine (HC.out.2.2.2.2.2.2.2.2.1 _ _ _ _ _ HQ.out.2.2.1.v).mono ?_
  rintro e w15 ⟨b7, u7, x7, y7, rfl, hm, hst⟩
  clear c_q_s0 c_q_s1 c_q_s2 c_q_s3 c_q_n0 c_q_n1 c_q_o0 c_q_o1 c_q_o2 c_q_o3 c_q_a0 c_q_a1 c_q_a2 c_q_a3 c_q_b0 c_q_b1 c_q_b2 c_q_b3 c_q_c0 c_q_c1 c_q_c2 c_q_c3 c_q_d0 c_q_d1 c_q_d2 c_q_d3 c_q_x0 c_q_x1 c_q_x2 c_q_x3
  obtain ⟨q_s, q_n, O_s, S_n, O_n, q_o, P_a, q_a, O_b, q_b, P_c, q_c, O_d, q_d, P_x, q_x, hB⟩ := HQ.out
  clear HQ
  have O_y := LO.of hm (Nat.le_refl _)
  obtain ⟨ab_y, cb_y, rfl, -, -, -, -⟩ := hm.1.1
  obtain ⟨au_y, cu_y, rfl, -, -, -, -⟩ := hm.1.2
  obtain ⟨ax_y, cx_y, rfl, -, -⟩ := hm.2.1.form rfl
  obtain ⟨ay_y, cy_y, rfl, -, -⟩ := hm.2.2.form rfl
  clear hm
  have sz_w15 : w14.heap.size ≤ w15.heap.size := hst.size
  replace q_s := q_s.step hst
  replace q_n := q_n.step hst
  replace O_s := O_s.step hst
  replace S_n := S_n.step hst
  replace O_n := O_n.step hst
  replace q_o := q_o.step hst
  replace P_a := P_a.step hst
  replace q_a := q_a.step hst
  replace O_b := O_b.step hst
  replace q_b := q_b.step hst
  replace P_c := P_c.step hst
  replace q_c := q_c.step hst
  replace O_d := O_d.step hst
  replace q_d := q_d.step hst
  replace P_x := P_x.step hst
  replace q_x := q_x.step hst
  replace hB := hB.step hst
  clear hst
  have HQ := Lib.hid (And.intro q_s (And.intro q_n (And.intro O_s (And.intro S_n (And.intro O_n (And.intro q_o (And.intro P_a (And.intro q_a (And.intro O_b (And.intro q_b (And.intro P_c (And.intro q_c (And.intro O_d (And.intro q_d (And.intro P_x (And.intro q_x (And.intro O_y hB)))))))))))))))))
  clear q_s q_n O_s S_n O_n q_o P_a q_a O_b q_b P_c q_c O_d q_d P_x q_x O_y hB
  have c_q_s0 := LK.cell HQ.out.1 0
  have c_q_s1 := LK.cell HQ.out.1 1
  have c_q_s2 := LK.cell HQ.out.1 2
  have c_q_s3 := LK.cell HQ.out.1 3
  have c_q_n0 := LK.cell HQ.out.2.1 0
  have c_q_n1 := LK.cell HQ.out.2.1 1
  have c_q_o0 := LK.cell HQ.out.2.2.2.2.2.1 0
  have c_q_o1 := LK.cell HQ.out.2.2.2.2.2.1 1
  have c_q_o2 := LK.cell HQ.out.2.2.2.2.2.1 2
  have c_q_o3 := LK.cell HQ.out.2.2.2.2.2.1 3
  have c_q_a0 := LK.cell HQ.out.2.2.2.2.2.2.2.1 0
  have c_q_a1 := LK.cell HQ.out.2.2.2.2.2.2.2.1 1
  have c_q_a2 := LK.cell HQ.out.2.2.2.2.2.2.2.1 2
  have c_q_a3 := LK.cell HQ.out.2.2.2.2.2.2.2.1 3
  have c_q_b0 := LK.cell HQ.out.2.2.2.2.2.2.2.2.2.1 0
  have c_q_b1 := LK.cell HQ.out.2.2.2.2.2.2.2.2.2.1 1
  have c_q_b2 := LK.cell HQ.out.2.2.2.2.2.2.2.2.2.1 2
  have c_q_b3 := LK.cell HQ.out.2.2.2.2.2.2.2.2.2.1 3
  have c_q_c0 := LK.cell HQ.out.2.2.2.2.2.2.2.2.2.2.2.1 0
  have c_q_c1 := LK.cell HQ.out.2.2.2.2.2.2.2.2.2.2.2.1 1
  have c_q_c2 := LK.cell HQ.out.2.2.2.2.2.2.2.2.2.2.2.1 2
  have c_q_c3 := LK.cell HQ.out.2.2.2.2.2.2.2.2.2.2.2.1 3
  have c_q_d0 := LK.cell HQ.out.2.2.2.2.2.2.2.2.2.2.2.2.2.1 0
  have c_q_d1 := LK.cell HQ.out.2.2.2.2.2.2.2.2.2.2.2.2.2.1 1
  have c_q_d2 := LK.cell HQ.out.2.2.2.2.2.2.2.2.2.2.2.2.2.1 2
  have c_q_d3 := LK.cell HQ.out.2.2.2.2.2.2.2.2.2.2.2.2.2.1 3
  have c_q_x0 := LK.cell HQ.out.2.2.2.2.2.2.2.2.2.2.2.2.2.2.2.1 0
  have c_q_x1 := LK.cell HQ.out.2.2.2.2.2.2.2.2.2.2.2.2.2.2.2.1 1
  have c_q_x2 := LK.cell HQ.out.2.2.2.2.2.2.2.2.2.2.2.2.2.2.2.1 2
  have c_q_x3 := LK.cell HQ.out.2.2.2.2.2.2.2.2.2.2.2.2.2.2.2.1 3
  simp at c_q_s0 c_q_s1 c_q_s2 c_q_s3 c_q_n0 c_q_n1 c_q_o0 c_q_o1 c_q_o2 c_q_o3 c_q_a0 c_q_a1 c_q_a2 c_q_a3 c_q_b0 c_q_b1 c_q_b2 c_q_b3 c_q_c0 c_q_c1 c_q_c2 c_q_c3 c_q_d0 c_q_d1 c_q_d2 c_q_d3 c_q_x0 c_q_x1 c_q_x2 c_q_x3
  go_upto_region 10 with (fail)
  clear c_q_s0 c_q_s1 c_q_s2 c_q_s3 c_q_n0 c_q_n1 c_q_o0 c_q_o1 c_q_o2 c_q_o3 c_q_a0 c_q_a1 c_q_a2 c_q_a3 c_q_b0 c_q_b1 c_q_b2 c_q_b3 c_q_c0 c_q_c1 c_q_c2 c_q_c3 c_q_d0 c_q_d1 c_q_d2 c_q_d3 c_q_x0 c_q_x1 c_q_x2 c_q_x3
  obtain ⟨q_s, q_n, O_s, S_n, O_n, q_o, P_a, q_a, O_b, q_b, P_c, q_c, O_d, q_d, P_x, q_x, O_y, hB⟩ := HQ.out
  clear HQ
  have hst := (Below.refl w15.heap.size w15).alloc (Nat.le_refl _) (.cells #[.slice ab_y OS.disk.blocks.length cb_y, .slice au_y OS.disk.waits.length cu_y, .slice ax_y OS.now.length cx_y, .slice ay_y OS.last.length cy_y] 28)
  have hlt : w15.heap.size < (w15.alloc (.cells #[.slice ab_y OS.disk.blocks.length cb_y, .slice au_y OS.disk.waits.length cu_y, .slice ax_y OS.now.length cx_y, .slice ay_y OS.last.length cy_y] 28)).heap.size := by simp
  have q_y := LK.new w15 (.cells #[.slice ab_y OS.disk.blocks.length cb_y, .slice au_y OS.disk.waits.length cu_y, .slice ax_y OS.now.length cx_y, .slice ay_y OS.last.length cy_y] 28)
  replace q_s := q_s.step hst
  replace q_n := q_n.step hst
  replace O_s := O_s.step hst
  replace S_n := S_n.step hst
  replace O_n := O_n.step hst
  replace q_o := q_o.step hst
  replace P_a := P_a.step hst
  replace q_a := q_a.step hst
  replace O_b := O_b.step hst
  replace q_b := q_b.step hst
  replace P_c := P_c.step hst
  replace q_c := q_c.step hst
  replace O_d := O_d.step hst
  replace q_d := q_d.step hst
  replace P_x := P_x.step hst
  replace q_x := q_x.step hst
  replace O_y := O_y.step hst
  replace hB := hB.step hst
  obtain ⟨w16, hw⟩ : ∃ v, w15.alloc (.cells #[.slice ab_y OS.disk.blocks.length cb_y, .slice au_y OS.disk.waits.length cu_y, .slice ax_y OS.now.length cx_y, .slice ay_y OS.last.length cy_y] 28) = v := ⟨_, rfl⟩
  rw [hw] at hlt q_y q_s q_n O_s S_n O_n q_o P_a q_a O_b q_b P_c q_c O_d q_d P_x q_x O_y hB ⊢
  clear hw hst
  have sz_w16 := hlt
  clear hlt
  have HQ := Lib.hid (And.intro q_s (And.intro q_n (And.intro O_s (And.intro S_n (And.intro O_n (And.intro q_o (And.intro P_a (And.intro q_a (And.intro O_b (And.intro q_b (And.intro P_c (And.intro q_c (And.intro O_d (And.intro q_d (And.intro P_x (And.intro q_x (And.intro O_y (And.intro q_y hB))))))))))))))))))
  clear q_s q_n O_s S_n O_n q_o P_a q_a O_b q_b P_c q_c O_d q_d P_x q_x O_y q_y hB
  have c_q_s0 := LK.cell HQ.out.1 0
  have c_q_s1 := LK.cell HQ.out.1 1
  have c_q_s2 := LK.cell HQ.out.1 2
  have c_q_s3 := LK.cell HQ.out.1 3
  have c_q_n0 := LK.cell HQ.out.2.1 0
  have c_q_n1 := LK.cell HQ.out.2.1 1
  have c_q_o0 := LK.cell HQ.out.2.2.2.2.2.1 0
  have c_q_o1 := LK.cell HQ.out.2.2.2.2.2.1 1
  have c_q_o2 := LK.cell HQ.out.2.2.2.2.2.1 2
  have c_q_o3 := LK.cell HQ.out.2.2.2.2.2.1 3
  have c_q_a0 := LK.cell HQ.out.2.2.2.2.2.2.2.1 0
  have c_q_a1 := LK.cell HQ.out.2.2.2.2.2.2.2.1 1
  have c_q_a2 := LK.cell HQ.out.2.2.2.2.2.2.2.1 2
  have c_q_a3 := LK.cell HQ.out.2.2.2.2.2.2.2.1 3
  have c_q_b0 := LK.cell HQ.out.2.2.2.2.2.2.2.2.2.1 0
  have c_q_b1 := LK.cell HQ.out.2.2.2.2.2.2.2.2.2.1 1
  have c_q_b2 := LK.cell HQ.out.2.2.2.2.2.2.2.2.2.1 2
  have c_q_b3 := LK.cell HQ.out.2.2.2.2.2.2.2.2.2.1 3
  have c_q_c0 := LK.cell HQ.out.2.2.2.2.2.2.2.2.2.2.2.1 0
  have c_q_c1 := LK.cell HQ.out.2.2.2.2.2.2.2.2.2.2.2.1 1
  have c_q_c2 := LK.cell HQ.out.2.2.2.2.2.2.2.2.2.2.2.1 2
  have c_q_c3 := LK.cell HQ.out.2.2.2.2.2.2.2.2.2.2.2.1 3
  have c_q_d0 := LK.cell HQ.out.2.2.2.2.2.2.2.2.2.2.2.2.2.1 0
  have c_q_d1 := LK.cell HQ.out.2.2.2.2.2.2.2.2.2.2.2.2.2.1 1
  have c_q_d2 := LK.cell HQ.out.2.2.2.2.2.2.2.2.2.2.2.2.2.1 2
  have c_q_d3 := LK.cell HQ.out.2.2.2.2.2.2.2.2.2.2.2.2.2.1 3
  have c_q_x0 := LK.cell HQ.out.2.2.2.2.2.2.2.2.2.2.2.2.2.2.2.1 0
  have c_q_x1 := LK.cell HQ.out.2.2.2.2.2.2.2.2.2.2.2.2.2.2.2.1 1
  have c_q_x2 := LK.cell HQ.out.2.2.2.2.2.2.2.2.2.2.2.2.2.2.2.1 2
  have c_q_x3 := LK.cell HQ.out.2.2.2.2.2.2.2.2.2.2.2.2.2.2.2.1 3
  have c_q_y0 := LK.cell HQ.out.2.2.2.2.2.2.2.2.2.2.2.2.2.2.2.2.2.1 0
  have c_q_y1 := LK.cell HQ.out.2.2.2.2.2.2.2.2.2.2.2.2.2.2.2.2.2.1 1
  have c_q_y2 := LK.cell HQ.out.2.2.2.2.2.2.2.2.2.2.2.2.2.2.2.2.2.1 2
  have c_q_y3 := LK.cell HQ.out.2.2.2.2.2.2.2.2.2.2.2.2.2.2.2.2.2.1 3
  simp at c_q_s0 c_q_s1 c_q_s2 c_q_s3 c_q_n0 c_q_n1 c_q_o0 c_q_o1 c_q_o2 c_q_o3 c_q_a0 c_q_a1 c_q_a2 c_q_a3 c_q_b0 c_q_b1 c_q_b2 c_q_b3 c_q_c0 c_q_c1 c_q_c2 c_q_c3 c_q_d0 c_q_d1 c_q_d2 c_q_d3 c_q_x0 c_q_x1 c_q_x2 c_q_x3 c_q_y0 c_q_y1 c_q_y2 c_q_y3
  go_wp2_with fail
  refine (HC.out.2.2.2.2.2.2.2.2.2 MS _ _ _ _ _ _ _ _ _ HQ.out.2.2.2.2.2.2.1.v HQ.out.2.2.2.2.2.2.2.2.1.v).mono ?_
  rintro e w17 ⟨rfl, hst⟩
  clear c_q_s0 c_q_s1 c_q_s2 c_q_s3 c_q_n0 c_q_n1 c_q_o0 c_q_o1 c_q_o2 c_q_o3 c_q_a0 c_q_a1 c_q_a2 c_q_a3 c_q_b0 c_q_b1 c_q_b2 c_q_b3 c_q_c0 c_q_c1 c_q_c2 c_q_c3 c_q_d0 c_q_d1 c_q_d2 c_q_d3 c_q_x0 c_q_x1 c_q_x2 c_q_x3 c_q_y0 c_q_y1 c_q_y2 c_q_y3
  obtain ⟨q_s, q_n, O_s, S_n, O_n, q_o, P_a, q_a, O_b, q_b, P_c, q_c, O_d, q_d, P_x, q_x, O_y, q_y, hB⟩ := HQ.out
  clear HQ
  clear O_b q_b
  have sz_w17 : w16.heap.size ≤ w17.heap.size := hst.size
  replace q_s := q_s.step hst
  replace q_n := q_n.step hst
  replace O_s := O_s.step hst
  replace S_n := S_n.step hst
  replace O_n := O_n.step hst
  replace q_o := q_o.step hst
  replace P_a := P_a.step hst
  replace q_a := q_a.step hst
  replace P_c := P_c.step hst
  replace q_c := q_c.step hst
  replace O_d := O_d.step hst
  replace q_d := q_d.step hst
  replace P_x := P_x.step hst
  replace q_x := q_x.step hst
  replace O_y := O_y.step hst
  replace q_y := q_y.step hst
  replace hB := hB.step hst
  clear hst
  have HQ := Lib.hid (And.intro q_s (And.intro q_n (And.intro O_s (And.intro S_n (And.intro O_n (And.intro q_o (And.intro P_a (And.intro q_a (And.intro P_c (And.intro q_c (And.intro O_d (And.intro q_d (And.intro P_x (And.intro q_x (And.intro O_y (And.intro q_y hB))))))))))))))))
  clear q_s q_n O_s S_n O_n q_o P_a q_a P_c q_c O_d q_d P_x q_x O_y q_y hB
  have c_q_s0 := LK.cell HQ.out.1 0
  have c_q_s1 := LK.cell HQ.out.1 1
  have c_q_s2 := LK.cell HQ.out.1 2
  have c_q_s3 := LK.cell HQ.out.1 3
  have c_q_n0 := LK.cell HQ.out.2.1 0
  have c_q_n1 := LK.cell HQ.out.2.1 1
  have c_q_o0 := LK.cell HQ.out.2.2.2.2.2.1 0
  have c_q_o1 := LK.cell HQ.out.2.2.2.2.2.1 1
  have c_q_o2 := LK.cell HQ.out.2.2.2.2.2.1 2
  have c_q_o3 := LK.cell HQ.out.2.2.2.2.2.1 3
  have c_q_a0 := LK.cell HQ.out.2.2.2.2.2.2.2.1 0
  have c_q_a1 := LK.cell HQ.out.2.2.2.2.2.2.2.1 1
  have c_q_a2 := LK.cell HQ.out.2.2.2.2.2.2.2.1 2
  have c_q_a3 := LK.cell HQ.out.2.2.2.2.2.2.2.1 3
  have c_q_c0 := LK.cell HQ.out.2.2.2.2.2.2.2.2.2.1 0
  have c_q_c1 := LK.cell HQ.out.2.2.2.2.2.2.2.2.2.1 1
  have c_q_c2 := LK.cell HQ.out.2.2.2.2.2.2.2.2.2.1 2
  have c_q_c3 := LK.cell HQ.out.2.2.2.2.2.2.2.2.2.1 3
  have c_q_d0 := LK.cell HQ.out.2.2.2.2.2.2.2.2.2.2.2.1 0
  have c_q_d1 := LK.cell HQ.out.2.2.2.2.2.2.2.2.2.2.2.1 1
  have c_q_d2 := LK.cell HQ.out.2.2.2.2.2.2.2.2.2.2.2.1 2
  have c_q_d3 := LK.cell HQ.out.2.2.2.2.2.2.2.2.2.2.2.1 3
  have c_q_x0 := LK.cell HQ.out.2.2.2.2.2.2.2.2.2.2.2.2.2.1 0
  have c_q_x1 := LK.cell HQ.out.2.2.2.2.2.2.2.2.2.2.2.2.2.1 1
  have c_q_x2 := LK.cell HQ.out.2.2.2.2.2.2.2.2.2.2.2.2.2.1 2
  have c_q_x3 := LK.cell HQ.out.2.2.2.2.2.2.2.2.2.2.2.2.2.1 3
  have c_q_y0 := LK.cell HQ.out.2.2.2.2.2.2.2.2.2.2.2.2.2.2.2.1 0
  have c_q_y1 := LK.cell HQ.out.2.2.2.2.2.2.2.2.2.2.2.2.2.2.2.1 1
  have c_q_y2 := LK.cell HQ.out.2.2.2.2.2.2.2.2.2.2.2.2.2.2.2.1 2
  have c_q_y3 := LK.cell HQ.out.2.2.2.2.2.2.2.2.2.2.2.2.2.2.2.1 3
  simp at c_q_s0 c_q_s1 c_q_s2 c_q_s3 c_q_n0 c_q_n1 c_q_o0 c_q_o1 c_q_o2 c_q_o3 c_q_a0 c_q_a1 c_q_a2 c_q_a3 c_q_c0 c_q_c1 c_q_c2 c_q_c3 c_q_d0 c_q_d1 c_q_d2 c_q_d3 c_q_x0 c_q_x1 c_q_x2 c_q_x3 c_q_y0 c_q_y1 c_q_y2 c_q_y3
  go_wp2_with fail
  refine (HC.out.2.2.2.2.2.2.2.2.2 LS_ _ _ _ _ _ _ _ _ _ HQ.out.2.2.2.2.2.2.2.2.1.v HQ.out.2.2.2.2.2.2.2.2.2.2.1.v).mono ?_
  rintro e w18 ⟨rfl, hst⟩
  clear c_q_s0 c_q_s1 c_q_s2 c_q_s3 c_q_n0 c_q_n1 c_q_o0 c_q_o1 c_q_o2 c_q_o3 c_q_a0 c_q_a1 c_q_a2 c_q_a3 c_q_c0 c_q_c1 c_q_c2 c_q_c3 c_q_d0 c_q_d1 c_q_d2 c_q_d3 c_q_x0 c_q_x1 c_q_x2 c_q_x3 c_q_y0 c_q_y1 c_q_y2 c_q_y3
  obtain ⟨q_s, q_n, O_s, S_n, O_n, q_o, P_a, q_a, P_c, q_c, O_d, q_d, P_x, q_x, O_y, q_y, hB⟩ := HQ.out
  clear HQ
  clear O_d q_d
  have sz_w18 : w17.heap.size ≤ w18.heap.size := hst.size
  replace q_s := q_s.step hst
  replace q_n := q_n.step hst
  replace O_s := O_s.step hst
  replace S_n := S_n.step hst
  replace O_n := O_n.step hst
  replace q_o := q_o.step hst
  replace P_a := P_a.step hst
  replace q_a := q_a.step hst
  replace P_c := P_c.step hst
  replace q_c := q_c.step hst
  replace P_x := P_x.step hst
  replace q_x := q_x.step hst
  replace O_y := O_y.step hst
  replace q_y := q_y.step hst
  replace hB := hB.step hst
  clear hst
  have HQ := Lib.hid (And.intro q_s (And.intro q_n (And.intro O_s (And.intro S_n (And.intro O_n (And.intro q_o (And.intro P_a (And.intro q_a (And.intro P_c (And.intro q_c (And.intro P_x (And.intro q_x (And.intro O_y (And.intro q_y hB))))))))))))))
  clear q_s q_n O_s S_n O_n q_o P_a q_a P_c q_c P_x q_x O_y q_y hB
  have c_q_s0 := LK.cell HQ.out.1 0
  have c_q_s1 := LK.cell HQ.out.1 1
  have c_q_s2 := LK.cell HQ.out.1 2
  have c_q_s3 := LK.cell HQ.out.1 3
  have c_q_n0 := LK.cell HQ.out.2.1 0
  have c_q_n1 := LK.cell HQ.out.2.1 1
  have c_q_o0 := LK.cell HQ.out.2.2.2.2.2.1 0
  have c_q_o1 := LK.cell HQ.out.2.2.2.2.2.1 1
  have c_q_o2 := LK.cell HQ.out.2.2.2.2.2.1 2
  have c_q_o3 := LK.cell HQ.out.2.2.2.2.2.1 3
  have c_q_a0 := LK.cell HQ.out.2.2.2.2.2.2.2.1 0
  have c_q_a1 := LK.cell HQ.out.2.2.2.2.2.2.2.1 1
  have c_q_a2 := LK.cell HQ.out.2.2.2.2.2.2.2.1 2
  have c_q_a3 := LK.cell HQ.out.2.2.2.2.2.2.2.1 3
  have c_q_c0 := LK.cell HQ.out.2.2.2.2.2.2.2.2.2.1 0
  have c_q_c1 := LK.cell HQ.out.2.2.2.2.2.2.2.2.2.1 1
  have c_q_c2 := LK.cell HQ.out.2.2.2.2.2.2.2.2.2.1 2
  have c_q_c3 := LK.cell HQ.out.2.2.2.2.2.2.2.2.2.1 3
  have c_q_x0 := LK.cell HQ.out.2.2.2.2.2.2.2.2.2.2.2.1 0
  have c_q_x1 := LK.cell HQ.out.2.2.2.2.2.2.2.2.2.2.2.1 1
  have c_q_x2 := LK.cell HQ.out.2.2.2.2.2.2.2.2.2.2.2.1 2
  have c_q_x3 := LK.cell HQ.out.2.2.2.2.2.2.2.2.2.2.2.1 3
  have c_q_y0 := LK.cell HQ.out.2.2.2.2.2.2.2.2.2.2.2.2.2.1 0
  have c_q_y1 := LK.cell HQ.out.2.2.2.2.2.2.2.2.2.2.2.2.2.1 1
  have c_q_y2 := LK.cell HQ.out.2.2.2.2.2.2.2.2.2.2.2.2.2.1 2
  have c_q_y3 := LK.cell HQ.out.2.2.2.2.2.2.2.2.2.2.2.2.2.1 3
  simp at c_q_s0 c_q_s1 c_q_s2 c_q_s3 c_q_n0 c_q_n1 c_q_o0 c_q_o1 c_q_o2 c_q_o3 c_q_a0 c_q_a1 c_q_a2 c_q_a3 c_q_c0 c_q_c1 c_q_c2 c_q_c3 c_q_x0 c_q_x1 c_q_x2 c_q_x3 c_q_y0 c_q_y1 c_q_y2 c_q_y3
  go_wp2_with fail
  refine (HC.out.2.2.2.2.2.2.2.2.2 OS _ _ _ _ _ _ _ _ _ HQ.out.2.2.2.2.2.2.2.2.2.2.1.v HQ.out.2.2.2.2.2.2.2.2.2.2.2.2.1.v).mono ?_
  rintro e w19 ⟨rfl, hst⟩
  clear c_q_s0 c_q_s1 c_q_s2 c_q_s3 c_q_n0 c_q_n1 c_q_o0 c_q_o1 c_q_o2 c_q_o3 c_q_a0 c_q_a1 c_q_a2 c_q_a3 c_q_c0 c_q_c1 c_q_c2 c_q_c3 c_q_x0 c_q_x1 c_q_x2 c_q_x3 c_q_y0 c_q_y1 c_q_y2 c_q_y3
  obtain ⟨q_s, q_n, O_s, S_n, O_n, q_o, P_a, q_a, P_c, q_c, P_x, q_x, O_y, q_y, hB⟩ := HQ.out
  clear HQ
  clear O_y q_y S_n q_n
  have sz_w19 : w18.heap.size ≤ w19.heap.size := hst.size
  replace q_s := q_s.step hst
  replace O_s := O_s.step hst
  replace O_n := O_n.step hst
  replace q_o := q_o.step hst
  replace P_a := P_a.step hst
  replace q_a := q_a.step hst
  replace P_c := P_c.step hst
  replace q_c := q_c.step hst
  replace P_x := P_x.step hst
  replace q_x := q_x.step hst
  replace hB := hB.step hst
  clear hst
  have HQ := Lib.hid (And.intro q_s (And.intro O_s (And.intro O_n (And.intro q_o (And.intro P_a (And.intro q_a (And.intro P_c (And.intro q_c (And.intro P_x (And.intro q_x hB))))))))))
  clear q_s O_s O_n q_o P_a q_a P_c q_c P_x q_x hB
  have c_q_s0 := LK.cell HQ.out.1 0
  have c_q_s1 := LK.cell HQ.out.1 1
  have c_q_s2 := LK.cell HQ.out.1 2
  have c_q_s3 := LK.cell HQ.out.1 3
  have c_q_o0 := LK.cell HQ.out.2.2.2.1 0
  have c_q_o1 := LK.cell HQ.out.2.2.2.1 1
  have c_q_o2 := LK.cell HQ.out.2.2.2.1 2
  have c_q_o3 := LK.cell HQ.out.2.2.2.1 3
  have c_q_a0 := LK.cell HQ.out.2.2.2.2.2.1 0
  have c_q_a1 := LK.cell HQ.out.2.2.2.2.2.1 1
  have c_q_a2 := LK.cell HQ.out.2.2.2.2.2.1 2
  have c_q_a3 := LK.cell HQ.out.2.2.2.2.2.1 3
  have c_q_c0 := LK.cell HQ.out.2.2.2.2.2.2.2.1 0
  have c_q_c1 := LK.cell HQ.out.2.2.2.2.2.2.2.1 1
  have c_q_c2 := LK.cell HQ.out.2.2.2.2.2.2.2.1 2
  have c_q_c3 := LK.cell HQ.out.2.2.2.2.2.2.2.1 3
  have c_q_x0 := LK.cell HQ.out.2.2.2.2.2.2.2.2.2.1 0
  have c_q_x1 := LK.cell HQ.out.2.2.2.2.2.2.2.2.2.1 1
  have c_q_x2 := LK.cell HQ.out.2.2.2.2.2.2.2.2.2.1 2
  have c_q_x3 := LK.cell HQ.out.2.2.2.2.2.2.2.2.2.1 3
  simp at c_q_s0 c_q_s1 c_q_s2 c_q_s3 c_q_o0 c_q_o1 c_q_o2 c_q_o3 c_q_a0 c_q_a1 c_q_a2 c_q_a3 c_q_c0 c_q_c1 c_q_c2 c_q_c3 c_q_x0 c_q_x1 c_q_x2 c_q_x3
  go_wp2_with fail
  refine (spoil9_any _ _ _ _ _ _ _ _ _ w4.heap.size w5.heap.size (by omega) (by omega) (HQ.out.2.2.2.2.1.su HR.out.1)).mono ?_
  rintro e wsa ⟨⟨ve, rfl⟩, hbel, hfr⟩
  have sz_wsa : w19.heap.size ≤ wsa.heap.size := hbel.size
  clear c_q_s0 c_q_s1 c_q_s2 c_q_s3 c_q_o0 c_q_o1 c_q_o2 c_q_o3 c_q_a0 c_q_a1 c_q_a2 c_q_a3 c_q_c0 c_q_c1 c_q_c2 c_q_c3 c_q_x0 c_q_x1 c_q_x2 c_q_x3
  obtain ⟨q_s, O_s, O_n, q_o, P_a, q_a, P_c, q_c, P_x, q_x, hB⟩ := HQ.out
  clear HQ
  clear P_a
  replace q_s := q_s.out hbel.size hfr (by omega)
  replace O_s := O_s.out hbel.size hfr (by omega)
  replace O_n := O_n.out hbel.size hfr (by omega)
  replace q_o := q_o.out hbel.size hfr (by omega)
  replace q_a := q_a.out hbel.size hfr (by omega)
  replace P_c := P_c.out hbel.size hfr (by omega)
  replace q_c := q_c.out hbel.size hfr (by omega)
  replace P_x := P_x.out hbel.size hfr (by omega)
  replace q_x := q_x.out hbel.size hfr (by omega)
  replace hB := hB.outB hbel (by omega)
  have HQ := Lib.hid (And.intro q_s (And.intro O_s (And.intro O_n (And.intro q_o (And.intro q_a (And.intro P_c (And.intro q_c (And.intro P_x (And.intro q_x hB)))))))))
  clear q_s O_s O_n q_o q_a P_c q_c P_x q_x hB
  clear hbel hfr
  have c_q_s0 := LK.cell HQ.out.1 0
  have c_q_s1 := LK.cell HQ.out.1 1
  have c_q_s2 := LK.cell HQ.out.1 2
  have c_q_s3 := LK.cell HQ.out.1 3
  have c_q_o0 := LK.cell HQ.out.2.2.2.1 0
  have c_q_o1 := LK.cell HQ.out.2.2.2.1 1
  have c_q_o2 := LK.cell HQ.out.2.2.2.1 2
  have c_q_o3 := LK.cell HQ.out.2.2.2.1 3
  have c_q_a0 := LK.cell HQ.out.2.2.2.2.1 0
  have c_q_a1 := LK.cell HQ.out.2.2.2.2.1 1
  have c_q_a2 := LK.cell HQ.out.2.2.2.2.1 2
  have c_q_a3 := LK.cell HQ.out.2.2.2.2.1 3
  have c_q_c0 := LK.cell HQ.out.2.2.2.2.2.2.1 0
  have c_q_c1 := LK.cell HQ.out.2.2.2.2.2.2.1 1
  have c_q_c2 := LK.cell HQ.out.2.2.2.2.2.2.1 2
  have c_q_c3 := LK.cell HQ.out.2.2.2.2.2.2.1 3
  have c_q_x0 := LK.cell HQ.out.2.2.2.2.2.2.2.2.1 0
  have c_q_x1 := LK.cell HQ.out.2.2.2.2.2.2.2.2.1 1
  have c_q_x2 := LK.cell HQ.out.2.2.2.2.2.2.2.2.1 2
  have c_q_x3 := LK.cell HQ.out.2.2.2.2.2.2.2.2.1 3
  simp at c_q_s0 c_q_s1 c_q_s2 c_q_s3 c_q_o0 c_q_o1 c_q_o2 c_q_o3 c_q_a0 c_q_a1 c_q_a2 c_q_a3 c_q_c0 c_q_c1 c_q_c2 c_q_c3 c_q_x0 c_q_x1 c_q_x2 c_q_x3
  go_wp2_with fail
  refine (spoil9_any _ _ _ _ _ _ _ _ _ w8.heap.size w9.heap.size (by omega) (by omega) (HQ.out.2.2.2.2.2.1.su HR.out.2.1)).mono ?_
  rintro e wsb ⟨⟨ve, rfl⟩, hbel, hfr⟩
  have sz_wsb : wsa.heap.size ≤ wsb.heap.size := hbel.size
  clear c_q_s0 c_q_s1 c_q_s2 c_q_s3 c_q_o0 c_q_o1 c_q_o2 c_q_o3 c_q_a0 c_q_a1 c_q_a2 c_q_a3 c_q_c0 c_q_c1 c_q_c2 c_q_c3 c_q_x0 c_q_x1 c_q_x2 c_q_x3
  obtain ⟨q_s, O_s, O_n, q_o, q_a, P_c, q_c, P_x, q_x, hB⟩ := HQ.out
  clear HQ
  clear P_c
  replace q_s := q_s.out hbel.size hfr (by omega)
  replace O_s := O_s.out hbel.size hfr (by omega)
  replace O_n := O_n.out hbel.size hfr (by omega)
  replace q_o := q_o.out hbel.size hfr (by omega)
  replace q_a := q_a.out hbel.size hfr (by omega)
  replace q_c := q_c.out hbel.size hfr (by omega)
  replace P_x := P_x.out hbel.size hfr (by omega)
  replace q_x := q_x.out hbel.size hfr (by omega)
  replace hB := hB.outB hbel (by omega)
  have HQ := Lib.hid (And.intro q_s (And.intro O_s (And.intro O_n (And.intro q_o (And.intro q_a (And.intro q_c (And.intro P_x (And.intro q_x hB))))))))
  clear q_s O_s O_n q_o q_a q_c P_x q_x hB
  clear hbel hfr
  have c_q_s0 := LK.cell HQ.out.1 0
  have c_q_s1 := LK.cell HQ.out.1 1
  have c_q_s2 := LK.cell HQ.out.1 2
  have c_q_s3 := LK.cell HQ.out.1 3
  have c_q_o0 := LK.cell HQ.out.2.2.2.1 0
  have c_q_o1 := LK.cell HQ.out.2.2.2.1 1
  have c_q_o2 := LK.cell HQ.out.2.2.2.1 2
  have c_q_o3 := LK.cell HQ.out.2.2.2.1 3
  have c_q_a0 := LK.cell HQ.out.2.2.2.2.1 0
  have c_q_a1 := LK.cell HQ.out.2.2.2.2.1 1
  have c_q_a2 := LK.cell HQ.out.2.2.2.2.1 2
  have c_q_a3 := LK.cell HQ.out.2.2.2.2.1 3
  have c_q_c0 := LK.cell HQ.out.2.2.2.2.2.1 0
  have c_q_c1 := LK.cell HQ.out.2.2.2.2.2.1 1
  have c_q_c2 := LK.cell HQ.out.2.2.2.2.2.1 2
  have c_q_c3 := LK.cell HQ.out.2.2.2.2.2.1 3
  have c_q_x0 := LK.cell HQ.out.2.2.2.2.2.2.2.1 0
  have c_q_x1 := LK.cell HQ.out.2.2.2.2.2.2.2.1 1
  have c_q_x2 := LK.cell HQ.out.2.2.2.2.2.2.2.1 2
  have c_q_x3 := LK.cell HQ.out.2.2.2.2.2.2.2.1 3
  simp at c_q_s0 c_q_s1 c_q_s2 c_q_s3 c_q_o0 c_q_o1 c_q_o2 c_q_o3 c_q_a0 c_q_a1 c_q_a2 c_q_a3 c_q_c0 c_q_c1 c_q_c2 c_q_c3 c_q_x0 c_q_x1 c_q_x2 c_q_x3
  go_wp2_with fail
  refine (spoil9_any _ _ _ _ _ _ _ _ _ w12.heap.size w13.heap.size (by omega) (by omega) (HQ.out.2.2.2.2.2.2.1.su HR.out.2.2)).mono ?_
  rintro e wsc ⟨⟨ve, rfl⟩, hbel, hfr⟩
  have sz_wsc : wsb.heap.size ≤ wsc.heap.size := hbel.size
  clear c_q_s0 c_q_s1 c_q_s2 c_q_s3 c_q_o0 c_q_o1 c_q_o2 c_q_o3 c_q_a0 c_q_a1 c_q_a2 c_q_a3 c_q_c0 c_q_c1 c_q_c2 c_q_c3 c_q_x0 c_q_x1 c_q_x2 c_q_x3
  obtain ⟨q_s, O_s, O_n, q_o, q_a, q_c, P_x, q_x, hB⟩ := HQ.out
  clear HQ
  clear P_x
  replace q_s := q_s.out hbel.size hfr (by omega)
  replace O_s := O_s.out hbel.size hfr (by omega)
  replace O_n := O_n.out hbel.size hfr (by omega)
  replace q_o := q_o.out hbel.size hfr (by omega)
  replace q_a := q_a.out hbel.size hfr (by omega)
  replace q_c := q_c.out hbel.size hfr (by omega)
  replace q_x := q_x.out hbel.size hfr (by omega)
  replace hB := hB.outB hbel (by omega)
  have HQ := Lib.hid (And.intro q_s (And.intro O_s (And.intro O_n (And.intro q_o (And.intro q_a (And.intro q_c (And.intro q_x hB)))))))
  clear q_s O_s O_n q_o q_a q_c q_x hB
  clear hbel hfr
  have c_q_s0 := LK.cell HQ.out.1 0
  have c_q_s1 := LK.cell HQ.out.1 1
  have c_q_s2 := LK.cell HQ.out.1 2
  have c_q_s3 := LK.cell HQ.out.1 3
  have c_q_o0 := LK.cell HQ.out.2.2.2.1 0
  have c_q_o1 := LK.cell HQ.out.2.2.2.1 1
  have c_q_o2 := LK.cell HQ.out.2.2.2.1 2
  have c_q_o3 := LK.cell HQ.out.2.2.2.1 3
  have c_q_a0 := LK.cell HQ.out.2.2.2.2.1 0
  have c_q_a1 := LK.cell HQ.out.2.2.2.2.1 1
  have c_q_a2 := LK.cell HQ.out.2.2.2.2.1 2
  have c_q_a3 := LK.cell HQ.out.2.2.2.2.1 3
  have c_q_c0 := LK.cell HQ.out.2.2.2.2.2.1 0
  have c_q_c1 := LK.cell HQ.out.2.2.2.2.2.1 1
  have c_q_c2 := LK.cell HQ.out.2.2.2.2.2.1 2
  have c_q_c3 := LK.cell HQ.out.2.2.2.2.2.1 3
  have c_q_x0 := LK.cell HQ.out.2.2.2.2.2.2.1 0
  have c_q_x1 := LK.cell HQ.out.2.2.2.2.2.2.1 1
  have c_q_x2 := LK.cell HQ.out.2.2.2.2.2.2.1 2
  have c_q_x3 := LK.cell HQ.out.2.2.2.2.2.2.1 3
  simp at c_q_s0 c_q_s1 c_q_s2 c_q_s3 c_q_o0 c_q_o1 c_q_o2 c_q_o3 c_q_a0 c_q_a1 c_q_a2 c_q_a3 c_q_c0 c_q_c1 c_q_c2 c_q_c3 c_q_x0 c_q_x1 c_q_x2 c_q_x3
  go_wp2_with fail
  refine (HC.out.2.2.2.2.2.2.2.2.2 s _ _ _ _ _ _ _ _ _ HQ.out.2.2.1.v HQ.out.2.1.v).mono ?_
  rintro e w20 ⟨rfl, hst⟩
  clear c_q_s0 c_q_s1 c_q_s2 c_q_s3 c_q_o0 c_q_o1 c_q_o2 c_q_o3 c_q_a0 c_q_a1 c_q_a2 c_q_a3 c_q_c0 c_q_c1 c_q_c2 c_q_c3 c_q_x0 c_q_x1 c_q_x2 c_q_x3
  obtain ⟨q_s, O_s, O_n, q_o, q_a, q_c, q_x, hB⟩ := HQ.out
  clear HQ
  have sz_w20 : wsc.heap.size ≤ w20.heap.size := hst.size
  replace q_s := q_s.step hst
  replace O_s := O_s.step hst
  replace O_n := O_n.step hst
  replace q_o := q_o.step hst
  replace q_a := q_a.step hst
  replace q_c := q_c.step hst
  replace q_x := q_x.step hst
  replace hB := hB.step hst
  clear hst
  have HQ := Lib.hid (And.intro q_s (And.intro O_s (And.intro O_n (And.intro q_o (And.intro q_a (And.intro q_c (And.intro q_x hB)))))))
  clear q_s O_s O_n q_o q_a q_c q_x hB
  have c_q_s0 := LK.cell HQ.out.1 0
  have c_q_s1 := LK.cell HQ.out.1 1
  have c_q_s2 := LK.cell HQ.out.1 2
  have c_q_s3 := LK.cell HQ.out.1 3
  have c_q_o0 := LK.cell HQ.out.2.2.2.1 0
  have c_q_o1 := LK.cell HQ.out.2.2.2.1 1
  have c_q_o2 := LK.cell HQ.out.2.2.2.1 2
  have c_q_o3 := LK.cell HQ.out.2.2.2.1 3
  have c_q_a0 := LK.cell HQ.out.2.2.2.2.1 0
  have c_q_a1 := LK.cell HQ.out.2.2.2.2.1 1
  have c_q_a2 := LK.cell HQ.out.2.2.2.2.1 2
  have c_q_a3 := LK.cell HQ.out.2.2.2.2.1 3
  have c_q_c0 := LK.cell HQ.out.2.2.2.2.2.1 0
  have c_q_c1 := LK.cell HQ.out.2.2.2.2.2.1 1
  have c_q_c2 := LK.cell HQ.out.2.2.2.2.2.1 2
  have c_q_c3 := LK.cell HQ.out.2.2.2.2.2.1 3
  have c_q_x0 := LK.cell HQ.out.2.2.2.2.2.2.1 0
  have c_q_x1 := LK.cell HQ.out.2.2.2.2.2.2.1 1
  have c_q_x2 := LK.cell HQ.out.2.2.2.2.2.2.1 2
  have c_q_x3 := LK.cell HQ.out.2.2.2.2.2.2.1 3
  simp at c_q_s0 c_q_s1 c_q_s2 c_q_s3 c_q_o0 c_q_o1 c_q_o2 c_q_o3 c_q_a0 c_q_a1 c_q_a2 c_q_a3 c_q_c0 c_q_c1 c_q_c2 c_q_c3 c_q_x0 c_q_x1 c_q_x2 c_q_x3
  go_wp2
  go_ret
  exact ⟨rfl, HQ.out.2.2.2.2.2.2.2⟩

end Go.Proofs.Ytkfgegdnpinbdaa

