/- RoomDoes: the words and contracts, part 19. -/
import Derived.Test.YtkfgegdnpinbdaaRoomDoesQ1
import Derived.Test.YtkfgegdnpinbdaaRoomDoesQ2
import Derived.Test.YtkfgegdnpinbdaaRoomDoesQ3
import Derived.Test.YtkfgegdnpinbdaaRoomDoesQ4
import Derived.Test.YtkfgegdnpinbdaaRoomDoesQ5
import Derived.Test.YtkfgegdnpinbdaaRoomDoesQ6
import Derived.Test.YtkfgegdnpinbdaaRoomDoesQ7
import Derived.Test.YtkfgegdnpinbdaaRoomDoesQ8
import Derived.Test.YtkfgegdnpinbdaaRoomDoesQ9
import Derived.Test.YtkfgegdnpinbdaaRoomDoesQ10
import Derived.Test.YtkfgegdnpinbdaaRoomDoesQ11
import Derived.Test.YtkfgegdnpinbdaaRoomDoesQ12
import Derived.Test.YtkfgegdnpinbdaaRoomDoesQ13
import Derived.Test.YtkfgegdnpinbdaaRoomDoesQ14
import Derived.Test.YtkfgegdnpinbdaaRoomDoesQ15
import Derived.Test.YtkfgegdnpinbdaaRoomDoesQ16
import Derived.Test.YtkfgegdnpinbdaaRoomDoesQ17
import Derived.Test.YtkfgegdnpinbdaaRoomDoesQ18
import Derived.WalkKit
import Derived.WalkLawsBesides
import Derived.WalkSpells
import Derived.Lib.Hide
import Derived.Laws.Rows
import Derived.Laws.AppendOwnNone
import Derived.Maps.AppendAt
import Derived.RangeFuncNested
import Derived.RangeFuncBound
import Derived.RangeFuncCalls
import Derived.RangeFuncLeaves
import Derived.RangeFuncBox
import Derived.Shelf.Abstract
import Derived.Shelf.RegionOpen
import Derived.OwnWalkIn
import Derived.TacticsInMore
import Derived.LoopNIn
import Derived.LoopIn
import Derived.ProofKit
import Derived.Deep.Slices
import Derived.WideShapes
import Derived.OrdersHeld
import Derived.Deep.QuietTactic
import Derived.BigQuiet
import Derived.StillTailTactics
import Derived.OpenShut
import Derived.Lib.SliceRun
import Derived.Lib.AppendZerosOnto
import Derived.Lib.Walk
import Derived.Deep.LoopGhost
import Derived.Laws.CopyOwn
import Derived.Deep.DeepCutAuto
import Derived.Laws.CopyRow
import Derived.Laws.MakeOwn
import Derived.Deep.RegionHeld
import Derived.KernelRfl
import Derived.BigFrameIn
import Derived.OrdersIn
import Derived.ShutString
import Derived.ChangeOld
import Derived.Below
namespace Go.Proofs.Ytkfgegdnpinbdaa
open Go.RowKit

set_option linter.unusedSimpArgs false
set_option maxRecDepth 100000 in
set_option maxHeartbeats 3000000 in
theorem roomDoes_walk (b_s u_s x_s y_s : Value) (s : StoreL) (b_o u_o x_o y_o : Value) (o : StoreL) (v_b : Value) (b : List UInt8) (p : Int) (w : World) (h_s : StoreV w 0 w.heap.size b_s u_s x_s y_s s) (h_o : StoreV w 0 w.heap.size b_o u_o x_o y_o o) (h_b : Bytes w 0 w.heap.size v_b b) :
    Calls Try.prog 3 #[.agg #[b_s, u_s, x_s, y_s], .agg #[b_o, u_o, x_o, y_o], v_b, .int .i64 p] w fun e w' => e = .returned (.bool true) ∧ Below w.heap.size w w' := by
  obtain ⟨ab_s, cb_s, rfl, gb_s, gc_s, -, -⟩ := h_s.1.1
  obtain ⟨au_s, cu_s, rfl, gu_s, gv_s, -, -⟩ := h_s.1.2
  obtain ⟨ax_s, cx_s, rfl, gx_s, gz_s⟩ := h_s.2.1.form rfl
  obtain ⟨ay_s, cy_s, rfl, gy_s, gw_s⟩ := h_s.2.2.form rfl
  unfold maxLen at gc_s gv_s gz_s gw_s
  obtain ⟨ab_o, cb_o, rfl, gb_o, gc_o, -, -⟩ := h_o.1.1
  obtain ⟨au_o, cu_o, rfl, gu_o, gv_o, -, -⟩ := h_o.1.2
  obtain ⟨ax_o, cx_o, rfl, gx_o, gz_o⟩ := h_o.2.1.form rfl
  obtain ⟨ay_o, cy_o, rfl, gy_o, gw_o⟩ := h_o.2.2.form rfl
  unfold maxLen at gc_o gv_o gz_o gw_o
  obtain ⟨a_b, c_b, rfl, g_b, gm_b⟩ := h_b.form rfl
  unfold maxLen at gm_b
  have hst := (((Below.refl w.heap.size w).alloc (Nat.le_refl _) (.cells #[.slice ab_s s.disk.blocks.length cb_s, .slice au_s s.disk.waits.length cu_s, .slice ax_s s.now.length cx_s, .slice ay_s s.last.length cy_s] 28)).alloc (by simp) (.cells #[.slice ab_o o.disk.blocks.length cb_o, .slice au_o o.disk.waits.length cu_o, .slice ax_o o.now.length cx_o, .slice ay_o o.last.length cy_o] 28))
  have hq := two_new w (.cells #[.slice ab_s s.disk.blocks.length cb_s, .slice au_s s.disk.waits.length cu_s, .slice ax_s s.now.length cx_s, .slice ay_s s.last.length cy_s] 28) (.cells #[.slice ab_o o.disk.blocks.length cb_o, .slice au_o o.disk.waits.length cu_o, .slice ax_o o.now.length cx_o, .slice ay_o o.last.length cy_o] 28)
  have q_s := LK.of hq.1
  have q_o := LK.of hq.2
  have hB : LW w _ := hst
  have O_s := (LO.of h_s (Nat.le_refl _)).step hst
  have O_o := (LO.of h_o (Nat.le_refl _)).step hst
  have B_b := (LB.of h_b (Nat.le_refl _)).step hst
  have sz_V : w.heap.size + 1 < ((w.alloc (.cells #[.slice ab_s s.disk.blocks.length cb_s, .slice au_s s.disk.waits.length cu_s, .slice ax_s s.now.length cx_s, .slice ay_s s.last.length cy_s] 28)).alloc (.cells #[.slice ab_o o.disk.blocks.length cb_o, .slice au_o o.disk.waits.length cu_o, .slice ax_o o.now.length cx_o, .slice ay_o o.last.length cy_o] 28)).heap.size := by simp
  obtain ⟨V, hV⟩ : ∃ V, ((w.alloc (.cells #[.slice ab_s s.disk.blocks.length cb_s, .slice au_s s.disk.waits.length cu_s, .slice ax_s s.now.length cx_s, .slice ay_s s.last.length cy_s] 28)).alloc (.cells #[.slice ab_o o.disk.blocks.length cb_o, .slice au_o o.disk.waits.length cu_o, .slice ax_o o.now.length cx_o, .slice ay_o o.last.length cy_o] 28)) = V := ⟨_, rfl⟩
  rw [hV] at sz_V q_s q_o O_s O_o B_b hB
  clear hst h_s h_o h_b hq
  have HQ := Lib.hid (And.intro q_s (And.intro q_o (And.intro O_s (And.intro O_o (And.intro B_b hB)))))
  clear q_s q_o O_s O_o B_b hB
  have c_q_s0 := LK.cell HQ.out.1 0
  have c_q_s1 := LK.cell HQ.out.1 1
  have c_q_s2 := LK.cell HQ.out.1 2
  have c_q_s3 := LK.cell HQ.out.1 3
  have c_q_o0 := LK.cell HQ.out.2.1 0
  have c_q_o1 := LK.cell HQ.out.2.1 1
  have c_q_o2 := LK.cell HQ.out.2.1 2
  have c_q_o3 := LK.cell HQ.out.2.1 3
  simp at c_q_s0 c_q_s1 c_q_s2 c_q_s3 c_q_o0 c_q_o1 c_q_o2 c_q_o3
  have k_g := fun V b u x y hh => great8_any b u x y s V hh
  have k_h := fun V b u x y hh => great8_any b u x y o V hh
  have k_tw := fun V b u x y hh hf => rstwin_any b u x y s V hh hf
  have k_f1 := fun V b u x y hh => sfree_any b u x y s V hh
  have k_f2 := fun V b u x y hh => rsfree_any b u x y s V hh
  have k_t1 := fun V b1 u x y v h1 h2 => stake_any b1 u x y s v b V h1 h2
  have k_t1 := fun V b1 u x y v h1 h2 => stake_any b1 u x y s v b V h1 h2
  have k_t2 := fun V b1 u x y v h1 h2 => rstake_any b1 u x y s v b V h1 h2
  have k_a1 := fun V b1 u x y h1 => sshare_any b1 u x y s p V h1
  have k_a2 := fun V b1 u x y h1 => rsshare_any b1 u x y s p V h1
  have k_n1 := fun V b1 u x y h1 => snode_any b1 u x y s p V h1
  have k_n2 := fun V b1 u x y h1 => rsnode_any b1 u x y s p V h1
  have k_m := fun V v u hv hu => rnums_any v u (freeL s) (freeL s) V hv hu
  have k_s := fun (t : StoreL) V b1 u1 x1 y1 b2 u2 x2 y2 h1 h2 => rssame_any b1 u1 x1 y1 t b2 u2 x2 y2 t V h1 h2
  have k_x := fun V v u h1 h2 => rnsame_any (nodeS s p) (nodeS s p) v u V h1 h2
  have k_c1 := fun V b u x y hh => scheck_any b u x y s V hh
  have k_c2 := fun V b u x y hh => rscheck_any b u x y s V hh
  have k_e1 := fun V b1 u1 x1 y1 b2 u2 x2 y2 h1 h2 => ssame_any b1 u1 x1 y1 s b2 u2 x2 y2 o V h1 h2
  have k_e2 := fun V b1 u1 x1 y1 b2 u2 x2 y2 h1 h2 => rssame_any b1 u1 x1 y1 s b2 u2 x2 y2 o V h1 h2
  have k_1 := fun V => snew_any V
  have k_2 := fun V => rsnew_any V
  have k_t := fun V b u x y hh hf => stwin_any b u x y s V hh hf
  simp only [decide_true] at k_m k_s k_x
  generalize freeL s = FL at *
  generalize errS s = es at *
  generalize takeS s b = TS at *
  generalize atTk s b = ta at *
  generalize errTk s b = te at *
  generalize shareS s p = SS at *
  generalize errSh s p = se at *
  generalize nodeS s p = N at *
  generalize errSn s p = ne at *
  generalize decide (s = o) = eq at *
  generalize newS = Z at *
  have HC := Lib.hid (And.intro k_g (And.intro k_h (And.intro k_tw (And.intro k_f1 (And.intro k_f2 (And.intro k_t1 (And.intro k_t2 (And.intro k_a1 (And.intro k_a2 (And.intro k_n1 (And.intro k_n2 (And.intro k_m (And.intro k_s (And.intro k_x (And.intro k_c1 (And.intro k_c2 (And.intro k_e1 (And.intro k_e2 (And.intro k_1 (And.intro k_2 k_t))))))))))))))))))))
  clear k_g k_h k_tw k_f1 k_f2 k_t1 k_t2 k_a1 k_a2 k_n1 k_n2 k_m k_s k_x k_c1 k_c2 k_e1 k_e2 k_1 k_2 k_t
  go_enter Try.func3, Try.ntmps3
  go_upto_region 1 with (fail)
  clear hV
  go_wp2_with fail
  refine (HC.out.1 _ _ _ _ _ HQ.out.2.2.1.v).mono ?_
  rintro e w1 ⟨g, rfl, hst, hg1⟩
  clear c_q_s0 c_q_s1 c_q_s2 c_q_s3 c_q_o0 c_q_o1 c_q_o2 c_q_o3
  obtain ⟨q_s, q_o, O_s, O_o, B_b, hB⟩ := HQ.out
  clear HQ
  have sz_w1 : V.heap.size ≤ w1.heap.size := hst.size
  replace q_s := q_s.step hst
  replace q_o := q_o.step hst
  replace O_s := O_s.step hst
  replace O_o := O_o.step hst
  replace B_b := B_b.step hst
  replace hB := hB.step hst
  clear hst
  have HQ := Lib.hid (And.intro q_s (And.intro q_o (And.intro O_s (And.intro O_o (And.intro B_b hB)))))
  clear q_s q_o O_s O_o B_b hB
  have c_q_s0 := LK.cell HQ.out.1 0
  have c_q_s1 := LK.cell HQ.out.1 1
  have c_q_s2 := LK.cell HQ.out.1 2
  have c_q_s3 := LK.cell HQ.out.1 3
  have c_q_o0 := LK.cell HQ.out.2.1 0
  have c_q_o1 := LK.cell HQ.out.2.1 1
  have c_q_o2 := LK.cell HQ.out.2.1 2
  have c_q_o3 := LK.cell HQ.out.2.1 3
  simp at c_q_s0 c_q_s1 c_q_s2 c_q_s3 c_q_o0 c_q_o1 c_q_o2 c_q_o3
  cases g
  case true =>
    go_wp2
    go_ret
    exact ⟨rfl, HQ.out.2.2.2.2.2⟩
  have HSM := Lib.hid (hg1 rfl)
  clear hg1
  go_wp2_with fail
  refine (HC.out.2.1 _ _ _ _ _ HQ.out.2.2.2.1.v).mono ?_
  rintro e w2 ⟨g, rfl, hst, hg2⟩
  clear c_q_s0 c_q_s1 c_q_s2 c_q_s3 c_q_o0 c_q_o1 c_q_o2 c_q_o3
  obtain ⟨q_s, q_o, O_s, O_o, B_b, hB⟩ := HQ.out
  clear HQ
  have sz_w2 : w1.heap.size ≤ w2.heap.size := hst.size
  replace q_s := q_s.step hst
  replace q_o := q_o.step hst
  replace O_s := O_s.step hst
  replace O_o := O_o.step hst
  replace B_b := B_b.step hst
  replace hB := hB.step hst
  clear hst
  have HQ := Lib.hid (And.intro q_s (And.intro q_o (And.intro O_s (And.intro O_o (And.intro B_b hB)))))
  clear q_s q_o O_s O_o B_b hB
  have c_q_s0 := LK.cell HQ.out.1 0
  have c_q_s1 := LK.cell HQ.out.1 1
  have c_q_s2 := LK.cell HQ.out.1 2
  have c_q_s3 := LK.cell HQ.out.1 3
  have c_q_o0 := LK.cell HQ.out.2.1 0
  have c_q_o1 := LK.cell HQ.out.2.1 1
  have c_q_o2 := LK.cell HQ.out.2.1 2
  have c_q_o3 := LK.cell HQ.out.2.1 3
  simp at c_q_s0 c_q_s1 c_q_s2 c_q_s3 c_q_o0 c_q_o1 c_q_o2 c_q_o3
  cases g
  case true =>
    go_wp2
    go_ret
    exact ⟨rfl, HQ.out.2.2.2.2.2⟩
  clear hg2
  by_cases hl : 10000 < b.length
  · have i1 : (10000 : Int) < b.length := by omega
    go_wp2
    go_ret
    exact ⟨rfl, HQ.out.2.2.2.2.2⟩
  have i1 : ¬ (10000 : Int) < b.length := by omega
  go_wp2_with fail
  refine (HC.out.2.2.1 _ _ _ _ _ HQ.out.2.2.1.v HSM.out.few).mono ?_
  rintro e w3 ⟨b1, u1, x1, y1, rfl, hm, hst⟩
  clear c_q_s0 c_q_s1 c_q_s2 c_q_s3 c_q_o0 c_q_o1 c_q_o2 c_q_o3
  obtain ⟨q_s, q_o, O_s, O_o, B_b, hB⟩ := HQ.out
  clear HQ
  have O_n := LO.of hm (Nat.le_refl _)
  obtain ⟨ab_n, cb_n, rfl, -, -, -, -⟩ := hm.1.1
  obtain ⟨au_n, cu_n, rfl, -, -, -, -⟩ := hm.1.2
  obtain ⟨ax_n, cx_n, rfl, -, -⟩ := hm.2.1.form rfl
  obtain ⟨ay_n, cy_n, rfl, -, -⟩ := hm.2.2.form rfl
  clear hm i1 hl
  have sz_w3 : w2.heap.size ≤ w3.heap.size := hst.size
  replace q_s := q_s.step hst
  replace q_o := q_o.step hst
  replace O_s := O_s.step hst
  replace O_o := O_o.step hst
  replace B_b := B_b.step hst
  replace hB := hB.step hst
  clear hst
  have HQ := Lib.hid (And.intro q_s (And.intro q_o (And.intro O_s (And.intro O_o (And.intro B_b (And.intro O_n hB))))))
  clear q_s q_o O_s O_o B_b O_n hB
  have c_q_s0 := LK.cell HQ.out.1 0
  have c_q_s1 := LK.cell HQ.out.1 1
  have c_q_s2 := LK.cell HQ.out.1 2
  have c_q_s3 := LK.cell HQ.out.1 3
  have c_q_o0 := LK.cell HQ.out.2.1 0
  have c_q_o1 := LK.cell HQ.out.2.1 1
  have c_q_o2 := LK.cell HQ.out.2.1 2
  have c_q_o3 := LK.cell HQ.out.2.1 3
  simp at c_q_s0 c_q_s1 c_q_s2 c_q_s3 c_q_o0 c_q_o1 c_q_o2 c_q_o3
  go_upto_region 4 with (fail)
  clear c_q_s0 c_q_s1 c_q_s2 c_q_s3 c_q_o0 c_q_o1 c_q_o2 c_q_o3
  obtain ⟨q_s, q_o, O_s, O_o, B_b, O_n, hB⟩ := HQ.out
  clear HQ
  have hst := (Below.refl w3.heap.size w3).alloc (Nat.le_refl _) (.cells #[.slice ab_n s.disk.blocks.length cb_n, .slice au_n s.disk.waits.length cu_n, .slice ax_n s.now.length cx_n, .slice ay_n s.last.length cy_n] 28)
  have hlt : w3.heap.size < (w3.alloc (.cells #[.slice ab_n s.disk.blocks.length cb_n, .slice au_n s.disk.waits.length cu_n, .slice ax_n s.now.length cx_n, .slice ay_n s.last.length cy_n] 28)).heap.size := by simp
  have q_n := LK.new w3 (.cells #[.slice ab_n s.disk.blocks.length cb_n, .slice au_n s.disk.waits.length cu_n, .slice ax_n s.now.length cx_n, .slice ay_n s.last.length cy_n] 28)
  replace q_s := q_s.step hst
  replace q_o := q_o.step hst
  replace O_s := O_s.step hst
  replace O_o := O_o.step hst
  replace B_b := B_b.step hst
  replace O_n := O_n.step hst
  replace hB := hB.step hst
  obtain ⟨w4, hw⟩ : ∃ v, w3.alloc (.cells #[.slice ab_n s.disk.blocks.length cb_n, .slice au_n s.disk.waits.length cu_n, .slice ax_n s.now.length cx_n, .slice ay_n s.last.length cy_n] 28) = v := ⟨_, rfl⟩
  rw [hw] at hlt q_n q_s q_o O_s O_o B_b O_n hB ⊢
  clear hw hst
  have sz_w4 := hlt
  clear hlt
  have HQ := Lib.hid (And.intro q_s (And.intro q_o (And.intro O_s (And.intro O_o (And.intro B_b (And.intro O_n (And.intro q_n hB)))))))
  clear q_s q_o O_s O_o B_b O_n q_n hB
  have c_q_s0 := LK.cell HQ.out.1 0
  have c_q_s1 := LK.cell HQ.out.1 1
  have c_q_s2 := LK.cell HQ.out.1 2
  have c_q_s3 := LK.cell HQ.out.1 3
  have c_q_o0 := LK.cell HQ.out.2.1 0
  have c_q_o1 := LK.cell HQ.out.2.1 1
  have c_q_o2 := LK.cell HQ.out.2.1 2
  have c_q_o3 := LK.cell HQ.out.2.1 3
  have c_q_n0 := LK.cell HQ.out.2.2.2.2.2.2.1 0
  have c_q_n1 := LK.cell HQ.out.2.2.2.2.2.2.1 1
  have c_q_n2 := LK.cell HQ.out.2.2.2.2.2.2.1 2
  have c_q_n3 := LK.cell HQ.out.2.2.2.2.2.2.1 3
  simp at c_q_s0 c_q_s1 c_q_s2 c_q_s3 c_q_o0 c_q_o1 c_q_o2 c_q_o3 c_q_n0 c_q_n1 c_q_n2 c_q_n3
  go_wp2_with fail
  refine (HC.out.2.2.2.1 _ _ _ _ _ HQ.out.2.2.2.2.2.1.v).mono ?_
  rintro e w5 ⟨v_l, rfl, hS, hst⟩
  clear c_q_s0 c_q_s1 c_q_s2 c_q_s3 c_q_o0 c_q_o1 c_q_o2 c_q_o3 c_q_n0 c_q_n1 c_q_n2 c_q_n3
  obtain ⟨q_s, q_o, O_s, O_o, B_b, O_n, q_n, hB⟩ := HQ.out
  clear HQ
  have S_l := LS.of hS (Nat.le_refl _)
  obtain ⟨a_l, c_l, rfl, -, -, -, -⟩ := id hS
  clear hS
  have sz_w5 : w4.heap.size ≤ w5.heap.size := hst.size
  replace q_s := q_s.step hst
  replace q_o := q_o.step hst
  replace O_s := O_s.step hst
  replace O_o := O_o.step hst
  replace B_b := B_b.step hst
  replace O_n := O_n.step hst
  replace q_n := q_n.step hst
  replace hB := hB.step hst
  clear hst
  have HQ := Lib.hid (And.intro q_s (And.intro q_o (And.intro O_s (And.intro O_o (And.intro B_b (And.intro O_n (And.intro q_n (And.intro S_l hB))))))))
  clear q_s q_o O_s O_o B_b O_n q_n S_l hB
  have c_q_s0 := LK.cell HQ.out.1 0
  have c_q_s1 := LK.cell HQ.out.1 1
  have c_q_s2 := LK.cell HQ.out.1 2
  have c_q_s3 := LK.cell HQ.out.1 3
  have c_q_o0 := LK.cell HQ.out.2.1 0
  have c_q_o1 := LK.cell HQ.out.2.1 1
  have c_q_o2 := LK.cell HQ.out.2.1 2
  have c_q_o3 := LK.cell HQ.out.2.1 3
  have c_q_n0 := LK.cell HQ.out.2.2.2.2.2.2.1 0
  have c_q_n1 := LK.cell HQ.out.2.2.2.2.2.2.1 1
  have c_q_n2 := LK.cell HQ.out.2.2.2.2.2.2.1 2
  have c_q_n3 := LK.cell HQ.out.2.2.2.2.2.2.1 3
  simp at c_q_s0 c_q_s1 c_q_s2 c_q_s3 c_q_o0 c_q_o1 c_q_o2 c_q_o3 c_q_n0 c_q_n1 c_q_n2 c_q_n3
  go_wp2_with fail
  refine (HC.out.2.2.2.2.1 _ _ _ _ _ HQ.out.2.2.1.v).mono ?_
  rintro e w6 ⟨v_m, rfl, hS, hst⟩
  clear c_q_s0 c_q_s1 c_q_s2 c_q_s3 c_q_o0 c_q_o1 c_q_o2 c_q_o3 c_q_n0 c_q_n1 c_q_n2 c_q_n3
  obtain ⟨q_s, q_o, O_s, O_o, B_b, O_n, q_n, S_l, hB⟩ := HQ.out
  clear HQ
  have S_m := LS.of hS (Nat.le_refl _)
  obtain ⟨a_m, c_m, rfl, -, -, -, -⟩ := id hS
  clear hS
  have sz_w6 : w5.heap.size ≤ w6.heap.size := hst.size
  replace q_s := q_s.step hst
  replace q_o := q_o.step hst
  replace O_s := O_s.step hst
  replace O_o := O_o.step hst
  replace B_b := B_b.step hst
  replace O_n := O_n.step hst
  replace q_n := q_n.step hst
  replace S_l := S_l.step hst
  replace hB := hB.step hst
  clear hst
  have HQ := Lib.hid (And.intro q_s (And.intro q_o (And.intro O_s (And.intro O_o (And.intro B_b (And.intro O_n (And.intro q_n (And.intro S_l (And.intro S_m hB)))))))))
  clear q_s q_o O_s O_o B_b O_n q_n S_l S_m hB
  have c_q_s0 := LK.cell HQ.out.1 0
  have c_q_s1 := LK.cell HQ.out.1 1
  have c_q_s2 := LK.cell HQ.out.1 2
  have c_q_s3 := LK.cell HQ.out.1 3
  have c_q_o0 := LK.cell HQ.out.2.1 0
  have c_q_o1 := LK.cell HQ.out.2.1 1
  have c_q_o2 := LK.cell HQ.out.2.1 2
  have c_q_o3 := LK.cell HQ.out.2.1 3
  have c_q_n0 := LK.cell HQ.out.2.2.2.2.2.2.1 0
  have c_q_n1 := LK.cell HQ.out.2.2.2.2.2.2.1 1
  have c_q_n2 := LK.cell HQ.out.2.2.2.2.2.2.1 2
  have c_q_n3 := LK.cell HQ.out.2.2.2.2.2.2.1 3
  simp at c_q_s0 c_q_s1 c_q_s2 c_q_s3 c_q_o0 c_q_o1 c_q_o2 c_q_o3 c_q_n0 c_q_n1 c_q_n2 c_q_n3
  go_wp2_with fail
  refine (HC.out.2.2.2.2.2.1 _ _ _ _ _ _ HQ.out.2.2.2.2.2.1.v HQ.out.2.2.2.2.1.v).mono ?_
  rintro e w7 ⟨b2, u2, x2, y2, rfl, hm⟩
  clear c_q_s0 c_q_s1 c_q_s2 c_q_s3 c_q_o0 c_q_o1 c_q_o2 c_q_o3 c_q_n0 c_q_n1 c_q_n2 c_q_n3
  obtain ⟨q_s, q_o, O_s, O_o, B_b, O_n, q_n, S_l, S_m, hB⟩ := HQ.out
  clear HQ
  have P_t := LP.of hm
  have hst := hm.below
  obtain ⟨ab_t, cb_t, rfl, -, -, -, -⟩ := hm.store.v.1.1
  obtain ⟨au_t, cu_t, rfl, -, -, -, -⟩ := hm.store.v.1.2
  obtain ⟨ax_t, cx_t, rfl, -, -⟩ := hm.store.v.2.1.form rfl
  obtain ⟨ay_t, cy_t, rfl, -, -⟩ := hm.store.v.2.2.form rfl
  clear hm
  have sz_w7 : w6.heap.size ≤ w7.heap.size := hst.size
  replace q_s := q_s.step hst
  replace q_o := q_o.step hst
  replace O_s := O_s.step hst
  replace O_o := O_o.step hst
  replace B_b := B_b.step hst
  replace O_n := O_n.step hst
  replace q_n := q_n.step hst
  replace S_l := S_l.step hst
  replace S_m := S_m.step hst
  replace hB := hB.step hst
  clear hst
  have HQ := Lib.hid (And.intro q_s (And.intro q_o (And.intro O_s (And.intro O_o (And.intro B_b (And.intro O_n (And.intro q_n (And.intro S_l (And.intro S_m (And.intro P_t hB))))))))))
  clear q_s q_o O_s O_o B_b O_n q_n S_l S_m P_t hB
  have c_q_s0 := LK.cell HQ.out.1 0
  have c_q_s1 := LK.cell HQ.out.1 1
  have c_q_s2 := LK.cell HQ.out.1 2
  have c_q_s3 := LK.cell HQ.out.1 3
  have c_q_o0 := LK.cell HQ.out.2.1 0
  have c_q_o1 := LK.cell HQ.out.2.1 1
  have c_q_o2 := LK.cell HQ.out.2.1 2
  have c_q_o3 := LK.cell HQ.out.2.1 3
  have c_q_n0 := LK.cell HQ.out.2.2.2.2.2.2.1 0
  have c_q_n1 := LK.cell HQ.out.2.2.2.2.2.2.1 1
  have c_q_n2 := LK.cell HQ.out.2.2.2.2.2.2.1 2
  have c_q_n3 := LK.cell HQ.out.2.2.2.2.2.2.1 3
  simp at c_q_s0 c_q_s1 c_q_s2 c_q_s3 c_q_o0 c_q_o1 c_q_o2 c_q_o3 c_q_n0 c_q_n1 c_q_n2 c_q_n3
  go_upto_region 7 with (fail)
  clear c_q_s0 c_q_s1 c_q_s2 c_q_s3 c_q_o0 c_q_o1 c_q_o2 c_q_o3 c_q_n0 c_q_n1 c_q_n2 c_q_n3
  obtain ⟨q_s, q_o, O_s, O_o, B_b, O_n, q_n, S_l, S_m, P_t, hB⟩ := HQ.out
  clear HQ
  have hst := (Below.refl w7.heap.size w7).alloc (Nat.le_refl _) (.cells #[.slice ab_t TS.disk.blocks.length cb_t, .slice au_t TS.disk.waits.length cu_t, .slice ax_t TS.now.length cx_t, .slice ay_t TS.last.length cy_t] 28)
  have hlt : w7.heap.size < (w7.alloc (.cells #[.slice ab_t TS.disk.blocks.length cb_t, .slice au_t TS.disk.waits.length cu_t, .slice ax_t TS.now.length cx_t, .slice ay_t TS.last.length cy_t] 28)).heap.size := by simp
  have q_t := LK.new w7 (.cells #[.slice ab_t TS.disk.blocks.length cb_t, .slice au_t TS.disk.waits.length cu_t, .slice ax_t TS.now.length cx_t, .slice ay_t TS.last.length cy_t] 28)
  replace q_s := q_s.step hst
  replace q_o := q_o.step hst
  replace O_s := O_s.step hst
  replace O_o := O_o.step hst
  replace B_b := B_b.step hst
  replace O_n := O_n.step hst
  replace q_n := q_n.step hst
  replace S_l := S_l.step hst
  replace S_m := S_m.step hst
  replace P_t := P_t.step hst
  replace hB := hB.step hst
  obtain ⟨w8, hw⟩ : ∃ v, w7.alloc (.cells #[.slice ab_t TS.disk.blocks.length cb_t, .slice au_t TS.disk.waits.length cu_t, .slice ax_t TS.now.length cx_t, .slice ay_t TS.last.length cy_t] 28) = v := ⟨_, rfl⟩
  rw [hw] at hlt q_t q_s q_o O_s O_o B_b O_n q_n S_l S_m P_t hB ⊢
  clear hw hst
  have sz_w8 := hlt
  clear hlt
  have HQ := Lib.hid (And.intro q_s (And.intro q_o (And.intro O_s (And.intro O_o (And.intro B_b (And.intro O_n (And.intro q_n (And.intro S_l (And.intro S_m (And.intro P_t (And.intro q_t hB)))))))))))
  clear q_s q_o O_s O_o B_b O_n q_n S_l S_m P_t q_t hB
  have c_q_s0 := LK.cell HQ.out.1 0
  have c_q_s1 := LK.cell HQ.out.1 1
  have c_q_s2 := LK.cell HQ.out.1 2
  have c_q_s3 := LK.cell HQ.out.1 3
  have c_q_o0 := LK.cell HQ.out.2.1 0
  have c_q_o1 := LK.cell HQ.out.2.1 1
  have c_q_o2 := LK.cell HQ.out.2.1 2
  have c_q_o3 := LK.cell HQ.out.2.1 3
  have c_q_n0 := LK.cell HQ.out.2.2.2.2.2.2.1 0
  have c_q_n1 := LK.cell HQ.out.2.2.2.2.2.2.1 1
  have c_q_n2 := LK.cell HQ.out.2.2.2.2.2.2.1 2
  have c_q_n3 := LK.cell HQ.out.2.2.2.2.2.2.1 3
  have c_q_t0 := LK.cell HQ.out.2.2.2.2.2.2.2.2.2.2.1 0
  have c_q_t1 := LK.cell HQ.out.2.2.2.2.2.2.2.2.2.2.1 1
  have c_q_t2 := LK.cell HQ.out.2.2.2.2.2.2.2.2.2.2.1 2
  have c_q_t3 := LK.cell HQ.out.2.2.2.2.2.2.2.2.2.2.1 3
  simp at c_q_s0 c_q_s1 c_q_s2 c_q_s3 c_q_o0 c_q_o1 c_q_o2 c_q_o3 c_q_n0 c_q_n1 c_q_n2 c_q_n3 c_q_t0 c_q_t1 c_q_t2 c_q_t3
  go_wp2_with fail
  refine (HC.out.2.2.2.2.2.2.1 _ _ _ _ _ _ HQ.out.2.2.1.v HQ.out.2.2.2.2.1.v).mono ?_
  rintro e w9 ⟨b3, u3, x3, y3, rfl, hm, hst⟩
  clear c_q_s0 c_q_s1 c_q_s2 c_q_s3 c_q_o0 c_q_o1 c_q_o2 c_q_o3 c_q_n0 c_q_n1 c_q_n2 c_q_n3 c_q_t0 c_q_t1 c_q_t2 c_q_t3
  obtain ⟨q_s, q_o, O_s, O_o, B_b, O_n, q_n, S_l, S_m, P_t, q_t, hB⟩ := HQ.out
  clear HQ
  have O_u := LO.of hm (Nat.le_refl _)
  obtain ⟨ab_u, cb_u, rfl, -, -, -, -⟩ := hm.1.1
  obtain ⟨au_u, cu_u, rfl, -, -, -, -⟩ := hm.1.2
  obtain ⟨ax_u, cx_u, rfl, -, -⟩ := hm.2.1.form rfl
  obtain ⟨ay_u, cy_u, rfl, -, -⟩ := hm.2.2.form rfl
  clear hm
  have sz_w9 : w8.heap.size ≤ w9.heap.size := hst.size
  replace q_s := q_s.step hst
  replace q_o := q_o.step hst
  replace O_s := O_s.step hst
  replace O_o := O_o.step hst
  replace B_b := B_b.step hst
  replace O_n := O_n.step hst
  replace q_n := q_n.step hst
  replace S_l := S_l.step hst
  replace S_m := S_m.step hst
  replace P_t := P_t.step hst
  replace q_t := q_t.step hst
  replace hB := hB.step hst
  clear hst
  have HQ := Lib.hid (And.intro q_s (And.intro q_o (And.intro O_s (And.intro O_o (And.intro B_b (And.intro O_n (And.intro q_n (And.intro S_l (And.intro S_m (And.intro P_t (And.intro q_t (And.intro O_u hB))))))))))))
  clear q_s q_o O_s O_o B_b O_n q_n S_l S_m P_t q_t O_u hB
  have c_q_s0 := LK.cell HQ.out.1 0
  have c_q_s1 := LK.cell HQ.out.1 1
  have c_q_s2 := LK.cell HQ.out.1 2
  have c_q_s3 := LK.cell HQ.out.1 3
  have c_q_o0 := LK.cell HQ.out.2.1 0
  have c_q_o1 := LK.cell HQ.out.2.1 1
  have c_q_o2 := LK.cell HQ.out.2.1 2
  have c_q_o3 := LK.cell HQ.out.2.1 3
  have c_q_n0 := LK.cell HQ.out.2.2.2.2.2.2.1 0
  have c_q_n1 := LK.cell HQ.out.2.2.2.2.2.2.1 1
  have c_q_n2 := LK.cell HQ.out.2.2.2.2.2.2.1 2
  have c_q_n3 := LK.cell HQ.out.2.2.2.2.2.2.1 3
  have c_q_t0 := LK.cell HQ.out.2.2.2.2.2.2.2.2.2.2.1 0
  have c_q_t1 := LK.cell HQ.out.2.2.2.2.2.2.2.2.2.2.1 1
  have c_q_t2 := LK.cell HQ.out.2.2.2.2.2.2.2.2.2.2.1 2
  have c_q_t3 := LK.cell HQ.out.2.2.2.2.2.2.2.2.2.2.1 3
  simp at c_q_s0 c_q_s1 c_q_s2 c_q_s3 c_q_o0 c_q_o1 c_q_o2 c_q_o3 c_q_n0 c_q_n1 c_q_n2 c_q_n3 c_q_t0 c_q_t1 c_q_t2 c_q_t3
  go_upto_region 8 with (fail)
  clear c_q_s0 c_q_s1 c_q_s2 c_q_s3 c_q_o0 c_q_o1 c_q_o2 c_q_o3 c_q_n0 c_q_n1 c_q_n2 c_q_n3 c_q_t0 c_q_t1 c_q_t2 c_q_t3
  obtain ⟨q_s, q_o, O_s, O_o, B_b, O_n, q_n, S_l, S_m, P_t, q_t, O_u, hB⟩ := HQ.out
  clear HQ
  have hst := (Below.refl w9.heap.size w9).alloc (Nat.le_refl _) (.cells #[.slice ab_u TS.disk.blocks.length cb_u, .slice au_u TS.disk.waits.length cu_u, .slice ax_u TS.now.length cx_u, .slice ay_u TS.last.length cy_u] 28)
  have hlt : w9.heap.size < (w9.alloc (.cells #[.slice ab_u TS.disk.blocks.length cb_u, .slice au_u TS.disk.waits.length cu_u, .slice ax_u TS.now.length cx_u, .slice ay_u TS.last.length cy_u] 28)).heap.size := by simp
  have q_u := LK.new w9 (.cells #[.slice ab_u TS.disk.blocks.length cb_u, .slice au_u TS.disk.waits.length cu_u, .slice ax_u TS.now.length cx_u, .slice ay_u TS.last.length cy_u] 28)
  replace q_s := q_s.step hst
  replace q_o := q_o.step hst
  replace O_s := O_s.step hst
  replace O_o := O_o.step hst
  replace B_b := B_b.step hst
  replace O_n := O_n.step hst
  replace q_n := q_n.step hst
  replace S_l := S_l.step hst
  replace S_m := S_m.step hst
  replace P_t := P_t.step hst
  replace q_t := q_t.step hst
  replace O_u := O_u.step hst
  replace hB := hB.step hst
  obtain ⟨w10, hw⟩ : ∃ v, w9.alloc (.cells #[.slice ab_u TS.disk.blocks.length cb_u, .slice au_u TS.disk.waits.length cu_u, .slice ax_u TS.now.length cx_u, .slice ay_u TS.last.length cy_u] 28) = v := ⟨_, rfl⟩
  rw [hw] at hlt q_u q_s q_o O_s O_o B_b O_n q_n S_l S_m P_t q_t O_u hB ⊢
  clear hw hst
  have sz_w10 := hlt
  clear hlt
  have HQ := Lib.hid (And.intro q_s (And.intro q_o (And.intro O_s (And.intro O_o (And.intro B_b (And.intro O_n (And.intro q_n (And.intro S_l (And.intro S_m (And.intro P_t (And.intro q_t (And.intro O_u (And.intro q_u hB)))))))))))))
  clear q_s q_o O_s O_o B_b O_n q_n S_l S_m P_t q_t O_u q_u hB
  have c_q_s0 := LK.cell HQ.out.1 0
  have c_q_s1 := LK.cell HQ.out.1 1
  have c_q_s2 := LK.cell HQ.out.1 2
  have c_q_s3 := LK.cell HQ.out.1 3
  have c_q_o0 := LK.cell HQ.out.2.1 0
  have c_q_o1 := LK.cell HQ.out.2.1 1
  have c_q_o2 := LK.cell HQ.out.2.1 2
  have c_q_o3 := LK.cell HQ.out.2.1 3
  have c_q_n0 := LK.cell HQ.out.2.2.2.2.2.2.1 0
  have c_q_n1 := LK.cell HQ.out.2.2.2.2.2.2.1 1
  have c_q_n2 := LK.cell HQ.out.2.2.2.2.2.2.1 2
  have c_q_n3 := LK.cell HQ.out.2.2.2.2.2.2.1 3
  have c_q_t0 := LK.cell HQ.out.2.2.2.2.2.2.2.2.2.2.1 0
  have c_q_t1 := LK.cell HQ.out.2.2.2.2.2.2.2.2.2.2.1 1
  have c_q_t2 := LK.cell HQ.out.2.2.2.2.2.2.2.2.2.2.1 2
  have c_q_t3 := LK.cell HQ.out.2.2.2.2.2.2.2.2.2.2.1 3
  have c_q_u0 := LK.cell HQ.out.2.2.2.2.2.2.2.2.2.2.2.2.1 0
  have c_q_u1 := LK.cell HQ.out.2.2.2.2.2.2.2.2.2.2.2.2.1 1
  have c_q_u2 := LK.cell HQ.out.2.2.2.2.2.2.2.2.2.2.2.2.1 2
  have c_q_u3 := LK.cell HQ.out.2.2.2.2.2.2.2.2.2.2.2.2.1 3
  simp at c_q_s0 c_q_s1 c_q_s2 c_q_s3 c_q_o0 c_q_o1 c_q_o2 c_q_o3 c_q_n0 c_q_n1 c_q_n2 c_q_n3 c_q_t0 c_q_t1 c_q_t2 c_q_t3 c_q_u0 c_q_u1 c_q_u2 c_q_u3
  go_wp2_with fail
  refine (HC.out.2.2.2.2.2.2.2.1 _ _ _ _ _ HQ.out.2.2.2.2.2.1.v).mono ?_
  rintro e w11 ⟨b4, u4, x4, y4, rfl, hm⟩
  clear c_q_s0 c_q_s1 c_q_s2 c_q_s3 c_q_o0 c_q_o1 c_q_o2 c_q_o3 c_q_n0 c_q_n1 c_q_n2 c_q_n3 c_q_t0 c_q_t1 c_q_t2 c_q_t3 c_q_u0 c_q_u1 c_q_u2 c_q_u3
  obtain ⟨q_s, q_o, O_s, O_o, B_b, O_n, q_n, S_l, S_m, P_t, q_t, O_u, q_u, hB⟩ := HQ.out
  clear HQ
  have P_a := LP.of hm
  have hst := hm.below
  obtain ⟨ab_a, cb_a, rfl, -, -, -, -⟩ := hm.store.v.1.1
  obtain ⟨au_a, cu_a, rfl, -, -, -, -⟩ := hm.store.v.1.2
  obtain ⟨ax_a, cx_a, rfl, -, -⟩ := hm.store.v.2.1.form rfl
  obtain ⟨ay_a, cy_a, rfl, -, -⟩ := hm.store.v.2.2.form rfl
  clear hm
  have sz_w11 : w10.heap.size ≤ w11.heap.size := hst.size
  replace q_s := q_s.step hst
  replace q_o := q_o.step hst
  replace O_s := O_s.step hst
  replace O_o := O_o.step hst
  replace B_b := B_b.step hst
  replace O_n := O_n.step hst
  replace q_n := q_n.step hst
  replace S_l := S_l.step hst
  replace S_m := S_m.step hst
  replace P_t := P_t.step hst
  replace q_t := q_t.step hst
  replace O_u := O_u.step hst
  replace q_u := q_u.step hst
  replace hB := hB.step hst
  clear hst
  have HQ := Lib.hid (And.intro q_s (And.intro q_o (And.intro O_s (And.intro O_o (And.intro B_b (And.intro O_n (And.intro q_n (And.intro S_l (And.intro S_m (And.intro P_t (And.intro q_t (And.intro O_u (And.intro q_u (And.intro P_a hB))))))))))))))
  clear q_s q_o O_s O_o B_b O_n q_n S_l S_m P_t q_t O_u q_u P_a hB
  have c_q_s0 := LK.cell HQ.out.1 0
  have c_q_s1 := LK.cell HQ.out.1 1
  have c_q_s2 := LK.cell HQ.out.1 2
  have c_q_s3 := LK.cell HQ.out.1 3
  have c_q_o0 := LK.cell HQ.out.2.1 0
  have c_q_o1 := LK.cell HQ.out.2.1 1
  have c_q_o2 := LK.cell HQ.out.2.1 2
  have c_q_o3 := LK.cell HQ.out.2.1 3
  have c_q_n0 := LK.cell HQ.out.2.2.2.2.2.2.1 0
  have c_q_n1 := LK.cell HQ.out.2.2.2.2.2.2.1 1
  have c_q_n2 := LK.cell HQ.out.2.2.2.2.2.2.1 2
  have c_q_n3 := LK.cell HQ.out.2.2.2.2.2.2.1 3
  have c_q_t0 := LK.cell HQ.out.2.2.2.2.2.2.2.2.2.2.1 0
  have c_q_t1 := LK.cell HQ.out.2.2.2.2.2.2.2.2.2.2.1 1
  have c_q_t2 := LK.cell HQ.out.2.2.2.2.2.2.2.2.2.2.1 2
  have c_q_t3 := LK.cell HQ.out.2.2.2.2.2.2.2.2.2.2.1 3
  have c_q_u0 := LK.cell HQ.out.2.2.2.2.2.2.2.2.2.2.2.2.1 0
  have c_q_u1 := LK.cell HQ.out.2.2.2.2.2.2.2.2.2.2.2.2.1 1
  have c_q_u2 := LK.cell HQ.out.2.2.2.2.2.2.2.2.2.2.2.2.1 2
  have c_q_u3 := LK.cell HQ.out.2.2.2.2.2.2.2.2.2.2.2.2.1 3
  simp at c_q_s0 c_q_s1 c_q_s2 c_q_s3 c_q_o0 c_q_o1 c_q_o2 c_q_o3 c_q_n0 c_q_n1 c_q_n2 c_q_n3 c_q_t0 c_q_t1 c_q_t2 c_q_t3 c_q_u0 c_q_u1 c_q_u2 c_q_u3
  go_upto_region 9 with (fail)
  clear c_q_s0 c_q_s1 c_q_s2 c_q_s3 c_q_o0 c_q_o1 c_q_o2 c_q_o3 c_q_n0 c_q_n1 c_q_n2 c_q_n3 c_q_t0 c_q_t1 c_q_t2 c_q_t3 c_q_u0 c_q_u1 c_q_u2 c_q_u3
  obtain ⟨q_s, q_o, O_s, O_o, B_b, O_n, q_n, S_l, S_m, P_t, q_t, O_u, q_u, P_a, hB⟩ := HQ.out
  clear HQ
  have hst := (Below.refl w11.heap.size w11).alloc (Nat.le_refl _) (.cells #[.slice ab_a SS.disk.blocks.length cb_a, .slice au_a SS.disk.waits.length cu_a, .slice ax_a SS.now.length cx_a, .slice ay_a SS.last.length cy_a] 28)
  have hlt : w11.heap.size < (w11.alloc (.cells #[.slice ab_a SS.disk.blocks.length cb_a, .slice au_a SS.disk.waits.length cu_a, .slice ax_a SS.now.length cx_a, .slice ay_a SS.last.length cy_a] 28)).heap.size := by simp
  have q_a := LK.new w11 (.cells #[.slice ab_a SS.disk.blocks.length cb_a, .slice au_a SS.disk.waits.length cu_a, .slice ax_a SS.now.length cx_a, .slice ay_a SS.last.length cy_a] 28)
  replace q_s := q_s.step hst
  replace q_o := q_o.step hst
  replace O_s := O_s.step hst
  replace O_o := O_o.step hst
  replace B_b := B_b.step hst
  replace O_n := O_n.step hst
  replace q_n := q_n.step hst
  replace S_l := S_l.step hst
  replace S_m := S_m.step hst
  replace P_t := P_t.step hst
  replace q_t := q_t.step hst
  replace O_u := O_u.step hst
  replace q_u := q_u.step hst
  replace P_a := P_a.step hst
  replace hB := hB.step hst
  obtain ⟨w12, hw⟩ : ∃ v, w11.alloc (.cells #[.slice ab_a SS.disk.blocks.length cb_a, .slice au_a SS.disk.waits.length cu_a, .slice ax_a SS.now.length cx_a, .slice ay_a SS.last.length cy_a] 28) = v := ⟨_, rfl⟩
  rw [hw] at hlt q_a q_s q_o O_s O_o B_b O_n q_n S_l S_m P_t q_t O_u q_u P_a hB ⊢
  clear hw hst
  have sz_w12 := hlt
  clear hlt
  have HQ := Lib.hid (And.intro q_s (And.intro q_o (And.intro O_s (And.intro O_o (And.intro B_b (And.intro O_n (And.intro q_n (And.intro S_l (And.intro S_m (And.intro P_t (And.intro q_t (And.intro O_u (And.intro q_u (And.intro P_a (And.intro q_a hB)))))))))))))))
  clear q_s q_o O_s O_o B_b O_n q_n S_l S_m P_t q_t O_u q_u P_a q_a hB
  have c_q_s0 := LK.cell HQ.out.1 0
  have c_q_s1 := LK.cell HQ.out.1 1
  have c_q_s2 := LK.cell HQ.out.1 2
  have c_q_s3 := LK.cell HQ.out.1 3
  have c_q_o0 := LK.cell HQ.out.2.1 0
  have c_q_o1 := LK.cell HQ.out.2.1 1
  have c_q_o2 := LK.cell HQ.out.2.1 2
  have c_q_o3 := LK.cell HQ.out.2.1 3
  have c_q_n0 := LK.cell HQ.out.2.2.2.2.2.2.1 0
  have c_q_n1 := LK.cell HQ.out.2.2.2.2.2.2.1 1
  have c_q_n2 := LK.cell HQ.out.2.2.2.2.2.2.1 2
  have c_q_n3 := LK.cell HQ.out.2.2.2.2.2.2.1 3
  have c_q_t0 := LK.cell HQ.out.2.2.2.2.2.2.2.2.2.2.1 0
  have c_q_t1 := LK.cell HQ.out.2.2.2.2.2.2.2.2.2.2.1 1
  have c_q_t2 := LK.cell HQ.out.2.2.2.2.2.2.2.2.2.2.1 2
  have c_q_t3 := LK.cell HQ.out.2.2.2.2.2.2.2.2.2.2.1 3
  have c_q_u0 := LK.cell HQ.out.2.2.2.2.2.2.2.2.2.2.2.2.1 0
  have c_q_u1 := LK.cell HQ.out.2.2.2.2.2.2.2.2.2.2.2.2.1 1
  have c_q_u2 := LK.cell HQ.out.2.2.2.2.2.2.2.2.2.2.2.2.1 2
  have c_q_u3 := LK.cell HQ.out.2.2.2.2.2.2.2.2.2.2.2.2.1 3
  have c_q_a0 := LK.cell HQ.out.2.2.2.2.2.2.2.2.2.2.2.2.2.2.1 0
  have c_q_a1 := LK.cell HQ.out.2.2.2.2.2.2.2.2.2.2.2.2.2.2.1 1
  have c_q_a2 := LK.cell HQ.out.2.2.2.2.2.2.2.2.2.2.2.2.2.2.1 2
  have c_q_a3 := LK.cell HQ.out.2.2.2.2.2.2.2.2.2.2.2.2.2.2.1 3
  simp at c_q_s0 c_q_s1 c_q_s2 c_q_s3 c_q_o0 c_q_o1 c_q_o2 c_q_o3 c_q_n0 c_q_n1 c_q_n2 c_q_n3 c_q_t0 c_q_t1 c_q_t2 c_q_t3 c_q_u0 c_q_u1 c_q_u2 c_q_u3 c_q_a0 c_q_a1 c_q_a2 c_q_a3
  go_wp2_with fail
  refine (HC.out.2.2.2.2.2.2.2.2.1 _ _ _ _ _ HQ.out.2.2.1.v).mono ?_
  rintro e w13 ⟨b5, u5, x5, y5, rfl, hm, hst⟩
  clear c_q_s0 c_q_s1 c_q_s2 c_q_s3 c_q_o0 c_q_o1 c_q_o2 c_q_o3 c_q_n0 c_q_n1 c_q_n2 c_q_n3 c_q_t0 c_q_t1 c_q_t2 c_q_t3 c_q_u0 c_q_u1 c_q_u2 c_q_u3 c_q_a0 c_q_a1 c_q_a2 c_q_a3
  obtain ⟨q_s, q_o, O_s, O_o, B_b, O_n, q_n, S_l, S_m, P_t, q_t, O_u, q_u, P_a, q_a, hB⟩ := HQ.out
  clear HQ
  have O_c := LO.of hm (Nat.le_refl _)
  obtain ⟨ab_c, cb_c, rfl, -, -, -, -⟩ := hm.1.1
  obtain ⟨au_c, cu_c, rfl, -, -, -, -⟩ := hm.1.2
  obtain ⟨ax_c, cx_c, rfl, -, -⟩ := hm.2.1.form rfl
  obtain ⟨ay_c, cy_c, rfl, -, -⟩ := hm.2.2.form rfl
  clear hm
  have sz_w13 : w12.heap.size ≤ w13.heap.size := hst.size
  replace q_s := q_s.step hst
  replace q_o := q_o.step hst
  replace O_s := O_s.step hst
  replace O_o := O_o.step hst
  replace B_b := B_b.step hst
  replace O_n := O_n.step hst
  replace q_n := q_n.step hst
  replace S_l := S_l.step hst
  replace S_m := S_m.step hst
  replace P_t := P_t.step hst
  replace q_t := q_t.step hst
  replace O_u := O_u.step hst
  replace q_u := q_u.step hst
  replace P_a := P_a.step hst
  replace q_a := q_a.step hst
  replace hB := hB.step hst
  clear hst
  have HQ := Lib.hid (And.intro q_s (And.intro q_o (And.intro O_s (And.intro O_o (And.intro B_b (And.intro O_n (And.intro q_n (And.intro S_l (And.intro S_m (And.intro P_t (And.intro q_t (And.intro O_u (And.intro q_u (And.intro P_a (And.intro q_a (And.intro O_c hB))))))))))))))))
  clear q_s q_o O_s O_o B_b O_n q_n S_l S_m P_t q_t O_u q_u P_a q_a O_c hB
  have c_q_s0 := LK.cell HQ.out.1 0
  have c_q_s1 := LK.cell HQ.out.1 1
  have c_q_s2 := LK.cell HQ.out.1 2
  have c_q_s3 := LK.cell HQ.out.1 3
  have c_q_o0 := LK.cell HQ.out.2.1 0
  have c_q_o1 := LK.cell HQ.out.2.1 1
  have c_q_o2 := LK.cell HQ.out.2.1 2
  have c_q_o3 := LK.cell HQ.out.2.1 3
  have c_q_n0 := LK.cell HQ.out.2.2.2.2.2.2.1 0
  have c_q_n1 := LK.cell HQ.out.2.2.2.2.2.2.1 1
  have c_q_n2 := LK.cell HQ.out.2.2.2.2.2.2.1 2
  have c_q_n3 := LK.cell HQ.out.2.2.2.2.2.2.1 3
  have c_q_t0 := LK.cell HQ.out.2.2.2.2.2.2.2.2.2.2.1 0
  have c_q_t1 := LK.cell HQ.out.2.2.2.2.2.2.2.2.2.2.1 1
  have c_q_t2 := LK.cell HQ.out.2.2.2.2.2.2.2.2.2.2.1 2
  have c_q_t3 := LK.cell HQ.out.2.2.2.2.2.2.2.2.2.2.1 3
  have c_q_u0 := LK.cell HQ.out.2.2.2.2.2.2.2.2.2.2.2.2.1 0
  have c_q_u1 := LK.cell HQ.out.2.2.2.2.2.2.2.2.2.2.2.2.1 1
  have c_q_u2 := LK.cell HQ.out.2.2.2.2.2.2.2.2.2.2.2.2.1 2
  have c_q_u3 := LK.cell HQ.out.2.2.2.2.2.2.2.2.2.2.2.2.1 3
  have c_q_a0 := LK.cell HQ.out.2.2.2.2.2.2.2.2.2.2.2.2.2.2.1 0
  have c_q_a1 := LK.cell HQ.out.2.2.2.2.2.2.2.2.2.2.2.2.2.2.1 1
  have c_q_a2 := LK.cell HQ.out.2.2.2.2.2.2.2.2.2.2.2.2.2.2.1 2
  have c_q_a3 := LK.cell HQ.out.2.2.2.2.2.2.2.2.2.2.2.2.2.2.1 3
  simp at c_q_s0 c_q_s1 c_q_s2 c_q_s3 c_q_o0 c_q_o1 c_q_o2 c_q_o3 c_q_n0 c_q_n1 c_q_n2 c_q_n3 c_q_t0 c_q_t1 c_q_t2 c_q_t3 c_q_u0 c_q_u1 c_q_u2 c_q_u3 c_q_a0 c_q_a1 c_q_a2 c_q_a3
  go_upto_region 10 with (fail)
  clear c_q_s0 c_q_s1 c_q_s2 c_q_s3 c_q_o0 c_q_o1 c_q_o2 c_q_o3 c_q_n0 c_q_n1 c_q_n2 c_q_n3 c_q_t0 c_q_t1 c_q_t2 c_q_t3 c_q_u0 c_q_u1 c_q_u2 c_q_u3 c_q_a0 c_q_a1 c_q_a2 c_q_a3
  obtain ⟨q_s, q_o, O_s, O_o, B_b, O_n, q_n, S_l, S_m, P_t, q_t, O_u, q_u, P_a, q_a, O_c, hB⟩ := HQ.out
  clear HQ
  have hst := (Below.refl w13.heap.size w13).alloc (Nat.le_refl _) (.cells #[.slice ab_c SS.disk.blocks.length cb_c, .slice au_c SS.disk.waits.length cu_c, .slice ax_c SS.now.length cx_c, .slice ay_c SS.last.length cy_c] 28)
  have hlt : w13.heap.size < (w13.alloc (.cells #[.slice ab_c SS.disk.blocks.length cb_c, .slice au_c SS.disk.waits.length cu_c, .slice ax_c SS.now.length cx_c, .slice ay_c SS.last.length cy_c] 28)).heap.size := by simp
  have q_c := LK.new w13 (.cells #[.slice ab_c SS.disk.blocks.length cb_c, .slice au_c SS.disk.waits.length cu_c, .slice ax_c SS.now.length cx_c, .slice ay_c SS.last.length cy_c] 28)
  replace q_s := q_s.step hst
  replace q_o := q_o.step hst
  replace O_s := O_s.step hst
  replace O_o := O_o.step hst
  replace B_b := B_b.step hst
  replace O_n := O_n.step hst
  replace q_n := q_n.step hst
  replace S_l := S_l.step hst
  replace S_m := S_m.step hst
  replace P_t := P_t.step hst
  replace q_t := q_t.step hst
  replace O_u := O_u.step hst
  replace q_u := q_u.step hst
  replace P_a := P_a.step hst
  replace q_a := q_a.step hst
  replace O_c := O_c.step hst
  replace hB := hB.step hst
  obtain ⟨w14, hw⟩ : ∃ v, w13.alloc (.cells #[.slice ab_c SS.disk.blocks.length cb_c, .slice au_c SS.disk.waits.length cu_c, .slice ax_c SS.now.length cx_c, .slice ay_c SS.last.length cy_c] 28) = v := ⟨_, rfl⟩
  rw [hw] at hlt q_c q_s q_o O_s O_o B_b O_n q_n S_l S_m P_t q_t O_u q_u P_a q_a O_c hB ⊢
  clear hw hst
  have sz_w14 := hlt
  clear hlt
  have HQ := Lib.hid (And.intro q_s (And.intro q_o (And.intro O_s (And.intro O_o (And.intro B_b (And.intro O_n (And.intro q_n (And.intro S_l (And.intro S_m (And.intro P_t (And.intro q_t (And.intro O_u (And.intro q_u (And.intro P_a (And.intro q_a (And.intro O_c (And.intro q_c hB)))))))))))))))))
  clear q_s q_o O_s O_o B_b O_n q_n S_l S_m P_t q_t O_u q_u P_a q_a O_c q_c hB
  have c_q_s0 := LK.cell HQ.out.1 0
  have c_q_s1 := LK.cell HQ.out.1 1
  have c_q_s2 := LK.cell HQ.out.1 2
  have c_q_s3 := LK.cell HQ.out.1 3
  have c_q_o0 := LK.cell HQ.out.2.1 0
  have c_q_o1 := LK.cell HQ.out.2.1 1
  have c_q_o2 := LK.cell HQ.out.2.1 2
  have c_q_o3 := LK.cell HQ.out.2.1 3
  have c_q_n0 := LK.cell HQ.out.2.2.2.2.2.2.1 0
  have c_q_n1 := LK.cell HQ.out.2.2.2.2.2.2.1 1
  have c_q_n2 := LK.cell HQ.out.2.2.2.2.2.2.1 2
  have c_q_n3 := LK.cell HQ.out.2.2.2.2.2.2.1 3
  have c_q_t0 := LK.cell HQ.out.2.2.2.2.2.2.2.2.2.2.1 0
  have c_q_t1 := LK.cell HQ.out.2.2.2.2.2.2.2.2.2.2.1 1
  have c_q_t2 := LK.cell HQ.out.2.2.2.2.2.2.2.2.2.2.1 2
  have c_q_t3 := LK.cell HQ.out.2.2.2.2.2.2.2.2.2.2.1 3
  have c_q_u0 := LK.cell HQ.out.2.2.2.2.2.2.2.2.2.2.2.2.1 0
  have c_q_u1 := LK.cell HQ.out.2.2.2.2.2.2.2.2.2.2.2.2.1 1
  have c_q_u2 := LK.cell HQ.out.2.2.2.2.2.2.2.2.2.2.2.2.1 2
  have c_q_u3 := LK.cell HQ.out.2.2.2.2.2.2.2.2.2.2.2.2.1 3
  have c_q_a0 := LK.cell HQ.out.2.2.2.2.2.2.2.2.2.2.2.2.2.2.1 0
  have c_q_a1 := LK.cell HQ.out.2.2.2.2.2.2.2.2.2.2.2.2.2.2.1 1
  have c_q_a2 := LK.cell HQ.out.2.2.2.2.2.2.2.2.2.2.2.2.2.2.1 2
  have c_q_a3 := LK.cell HQ.out.2.2.2.2.2.2.2.2.2.2.2.2.2.2.1 3
  have c_q_c0 := LK.cell HQ.out.2.2.2.2.2.2.2.2.2.2.2.2.2.2.2.2.1 0
  have c_q_c1 := LK.cell HQ.out.2.2.2.2.2.2.2.2.2.2.2.2.2.2.2.2.1 1
  have c_q_c2 := LK.cell HQ.out.2.2.2.2.2.2.2.2.2.2.2.2.2.2.2.2.1 2
  have c_q_c3 := LK.cell HQ.out.2.2.2.2.2.2.2.2.2.2.2.2.2.2.2.2.1 3
  simp at c_q_s0 c_q_s1 c_q_s2 c_q_s3 c_q_o0 c_q_o1 c_q_o2 c_q_o3 c_q_n0 c_q_n1 c_q_n2 c_q_n3 c_q_t0 c_q_t1 c_q_t2 c_q_t3 c_q_u0 c_q_u1 c_q_u2 c_q_u3 c_q_a0 c_q_a1 c_q_a2 c_q_a3 c_q_c0 c_q_c1 c_q_c2 c_q_c3
  go_wp2_with fail
  refine (HC.out.2.2.2.2.2.2.2.2.2.1 _ _ _ _ _ HQ.out.2.2.2.2.2.1.v).mono ?_
  rintro e w15 ⟨v_x, rfl, hS0, hst⟩
  clear c_q_s0 c_q_s1 c_q_s2 c_q_s3 c_q_o0 c_q_o1 c_q_o2 c_q_o3 c_q_n0 c_q_n1 c_q_n2 c_q_n3 c_q_t0 c_q_t1 c_q_t2 c_q_t3 c_q_u0 c_q_u1 c_q_u2 c_q_u3 c_q_a0 c_q_a1 c_q_a2 c_q_a3 c_q_c0 c_q_c1 c_q_c2 c_q_c3
  obtain ⟨q_s, q_o, O_s, O_o, B_b, O_n, q_n, S_l, S_m, P_t, q_t, O_u, q_u, P_a, q_a, O_c, q_c, hB⟩ := HQ.out
  clear HQ
  have hS := sl_itemT hS0
  clear hS0
  have S_x := LS.of hS (Nat.le_refl _)
  obtain ⟨a_x, c_x, rfl, -, -, -, -⟩ := id hS
  clear hS
  have sz_w15 : w14.heap.size ≤ w15.heap.size := hst.size
  replace q_s := q_s.step hst
  replace q_o := q_o.step hst
  replace O_s := O_s.step hst
  replace O_o := O_o.step hst
  replace B_b := B_b.step hst
  replace O_n := O_n.step hst
  replace q_n := q_n.step hst
  replace S_l := S_l.step hst
  replace S_m := S_m.step hst
  replace P_t := P_t.step hst
  replace q_t := q_t.step hst
  replace O_u := O_u.step hst
  replace q_u := q_u.step hst
  replace P_a := P_a.step hst
  replace q_a := q_a.step hst
  replace O_c := O_c.step hst
  replace q_c := q_c.step hst
  replace hB := hB.step hst
  clear hst
  have HQ := Lib.hid (And.intro q_s (And.intro q_o (And.intro O_s (And.intro O_o (And.intro B_b (And.intro O_n (And.intro q_n (And.intro S_l (And.intro S_m (And.intro P_t (And.intro q_t (And.intro O_u (And.intro q_u (And.intro P_a (And.intro q_a (And.intro O_c (And.intro q_c (And.intro S_x hB))))))))))))))))))
  clear q_s q_o O_s O_o B_b O_n q_n S_l S_m P_t q_t O_u q_u P_a q_a O_c q_c S_x hB
  have c_q_s0 := LK.cell HQ.out.1 0
  have c_q_s1 := LK.cell HQ.out.1 1
  have c_q_s2 := LK.cell HQ.out.1 2
  have c_q_s3 := LK.cell HQ.out.1 3
  have c_q_o0 := LK.cell HQ.out.2.1 0
  have c_q_o1 := LK.cell HQ.out.2.1 1
  have c_q_o2 := LK.cell HQ.out.2.1 2
  have c_q_o3 := LK.cell HQ.out.2.1 3
  have c_q_n0 := LK.cell HQ.out.2.2.2.2.2.2.1 0
  have c_q_n1 := LK.cell HQ.out.2.2.2.2.2.2.1 1
  have c_q_n2 := LK.cell HQ.out.2.2.2.2.2.2.1 2
  have c_q_n3 := LK.cell HQ.out.2.2.2.2.2.2.1 3
  have c_q_t0 := LK.cell HQ.out.2.2.2.2.2.2.2.2.2.2.1 0
  have c_q_t1 := LK.cell HQ.out.2.2.2.2.2.2.2.2.2.2.1 1
  have c_q_t2 := LK.cell HQ.out.2.2.2.2.2.2.2.2.2.2.1 2
  have c_q_t3 := LK.cell HQ.out.2.2.2.2.2.2.2.2.2.2.1 3
  have c_q_u0 := LK.cell HQ.out.2.2.2.2.2.2.2.2.2.2.2.2.1 0
  have c_q_u1 := LK.cell HQ.out.2.2.2.2.2.2.2.2.2.2.2.2.1 1
  have c_q_u2 := LK.cell HQ.out.2.2.2.2.2.2.2.2.2.2.2.2.1 2
  have c_q_u3 := LK.cell HQ.out.2.2.2.2.2.2.2.2.2.2.2.2.1 3
  have c_q_a0 := LK.cell HQ.out.2.2.2.2.2.2.2.2.2.2.2.2.2.2.1 0
  have c_q_a1 := LK.cell HQ.out.2.2.2.2.2.2.2.2.2.2.2.2.2.2.1 1
  have c_q_a2 := LK.cell HQ.out.2.2.2.2.2.2.2.2.2.2.2.2.2.2.1 2
  have c_q_a3 := LK.cell HQ.out.2.2.2.2.2.2.2.2.2.2.2.2.2.2.1 3
  have c_q_c0 := LK.cell HQ.out.2.2.2.2.2.2.2.2.2.2.2.2.2.2.2.2.1 0
  have c_q_c1 := LK.cell HQ.out.2.2.2.2.2.2.2.2.2.2.2.2.2.2.2.2.1 1
  have c_q_c2 := LK.cell HQ.out.2.2.2.2.2.2.2.2.2.2.2.2.2.2.2.2.1 2
  have c_q_c3 := LK.cell HQ.out.2.2.2.2.2.2.2.2.2.2.2.2.2.2.2.2.1 3
  simp at c_q_s0 c_q_s1 c_q_s2 c_q_s3 c_q_o0 c_q_o1 c_q_o2 c_q_o3 c_q_n0 c_q_n1 c_q_n2 c_q_n3 c_q_t0 c_q_t1 c_q_t2 c_q_t3 c_q_u0 c_q_u1 c_q_u2 c_q_u3 c_q_a0 c_q_a1 c_q_a2 c_q_a3 c_q_c0 c_q_c1 c_q_c2 c_q_c3
  go_upto_region 11 with (fail)
  clear c_q_s0 c_q_s1 c_q_s2 c_q_s3 c_q_o0 c_q_o1 c_q_o2 c_q_o3 c_q_n0 c_q_n1 c_q_n2 c_q_n3 c_q_t0 c_q_t1 c_q_t2 c_q_t3 c_q_u0 c_q_u1 c_q_u2 c_q_u3 c_q_a0 c_q_a1 c_q_a2 c_q_a3 c_q_c0 c_q_c1 c_q_c2 c_q_c3
  obtain ⟨q_s, q_o, O_s, O_o, B_b, O_n, q_n, S_l, S_m, P_t, q_t, O_u, q_u, P_a, q_a, O_c, q_c, S_x, hB⟩ := HQ.out
  clear HQ
  have hst := (Below.refl w15.heap.size w15).alloc (Nat.le_refl _) (.cells #[.int .i64 N.level, .slice a_x N.items.length c_x] 47)
  have hlt : w15.heap.size < (w15.alloc (.cells #[.int .i64 N.level, .slice a_x N.items.length c_x] 47)).heap.size := by simp
  have q_x := LK.new w15 (.cells #[.int .i64 N.level, .slice a_x N.items.length c_x] 47)
  replace q_s := q_s.step hst
  replace q_o := q_o.step hst
  replace O_s := O_s.step hst
  replace O_o := O_o.step hst
  replace B_b := B_b.step hst
  replace O_n := O_n.step hst
  replace q_n := q_n.step hst
  replace S_l := S_l.step hst
  replace S_m := S_m.step hst
  replace P_t := P_t.step hst
  replace q_t := q_t.step hst
  replace O_u := O_u.step hst
  replace q_u := q_u.step hst
  replace P_a := P_a.step hst
  replace q_a := q_a.step hst
  replace O_c := O_c.step hst
  replace q_c := q_c.step hst
  replace S_x := S_x.step hst
  replace hB := hB.step hst
  obtain ⟨w16, hw⟩ : ∃ v, w15.alloc (.cells #[.int .i64 N.level, .slice a_x N.items.length c_x] 47) = v := ⟨_, rfl⟩
  rw [hw] at hlt q_x q_s q_o O_s O_o B_b O_n q_n S_l S_m P_t q_t O_u q_u P_a q_a O_c q_c S_x hB ⊢
  clear hw hst
  have sz_w16 := hlt
  clear hlt
  have HQ := Lib.hid (And.intro q_s (And.intro q_o (And.intro O_s (And.intro O_o (And.intro B_b (And.intro O_n (And.intro q_n (And.intro S_l (And.intro S_m (And.intro P_t (And.intro q_t (And.intro O_u (And.intro q_u (And.intro P_a (And.intro q_a (And.intro O_c (And.intro q_c (And.intro S_x (And.intro q_x hB)))))))))))))))))))
  clear q_s q_o O_s O_o B_b O_n q_n S_l S_m P_t q_t O_u q_u P_a q_a O_c q_c S_x q_x hB
  have c_q_s0 := LK.cell HQ.out.1 0
  have c_q_s1 := LK.cell HQ.out.1 1
  have c_q_s2 := LK.cell HQ.out.1 2
  have c_q_s3 := LK.cell HQ.out.1 3
  have c_q_o0 := LK.cell HQ.out.2.1 0
  have c_q_o1 := LK.cell HQ.out.2.1 1
  have c_q_o2 := LK.cell HQ.out.2.1 2
  have c_q_o3 := LK.cell HQ.out.2.1 3
  have c_q_n0 := LK.cell HQ.out.2.2.2.2.2.2.1 0
  have c_q_n1 := LK.cell HQ.out.2.2.2.2.2.2.1 1
  have c_q_n2 := LK.cell HQ.out.2.2.2.2.2.2.1 2
  have c_q_n3 := LK.cell HQ.out.2.2.2.2.2.2.1 3
  have c_q_t0 := LK.cell HQ.out.2.2.2.2.2.2.2.2.2.2.1 0
  have c_q_t1 := LK.cell HQ.out.2.2.2.2.2.2.2.2.2.2.1 1
  have c_q_t2 := LK.cell HQ.out.2.2.2.2.2.2.2.2.2.2.1 2
  have c_q_t3 := LK.cell HQ.out.2.2.2.2.2.2.2.2.2.2.1 3
  have c_q_u0 := LK.cell HQ.out.2.2.2.2.2.2.2.2.2.2.2.2.1 0
  have c_q_u1 := LK.cell HQ.out.2.2.2.2.2.2.2.2.2.2.2.2.1 1
  have c_q_u2 := LK.cell HQ.out.2.2.2.2.2.2.2.2.2.2.2.2.1 2
  have c_q_u3 := LK.cell HQ.out.2.2.2.2.2.2.2.2.2.2.2.2.1 3
  have c_q_a0 := LK.cell HQ.out.2.2.2.2.2.2.2.2.2.2.2.2.2.2.1 0
  have c_q_a1 := LK.cell HQ.out.2.2.2.2.2.2.2.2.2.2.2.2.2.2.1 1
  have c_q_a2 := LK.cell HQ.out.2.2.2.2.2.2.2.2.2.2.2.2.2.2.1 2
  have c_q_a3 := LK.cell HQ.out.2.2.2.2.2.2.2.2.2.2.2.2.2.2.1 3
  have c_q_c0 := LK.cell HQ.out.2.2.2.2.2.2.2.2.2.2.2.2.2.2.2.2.1 0
  have c_q_c1 := LK.cell HQ.out.2.2.2.2.2.2.2.2.2.2.2.2.2.2.2.2.1 1
  have c_q_c2 := LK.cell HQ.out.2.2.2.2.2.2.2.2.2.2.2.2.2.2.2.2.1 2
  have c_q_c3 := LK.cell HQ.out.2.2.2.2.2.2.2.2.2.2.2.2.2.2.2.2.1 3
  have c_q_x0 := LK.cell HQ.out.2.2.2.2.2.2.2.2.2.2.2.2.2.2.2.2.2.2.1 0
  have c_q_x1 := LK.cell HQ.out.2.2.2.2.2.2.2.2.2.2.2.2.2.2.2.2.2.2.1 1
  simp at c_q_s0 c_q_s1 c_q_s2 c_q_s3 c_q_o0 c_q_o1 c_q_o2 c_q_o3 c_q_n0 c_q_n1 c_q_n2 c_q_n3 c_q_t0 c_q_t1 c_q_t2 c_q_t3 c_q_u0 c_q_u1 c_q_u2 c_q_u3 c_q_a0 c_q_a1 c_q_a2 c_q_a3 c_q_c0 c_q_c1 c_q_c2 c_q_c3 c_q_x0 c_q_x1
  go_wp2_with fail
  refine (HC.out.2.2.2.2.2.2.2.2.2.2.1 _ _ _ _ _ HQ.out.2.2.1.v).mono ?_
  rintro e w17 ⟨v_y, rfl, hS, hst⟩
  clear c_q_s0 c_q_s1 c_q_s2 c_q_s3 c_q_o0 c_q_o1 c_q_o2 c_q_o3 c_q_n0 c_q_n1 c_q_n2 c_q_n3 c_q_t0 c_q_t1 c_q_t2 c_q_t3 c_q_u0 c_q_u1 c_q_u2 c_q_u3 c_q_a0 c_q_a1 c_q_a2 c_q_a3 c_q_c0 c_q_c1 c_q_c2 c_q_c3 c_q_x0 c_q_x1
  obtain ⟨q_s, q_o, O_s, O_o, B_b, O_n, q_n, S_l, S_m, P_t, q_t, O_u, q_u, P_a, q_a, O_c, q_c, S_x, q_x, hB⟩ := HQ.out
  clear HQ
  have S_y := LS.of hS (Nat.le_refl _)
  obtain ⟨a_y, c_y, rfl, -, -, -, -⟩ := id hS
  clear hS
  have sz_w17 : w16.heap.size ≤ w17.heap.size := hst.size
  replace q_s := q_s.step hst
  replace q_o := q_o.step hst
  replace O_s := O_s.step hst
  replace O_o := O_o.step hst
  replace B_b := B_b.step hst
  replace O_n := O_n.step hst
  replace q_n := q_n.step hst
  replace S_l := S_l.step hst
  replace S_m := S_m.step hst
  replace P_t := P_t.step hst
  replace q_t := q_t.step hst
  replace O_u := O_u.step hst
  replace q_u := q_u.step hst
  replace P_a := P_a.step hst
  replace q_a := q_a.step hst
  replace O_c := O_c.step hst
  replace q_c := q_c.step hst
  replace S_x := S_x.step hst
  replace q_x := q_x.step hst
  replace hB := hB.step hst
  clear hst
  have HQ := Lib.hid (And.intro q_s (And.intro q_o (And.intro O_s (And.intro O_o (And.intro B_b (And.intro O_n (And.intro q_n (And.intro S_l (And.intro S_m (And.intro P_t (And.intro q_t (And.intro O_u (And.intro q_u (And.intro P_a (And.intro q_a (And.intro O_c (And.intro q_c (And.intro S_x (And.intro q_x (And.intro S_y hB))))))))))))))))))))
  clear q_s q_o O_s O_o B_b O_n q_n S_l S_m P_t q_t O_u q_u P_a q_a O_c q_c S_x q_x S_y hB
  have c_q_s0 := LK.cell HQ.out.1 0
  have c_q_s1 := LK.cell HQ.out.1 1
  have c_q_s2 := LK.cell HQ.out.1 2
  have c_q_s3 := LK.cell HQ.out.1 3
  have c_q_o0 := LK.cell HQ.out.2.1 0
  have c_q_o1 := LK.cell HQ.out.2.1 1
  have c_q_o2 := LK.cell HQ.out.2.1 2
  have c_q_o3 := LK.cell HQ.out.2.1 3
  have c_q_n0 := LK.cell HQ.out.2.2.2.2.2.2.1 0
  have c_q_n1 := LK.cell HQ.out.2.2.2.2.2.2.1 1
  have c_q_n2 := LK.cell HQ.out.2.2.2.2.2.2.1 2
  have c_q_n3 := LK.cell HQ.out.2.2.2.2.2.2.1 3
  have c_q_t0 := LK.cell HQ.out.2.2.2.2.2.2.2.2.2.2.1 0
  have c_q_t1 := LK.cell HQ.out.2.2.2.2.2.2.2.2.2.2.1 1
  have c_q_t2 := LK.cell HQ.out.2.2.2.2.2.2.2.2.2.2.1 2
  have c_q_t3 := LK.cell HQ.out.2.2.2.2.2.2.2.2.2.2.1 3
  have c_q_u0 := LK.cell HQ.out.2.2.2.2.2.2.2.2.2.2.2.2.1 0
  have c_q_u1 := LK.cell HQ.out.2.2.2.2.2.2.2.2.2.2.2.2.1 1
  have c_q_u2 := LK.cell HQ.out.2.2.2.2.2.2.2.2.2.2.2.2.1 2
  have c_q_u3 := LK.cell HQ.out.2.2.2.2.2.2.2.2.2.2.2.2.1 3
  have c_q_a0 := LK.cell HQ.out.2.2.2.2.2.2.2.2.2.2.2.2.2.2.1 0
  have c_q_a1 := LK.cell HQ.out.2.2.2.2.2.2.2.2.2.2.2.2.2.2.1 1
  have c_q_a2 := LK.cell HQ.out.2.2.2.2.2.2.2.2.2.2.2.2.2.2.1 2
  have c_q_a3 := LK.cell HQ.out.2.2.2.2.2.2.2.2.2.2.2.2.2.2.1 3
  have c_q_c0 := LK.cell HQ.out.2.2.2.2.2.2.2.2.2.2.2.2.2.2.2.2.1 0
  have c_q_c1 := LK.cell HQ.out.2.2.2.2.2.2.2.2.2.2.2.2.2.2.2.2.1 1
  have c_q_c2 := LK.cell HQ.out.2.2.2.2.2.2.2.2.2.2.2.2.2.2.2.2.1 2
  have c_q_c3 := LK.cell HQ.out.2.2.2.2.2.2.2.2.2.2.2.2.2.2.2.2.1 3
  have c_q_x0 := LK.cell HQ.out.2.2.2.2.2.2.2.2.2.2.2.2.2.2.2.2.2.2.1 0
  have c_q_x1 := LK.cell HQ.out.2.2.2.2.2.2.2.2.2.2.2.2.2.2.2.2.2.2.1 1
  simp at c_q_s0 c_q_s1 c_q_s2 c_q_s3 c_q_o0 c_q_o1 c_q_o2 c_q_o3 c_q_n0 c_q_n1 c_q_n2 c_q_n3 c_q_t0 c_q_t1 c_q_t2 c_q_t3 c_q_u0 c_q_u1 c_q_u2 c_q_u3 c_q_a0 c_q_a1 c_q_a2 c_q_a3 c_q_c0 c_q_c1 c_q_c2 c_q_c3 c_q_x0 c_q_x1
  go_upto_region 12 with (fail)
  clear c_q_s0 c_q_s1 c_q_s2 c_q_s3 c_q_o0 c_q_o1 c_q_o2 c_q_o3 c_q_n0 c_q_n1 c_q_n2 c_q_n3 c_q_t0 c_q_t1 c_q_t2 c_q_t3 c_q_u0 c_q_u1 c_q_u2 c_q_u3 c_q_a0 c_q_a1 c_q_a2 c_q_a3 c_q_c0 c_q_c1 c_q_c2 c_q_c3 c_q_x0 c_q_x1
  obtain ⟨q_s, q_o, O_s, O_o, B_b, O_n, q_n, S_l, S_m, P_t, q_t, O_u, q_u, P_a, q_a, O_c, q_c, S_x, q_x, S_y, hB⟩ := HQ.out
  clear HQ
  have hst := (Below.refl w17.heap.size w17).alloc (Nat.le_refl _) (.cells #[.int .i64 N.level, .slice a_y N.items.length c_y] 47)
  have hlt : w17.heap.size < (w17.alloc (.cells #[.int .i64 N.level, .slice a_y N.items.length c_y] 47)).heap.size := by simp
  have q_y := LK.new w17 (.cells #[.int .i64 N.level, .slice a_y N.items.length c_y] 47)
  replace q_s := q_s.step hst
  replace q_o := q_o.step hst
  replace O_s := O_s.step hst
  replace O_o := O_o.step hst
  replace B_b := B_b.step hst
  replace O_n := O_n.step hst
  replace q_n := q_n.step hst
  replace S_l := S_l.step hst
  replace S_m := S_m.step hst
  replace P_t := P_t.step hst
  replace q_t := q_t.step hst
  replace O_u := O_u.step hst
  replace q_u := q_u.step hst
  replace P_a := P_a.step hst
  replace q_a := q_a.step hst
  replace O_c := O_c.step hst
  replace q_c := q_c.step hst
  replace S_x := S_x.step hst
  replace q_x := q_x.step hst
  replace S_y := S_y.step hst
  replace hB := hB.step hst
  obtain ⟨w18, hw⟩ : ∃ v, w17.alloc (.cells #[.int .i64 N.level, .slice a_y N.items.length c_y] 47) = v := ⟨_, rfl⟩
  rw [hw] at hlt q_y q_s q_o O_s O_o B_b O_n q_n S_l S_m P_t q_t O_u q_u P_a q_a O_c q_c S_x q_x S_y hB ⊢
  clear hw hst
  have sz_w18 := hlt
  clear hlt
  have HQ := Lib.hid (And.intro q_s (And.intro q_o (And.intro O_s (And.intro O_o (And.intro B_b (And.intro O_n (And.intro q_n (And.intro S_l (And.intro S_m (And.intro P_t (And.intro q_t (And.intro O_u (And.intro q_u (And.intro P_a (And.intro q_a (And.intro O_c (And.intro q_c (And.intro S_x (And.intro q_x (And.intro S_y (And.intro q_y hB)))))))))))))))))))))
  clear q_s q_o O_s O_o B_b O_n q_n S_l S_m P_t q_t O_u q_u P_a q_a O_c q_c S_x q_x S_y q_y hB
  have c_q_s0 := LK.cell HQ.out.1 0
  have c_q_s1 := LK.cell HQ.out.1 1
  have c_q_s2 := LK.cell HQ.out.1 2
  have c_q_s3 := LK.cell HQ.out.1 3
  have c_q_o0 := LK.cell HQ.out.2.1 0
  have c_q_o1 := LK.cell HQ.out.2.1 1
  have c_q_o2 := LK.cell HQ.out.2.1 2
  have c_q_o3 := LK.cell HQ.out.2.1 3
  have c_q_n0 := LK.cell HQ.out.2.2.2.2.2.2.1 0
  have c_q_n1 := LK.cell HQ.out.2.2.2.2.2.2.1 1
  have c_q_n2 := LK.cell HQ.out.2.2.2.2.2.2.1 2
  have c_q_n3 := LK.cell HQ.out.2.2.2.2.2.2.1 3
  have c_q_t0 := LK.cell HQ.out.2.2.2.2.2.2.2.2.2.2.1 0
  have c_q_t1 := LK.cell HQ.out.2.2.2.2.2.2.2.2.2.2.1 1
  have c_q_t2 := LK.cell HQ.out.2.2.2.2.2.2.2.2.2.2.1 2
  have c_q_t3 := LK.cell HQ.out.2.2.2.2.2.2.2.2.2.2.1 3
  have c_q_u0 := LK.cell HQ.out.2.2.2.2.2.2.2.2.2.2.2.2.1 0
  have c_q_u1 := LK.cell HQ.out.2.2.2.2.2.2.2.2.2.2.2.2.1 1
  have c_q_u2 := LK.cell HQ.out.2.2.2.2.2.2.2.2.2.2.2.2.1 2
  have c_q_u3 := LK.cell HQ.out.2.2.2.2.2.2.2.2.2.2.2.2.1 3
  have c_q_a0 := LK.cell HQ.out.2.2.2.2.2.2.2.2.2.2.2.2.2.2.1 0
  have c_q_a1 := LK.cell HQ.out.2.2.2.2.2.2.2.2.2.2.2.2.2.2.1 1
  have c_q_a2 := LK.cell HQ.out.2.2.2.2.2.2.2.2.2.2.2.2.2.2.1 2
  have c_q_a3 := LK.cell HQ.out.2.2.2.2.2.2.2.2.2.2.2.2.2.2.1 3
  have c_q_c0 := LK.cell HQ.out.2.2.2.2.2.2.2.2.2.2.2.2.2.2.2.2.1 0
  have c_q_c1 := LK.cell HQ.out.2.2.2.2.2.2.2.2.2.2.2.2.2.2.2.2.1 1
  have c_q_c2 := LK.cell HQ.out.2.2.2.2.2.2.2.2.2.2.2.2.2.2.2.2.1 2
  have c_q_c3 := LK.cell HQ.out.2.2.2.2.2.2.2.2.2.2.2.2.2.2.2.2.1 3
  have c_q_x0 := LK.cell HQ.out.2.2.2.2.2.2.2.2.2.2.2.2.2.2.2.2.2.2.1 0
  have c_q_x1 := LK.cell HQ.out.2.2.2.2.2.2.2.2.2.2.2.2.2.2.2.2.2.2.1 1
  have c_q_y0 := LK.cell HQ.out.2.2.2.2.2.2.2.2.2.2.2.2.2.2.2.2.2.2.2.2.1 0
  have c_q_y1 := LK.cell HQ.out.2.2.2.2.2.2.2.2.2.2.2.2.2.2.2.2.2.2.2.2.1 1
  simp at c_q_s0 c_q_s1 c_q_s2 c_q_s3 c_q_o0 c_q_o1 c_q_o2 c_q_o3 c_q_n0 c_q_n1 c_q_n2 c_q_n3 c_q_t0 c_q_t1 c_q_t2 c_q_t3 c_q_u0 c_q_u1 c_q_u2 c_q_u3 c_q_a0 c_q_a1 c_q_a2 c_q_a3 c_q_c0 c_q_c1 c_q_c2 c_q_c3 c_q_x0 c_q_x1 c_q_y0 c_q_y1
  go_wp2_with fail
  refine (HC.out.2.2.2.2.2.2.2.2.2.2.2.1 _ _ _ HQ.out.2.2.2.2.2.2.2.1.v HQ.out.2.2.2.2.2.2.2.2.1.v).mono ?_
  rintro e w19 ⟨rfl, hst⟩
  clear c_q_s0 c_q_s1 c_q_s2 c_q_s3 c_q_o0 c_q_o1 c_q_o2 c_q_o3 c_q_n0 c_q_n1 c_q_n2 c_q_n3 c_q_t0 c_q_t1 c_q_t2 c_q_t3 c_q_u0 c_q_u1 c_q_u2 c_q_u3 c_q_a0 c_q_a1 c_q_a2 c_q_a3 c_q_c0 c_q_c1 c_q_c2 c_q_c3 c_q_x0 c_q_x1 c_q_y0 c_q_y1
  obtain ⟨q_s, q_o, O_s, O_o, B_b, O_n, q_n, S_l, S_m, P_t, q_t, O_u, q_u, P_a, q_a, O_c, q_c, S_x, q_x, S_y, q_y, hB⟩ := HQ.out
  clear HQ
  clear S_l S_m
  have sz_w19 : w18.heap.size ≤ w19.heap.size := hst.size
  replace q_s := q_s.step hst
  replace q_o := q_o.step hst
  replace O_s := O_s.step hst
  replace O_o := O_o.step hst
  replace B_b := B_b.step hst
  replace O_n := O_n.step hst
  replace q_n := q_n.step hst
  replace P_t := P_t.step hst
  replace q_t := q_t.step hst
  replace O_u := O_u.step hst
  replace q_u := q_u.step hst
  replace P_a := P_a.step hst
  replace q_a := q_a.step hst
  replace O_c := O_c.step hst
  replace q_c := q_c.step hst
  replace S_x := S_x.step hst
  replace q_x := q_x.step hst
  replace S_y := S_y.step hst
  replace q_y := q_y.step hst
  replace hB := hB.step hst
  clear hst
  have HQ := Lib.hid (And.intro q_s (And.intro q_o (And.intro O_s (And.intro O_o (And.intro B_b (And.intro O_n (And.intro q_n (And.intro P_t (And.intro q_t (And.intro O_u (And.intro q_u (And.intro P_a (And.intro q_a (And.intro O_c (And.intro q_c (And.intro S_x (And.intro q_x (And.intro S_y (And.intro q_y hB)))))))))))))))))))
  clear q_s q_o O_s O_o B_b O_n q_n P_t q_t O_u q_u P_a q_a O_c q_c S_x q_x S_y q_y hB
  have c_q_s0 := LK.cell HQ.out.1 0
  have c_q_s1 := LK.cell HQ.out.1 1
  have c_q_s2 := LK.cell HQ.out.1 2
  have c_q_s3 := LK.cell HQ.out.1 3
  have c_q_o0 := LK.cell HQ.out.2.1 0
  have c_q_o1 := LK.cell HQ.out.2.1 1
  have c_q_o2 := LK.cell HQ.out.2.1 2
  have c_q_o3 := LK.cell HQ.out.2.1 3
  have c_q_n0 := LK.cell HQ.out.2.2.2.2.2.2.1 0
  have c_q_n1 := LK.cell HQ.out.2.2.2.2.2.2.1 1
  have c_q_n2 := LK.cell HQ.out.2.2.2.2.2.2.1 2
  have c_q_n3 := LK.cell HQ.out.2.2.2.2.2.2.1 3
  have c_q_t0 := LK.cell HQ.out.2.2.2.2.2.2.2.2.1 0
  have c_q_t1 := LK.cell HQ.out.2.2.2.2.2.2.2.2.1 1
  have c_q_t2 := LK.cell HQ.out.2.2.2.2.2.2.2.2.1 2
  have c_q_t3 := LK.cell HQ.out.2.2.2.2.2.2.2.2.1 3
  have c_q_u0 := LK.cell HQ.out.2.2.2.2.2.2.2.2.2.2.1 0
  have c_q_u1 := LK.cell HQ.out.2.2.2.2.2.2.2.2.2.2.1 1
  have c_q_u2 := LK.cell HQ.out.2.2.2.2.2.2.2.2.2.2.1 2
  have c_q_u3 := LK.cell HQ.out.2.2.2.2.2.2.2.2.2.2.1 3
  have c_q_a0 := LK.cell HQ.out.2.2.2.2.2.2.2.2.2.2.2.2.1 0
  have c_q_a1 := LK.cell HQ.out.2.2.2.2.2.2.2.2.2.2.2.2.1 1
  have c_q_a2 := LK.cell HQ.out.2.2.2.2.2.2.2.2.2.2.2.2.1 2
  have c_q_a3 := LK.cell HQ.out.2.2.2.2.2.2.2.2.2.2.2.2.1 3
  have c_q_c0 := LK.cell HQ.out.2.2.2.2.2.2.2.2.2.2.2.2.2.2.1 0
  have c_q_c1 := LK.cell HQ.out.2.2.2.2.2.2.2.2.2.2.2.2.2.2.1 1
  have c_q_c2 := LK.cell HQ.out.2.2.2.2.2.2.2.2.2.2.2.2.2.2.1 2
  have c_q_c3 := LK.cell HQ.out.2.2.2.2.2.2.2.2.2.2.2.2.2.2.1 3
  have c_q_x0 := LK.cell HQ.out.2.2.2.2.2.2.2.2.2.2.2.2.2.2.2.2.1 0
  have c_q_x1 := LK.cell HQ.out.2.2.2.2.2.2.2.2.2.2.2.2.2.2.2.2.1 1
  have c_q_y0 := LK.cell HQ.out.2.2.2.2.2.2.2.2.2.2.2.2.2.2.2.2.2.2.1 0
  have c_q_y1 := LK.cell HQ.out.2.2.2.2.2.2.2.2.2.2.2.2.2.2.2.2.2.2.1 1
  simp at c_q_s0 c_q_s1 c_q_s2 c_q_s3 c_q_o0 c_q_o1 c_q_o2 c_q_o3 c_q_n0 c_q_n1 c_q_n2 c_q_n3 c_q_t0 c_q_t1 c_q_t2 c_q_t3 c_q_u0 c_q_u1 c_q_u2 c_q_u3 c_q_a0 c_q_a1 c_q_a2 c_q_a3 c_q_c0 c_q_c1 c_q_c2 c_q_c3 c_q_x0 c_q_x1 c_q_y0 c_q_y1
  go_wp2_with fail
  refine (HC.out.2.2.2.2.2.2.2.2.2.2.2.2.1 TS _ _ _ _ _ _ _ _ _ HQ.out.2.2.2.2.2.2.2.1.v HQ.out.2.2.2.2.2.2.2.2.2.1.v).mono ?_
  rintro e w20 ⟨rfl, hst⟩
  clear c_q_s0 c_q_s1 c_q_s2 c_q_s3 c_q_o0 c_q_o1 c_q_o2 c_q_o3 c_q_n0 c_q_n1 c_q_n2 c_q_n3 c_q_t0 c_q_t1 c_q_t2 c_q_t3 c_q_u0 c_q_u1 c_q_u2 c_q_u3 c_q_a0 c_q_a1 c_q_a2 c_q_a3 c_q_c0 c_q_c1 c_q_c2 c_q_c3 c_q_x0 c_q_x1 c_q_y0 c_q_y1
  obtain ⟨q_s, q_o, O_s, O_o, B_b, O_n, q_n, P_t, q_t, O_u, q_u, P_a, q_a, O_c, q_c, S_x, q_x, S_y, q_y, hB⟩ := HQ.out
  clear HQ
  clear O_u q_u
  have sz_w20 : w19.heap.size ≤ w20.heap.size := hst.size
  replace q_s := q_s.step hst
  replace q_o := q_o.step hst
  replace O_s := O_s.step hst
  replace O_o := O_o.step hst
  replace B_b := B_b.step hst
  replace O_n := O_n.step hst
  replace q_n := q_n.step hst
  replace P_t := P_t.step hst
  replace q_t := q_t.step hst
  replace P_a := P_a.step hst
  replace q_a := q_a.step hst
  replace O_c := O_c.step hst
  replace q_c := q_c.step hst
  replace S_x := S_x.step hst
  replace q_x := q_x.step hst
  replace S_y := S_y.step hst
  replace q_y := q_y.step hst
  replace hB := hB.step hst
  clear hst
  have HQ := Lib.hid (And.intro q_s (And.intro q_o (And.intro O_s (And.intro O_o (And.intro B_b (And.intro O_n (And.intro q_n (And.intro P_t (And.intro q_t (And.intro P_a (And.intro q_a (And.intro O_c (And.intro q_c (And.intro S_x (And.intro q_x (And.intro S_y (And.intro q_y hB)))))))))))))))))
  clear q_s q_o O_s O_o B_b O_n q_n P_t q_t P_a q_a O_c q_c S_x q_x S_y q_y hB
  have c_q_s0 := LK.cell HQ.out.1 0
  have c_q_s1 := LK.cell HQ.out.1 1
  have c_q_s2 := LK.cell HQ.out.1 2
  have c_q_s3 := LK.cell HQ.out.1 3
  have c_q_o0 := LK.cell HQ.out.2.1 0
  have c_q_o1 := LK.cell HQ.out.2.1 1
  have c_q_o2 := LK.cell HQ.out.2.1 2
  have c_q_o3 := LK.cell HQ.out.2.1 3
  have c_q_n0 := LK.cell HQ.out.2.2.2.2.2.2.1 0
  have c_q_n1 := LK.cell HQ.out.2.2.2.2.2.2.1 1
  have c_q_n2 := LK.cell HQ.out.2.2.2.2.2.2.1 2
  have c_q_n3 := LK.cell HQ.out.2.2.2.2.2.2.1 3
  have c_q_t0 := LK.cell HQ.out.2.2.2.2.2.2.2.2.1 0
  have c_q_t1 := LK.cell HQ.out.2.2.2.2.2.2.2.2.1 1
  have c_q_t2 := LK.cell HQ.out.2.2.2.2.2.2.2.2.1 2
  have c_q_t3 := LK.cell HQ.out.2.2.2.2.2.2.2.2.1 3
  have c_q_a0 := LK.cell HQ.out.2.2.2.2.2.2.2.2.2.2.1 0
  have c_q_a1 := LK.cell HQ.out.2.2.2.2.2.2.2.2.2.2.1 1
  have c_q_a2 := LK.cell HQ.out.2.2.2.2.2.2.2.2.2.2.1 2
  have c_q_a3 := LK.cell HQ.out.2.2.2.2.2.2.2.2.2.2.1 3
  have c_q_c0 := LK.cell HQ.out.2.2.2.2.2.2.2.2.2.2.2.2.1 0
  have c_q_c1 := LK.cell HQ.out.2.2.2.2.2.2.2.2.2.2.2.2.1 1
  have c_q_c2 := LK.cell HQ.out.2.2.2.2.2.2.2.2.2.2.2.2.1 2
  have c_q_c3 := LK.cell HQ.out.2.2.2.2.2.2.2.2.2.2.2.2.1 3
  have c_q_x0 := LK.cell HQ.out.2.2.2.2.2.2.2.2.2.2.2.2.2.2.1 0
  have c_q_x1 := LK.cell HQ.out.2.2.2.2.2.2.2.2.2.2.2.2.2.2.1 1
  have c_q_y0 := LK.cell HQ.out.2.2.2.2.2.2.2.2.2.2.2.2.2.2.2.2.1 0
  have c_q_y1 := LK.cell HQ.out.2.2.2.2.2.2.2.2.2.2.2.2.2.2.2.2.1 1
  simp at c_q_s0 c_q_s1 c_q_s2 c_q_s3 c_q_o0 c_q_o1 c_q_o2 c_q_o3 c_q_n0 c_q_n1 c_q_n2 c_q_n3 c_q_t0 c_q_t1 c_q_t2 c_q_t3 c_q_a0 c_q_a1 c_q_a2 c_q_a3 c_q_c0 c_q_c1 c_q_c2 c_q_c3 c_q_x0 c_q_x1 c_q_y0 c_q_y1
  go_wp2_with fail
  refine (HC.out.2.2.2.2.2.2.2.2.2.2.2.2.1 SS _ _ _ _ _ _ _ _ _ HQ.out.2.2.2.2.2.2.2.2.2.1.v HQ.out.2.2.2.2.2.2.2.2.2.2.2.1.v).mono ?_
  rintro e w21 ⟨rfl, hst⟩
  clear c_q_s0 c_q_s1 c_q_s2 c_q_s3 c_q_o0 c_q_o1 c_q_o2 c_q_o3 c_q_n0 c_q_n1 c_q_n2 c_q_n3 c_q_t0 c_q_t1 c_q_t2 c_q_t3 c_q_a0 c_q_a1 c_q_a2 c_q_a3 c_q_c0 c_q_c1 c_q_c2 c_q_c3 c_q_x0 c_q_x1 c_q_y0 c_q_y1
  obtain ⟨q_s, q_o, O_s, O_o, B_b, O_n, q_n, P_t, q_t, P_a, q_a, O_c, q_c, S_x, q_x, S_y, q_y, hB⟩ := HQ.out
  clear HQ
  clear O_c q_c
  have sz_w21 : w20.heap.size ≤ w21.heap.size := hst.size
  replace q_s := q_s.step hst
  replace q_o := q_o.step hst
  replace O_s := O_s.step hst
  replace O_o := O_o.step hst
  replace B_b := B_b.step hst
  replace O_n := O_n.step hst
  replace q_n := q_n.step hst
  replace P_t := P_t.step hst
  replace q_t := q_t.step hst
  replace P_a := P_a.step hst
  replace q_a := q_a.step hst
  replace S_x := S_x.step hst
  replace q_x := q_x.step hst
  replace S_y := S_y.step hst
  replace q_y := q_y.step hst
  replace hB := hB.step hst
  clear hst
  have HQ := Lib.hid (And.intro q_s (And.intro q_o (And.intro O_s (And.intro O_o (And.intro B_b (And.intro O_n (And.intro q_n (And.intro P_t (And.intro q_t (And.intro P_a (And.intro q_a (And.intro S_x (And.intro q_x (And.intro S_y (And.intro q_y hB)))))))))))))))
  clear q_s q_o O_s O_o B_b O_n q_n P_t q_t P_a q_a S_x q_x S_y q_y hB
  have c_q_s0 := LK.cell HQ.out.1 0
  have c_q_s1 := LK.cell HQ.out.1 1
  have c_q_s2 := LK.cell HQ.out.1 2
  have c_q_s3 := LK.cell HQ.out.1 3
  have c_q_o0 := LK.cell HQ.out.2.1 0
  have c_q_o1 := LK.cell HQ.out.2.1 1
  have c_q_o2 := LK.cell HQ.out.2.1 2
  have c_q_o3 := LK.cell HQ.out.2.1 3
  have c_q_n0 := LK.cell HQ.out.2.2.2.2.2.2.1 0
  have c_q_n1 := LK.cell HQ.out.2.2.2.2.2.2.1 1
  have c_q_n2 := LK.cell HQ.out.2.2.2.2.2.2.1 2
  have c_q_n3 := LK.cell HQ.out.2.2.2.2.2.2.1 3
  have c_q_t0 := LK.cell HQ.out.2.2.2.2.2.2.2.2.1 0
  have c_q_t1 := LK.cell HQ.out.2.2.2.2.2.2.2.2.1 1
  have c_q_t2 := LK.cell HQ.out.2.2.2.2.2.2.2.2.1 2
  have c_q_t3 := LK.cell HQ.out.2.2.2.2.2.2.2.2.1 3
  have c_q_a0 := LK.cell HQ.out.2.2.2.2.2.2.2.2.2.2.1 0
  have c_q_a1 := LK.cell HQ.out.2.2.2.2.2.2.2.2.2.2.1 1
  have c_q_a2 := LK.cell HQ.out.2.2.2.2.2.2.2.2.2.2.1 2
  have c_q_a3 := LK.cell HQ.out.2.2.2.2.2.2.2.2.2.2.1 3
  have c_q_x0 := LK.cell HQ.out.2.2.2.2.2.2.2.2.2.2.2.2.1 0
  have c_q_x1 := LK.cell HQ.out.2.2.2.2.2.2.2.2.2.2.2.2.1 1
  have c_q_y0 := LK.cell HQ.out.2.2.2.2.2.2.2.2.2.2.2.2.2.2.1 0
  have c_q_y1 := LK.cell HQ.out.2.2.2.2.2.2.2.2.2.2.2.2.2.2.1 1
  simp at c_q_s0 c_q_s1 c_q_s2 c_q_s3 c_q_o0 c_q_o1 c_q_o2 c_q_o3 c_q_n0 c_q_n1 c_q_n2 c_q_n3 c_q_t0 c_q_t1 c_q_t2 c_q_t3 c_q_a0 c_q_a1 c_q_a2 c_q_a3 c_q_x0 c_q_x1 c_q_y0 c_q_y1
  go_wp2_with fail
  refine (HC.out.2.2.2.2.2.2.2.2.2.2.2.2.2.1 _ _ _ HQ.out.2.2.2.2.2.2.2.2.2.2.2.1.v HQ.out.2.2.2.2.2.2.2.2.2.2.2.2.2.1.v).mono ?_
  rintro e w22 ⟨rfl, hst⟩
  clear c_q_s0 c_q_s1 c_q_s2 c_q_s3 c_q_o0 c_q_o1 c_q_o2 c_q_o3 c_q_n0 c_q_n1 c_q_n2 c_q_n3 c_q_t0 c_q_t1 c_q_t2 c_q_t3 c_q_a0 c_q_a1 c_q_a2 c_q_a3 c_q_x0 c_q_x1 c_q_y0 c_q_y1
  obtain ⟨q_s, q_o, O_s, O_o, B_b, O_n, q_n, P_t, q_t, P_a, q_a, S_x, q_x, S_y, q_y, hB⟩ := HQ.out
  clear HQ
  clear S_x S_y q_x q_y B_b
  have sz_w22 : w21.heap.size ≤ w22.heap.size := hst.size
  replace q_s := q_s.step hst
  replace q_o := q_o.step hst
  replace O_s := O_s.step hst
  replace O_o := O_o.step hst
  replace O_n := O_n.step hst
  replace q_n := q_n.step hst
  replace P_t := P_t.step hst
  replace q_t := q_t.step hst
  replace P_a := P_a.step hst
  replace q_a := q_a.step hst
  replace hB := hB.step hst
  clear hst
  have HQ := Lib.hid (And.intro q_s (And.intro q_o (And.intro O_s (And.intro O_o (And.intro O_n (And.intro q_n (And.intro P_t (And.intro q_t (And.intro P_a (And.intro q_a hB))))))))))
  clear q_s q_o O_s O_o O_n q_n P_t q_t P_a q_a hB
  have c_q_s0 := LK.cell HQ.out.1 0
  have c_q_s1 := LK.cell HQ.out.1 1
  have c_q_s2 := LK.cell HQ.out.1 2
  have c_q_s3 := LK.cell HQ.out.1 3
  have c_q_o0 := LK.cell HQ.out.2.1 0
  have c_q_o1 := LK.cell HQ.out.2.1 1
  have c_q_o2 := LK.cell HQ.out.2.1 2
  have c_q_o3 := LK.cell HQ.out.2.1 3
  have c_q_n0 := LK.cell HQ.out.2.2.2.2.2.1 0
  have c_q_n1 := LK.cell HQ.out.2.2.2.2.2.1 1
  have c_q_n2 := LK.cell HQ.out.2.2.2.2.2.1 2
  have c_q_n3 := LK.cell HQ.out.2.2.2.2.2.1 3
  have c_q_t0 := LK.cell HQ.out.2.2.2.2.2.2.2.1 0
  have c_q_t1 := LK.cell HQ.out.2.2.2.2.2.2.2.1 1
  have c_q_t2 := LK.cell HQ.out.2.2.2.2.2.2.2.1 2
  have c_q_t3 := LK.cell HQ.out.2.2.2.2.2.2.2.1 3
  have c_q_a0 := LK.cell HQ.out.2.2.2.2.2.2.2.2.2.1 0
  have c_q_a1 := LK.cell HQ.out.2.2.2.2.2.2.2.2.2.1 1
  have c_q_a2 := LK.cell HQ.out.2.2.2.2.2.2.2.2.2.1 2
  have c_q_a3 := LK.cell HQ.out.2.2.2.2.2.2.2.2.2.1 3
  simp at c_q_s0 c_q_s1 c_q_s2 c_q_s3 c_q_o0 c_q_o1 c_q_o2 c_q_o3 c_q_n0 c_q_n1 c_q_n2 c_q_n3 c_q_t0 c_q_t1 c_q_t2 c_q_t3 c_q_a0 c_q_a1 c_q_a2 c_q_a3
  go_upto_region 14 with (fail)
  clear c_q_s0 c_q_s1 c_q_s2 c_q_s3 c_q_o0 c_q_o1 c_q_o2 c_q_o3 c_q_n0 c_q_n1 c_q_n2 c_q_n3 c_q_t0 c_q_t1 c_q_t2 c_q_t3 c_q_a0 c_q_a1 c_q_a2 c_q_a3
  have x_q_s0 := fun X => LK.cell (HQ.out.1.step (aft_below w22 X)) 0
  have x_q_s1 := fun X => LK.cell (HQ.out.1.step (aft_below w22 X)) 1
  have x_q_s2 := fun X => LK.cell (HQ.out.1.step (aft_below w22 X)) 2
  have x_q_s3 := fun X => LK.cell (HQ.out.1.step (aft_below w22 X)) 3
  have x_q_n0 := fun X => LK.cell (HQ.out.2.2.2.2.2.1.step (aft_below w22 X)) 0
  have x_q_n1 := fun X => LK.cell (HQ.out.2.2.2.2.2.1.step (aft_below w22 X)) 1
  have x_q_n2 := fun X => LK.cell (HQ.out.2.2.2.2.2.1.step (aft_below w22 X)) 2
  have x_q_n3 := fun X => LK.cell (HQ.out.2.2.2.2.2.1.step (aft_below w22 X)) 3
  have x_q_o0 := fun X => LK.cell (HQ.out.2.1.step (aft_below w22 X)) 0
  have x_q_o1 := fun X => LK.cell (HQ.out.2.1.step (aft_below w22 X)) 1
  have x_q_o2 := fun X => LK.cell (HQ.out.2.1.step (aft_below w22 X)) 2
  have x_q_o3 := fun X => LK.cell (HQ.out.2.1.step (aft_below w22 X)) 3
  simp at x_q_s0 x_q_s1 x_q_s2 x_q_s3 x_q_n0 x_q_n1 x_q_n2 x_q_n3 x_q_o0 x_q_o1 x_q_o2 x_q_o3
  refine wp_region_held_drew (S := Cls w22) (by kernel_rfl) (Cls.drew w22) (fun hCl => ?_)
  refine wpAnyH_seg (fuel := 25) (by kernel_rfl) (fun _ d _ _ _ h => by cases d <;> exact h) hCl [0, 2] _ _ _ (by kernel_rfl) (by kernel_rfl) ?_
  simp only [opsOf_cons, opsOf_nil, consOp_some, List.getElem?_toArray, List.getElem?_cons_succ, List.getElem?_cons_zero]
  repeat (first | go_big_quiet_step (fail) | quiet_step (fail))
  refine wpQuiet_nil ?_
  refine wpAnyH_each (fuel := 24) [1] (by kernel_rfl) (by simp) (by kernel_rfl) ?_
  refine Each.cons _ rfl (fun K' hK => ?_) Each.nil
  go_simp
  refine (HC.out.2.2.2.2.2.2.2.2.2.2.2.2.2.2.1 _ _ _ _ _ (HQ.out.2.2.2.2.1.step hCl.below).v).mono ?_
  rintro e z1 ⟨rfl, hb⟩
  have hst := below_step hCl.below hCl.below.size hb
  clear hb
  have hCl := Cls.of hst
  refine hK.out (Cls w22) (fun _ h => h) hCl ?_
  clear hK K'
  refine wpAnyH_each (fuel := 23) [3] (by kernel_rfl) (by simp) (by kernel_rfl) ?_
  refine Each.cons _ rfl (fun K' hK => ?_) Each.nil
  go_simp
  refine (HC.out.2.2.2.2.2.2.2.2.2.2.2.2.2.2.2.1 _ _ _ _ _ (HQ.out.2.2.1.step hCl.below).v).mono ?_
  rintro e z2 ⟨rfl, hb⟩
  have hst := below_step hCl.below hCl.below.size hb
  clear hb
  have hCl := Cls.of hst
  refine hK.out (Cls w22) (fun _ h => h) hCl ?_
  clear hK K'
  refine wpAnyH_seg (fuel := 17) (by kernel_rfl) (fun _ d _ _ _ h => by cases d <;> exact h) hCl [4, 5, 6, 7, 9, 10] _ _ _ (by kernel_rfl) (by kernel_rfl) ?_
  simp only [opsOf_cons, opsOf_nil, consOp_some, List.getElem?_toArray, List.getElem?_cons_succ, List.getElem?_cons_zero]
  repeat (first | go_big_quiet_step (fail) | quiet_step (fail))
  refine wpQuiet_nil ?_
  refine wpAnyH_each (fuel := 16) [8] (by kernel_rfl) (by simp) (by kernel_rfl) ?_
  refine Each.cons _ rfl (fun K' hK => ?_) Each.nil
  go_simp
  refine (HC.out.2.2.2.2.2.2.2.2.2.2.2.2.2.2.2.2.1 _ _ _ _ _ _ _ _ _ (HQ.out.2.2.2.2.1.step hCl.below).v (HQ.out.2.2.2.1.step hCl.below).v).mono ?_
  rintro e z3 ⟨rfl, hb⟩
  have hst := below_step hCl.below hCl.below.size hb
  clear hb
  have hCl := Cls.of hst
  refine hK.out (Cls w22) (fun _ h => h) hCl ?_
  clear hK K'
  refine wpAnyH_each (fuel := 15) [11] (by kernel_rfl) (by simp) (by kernel_rfl) ?_
  refine Each.cons _ rfl (fun K' hK => ?_) Each.nil
  go_simp
  refine (HC.out.2.2.2.2.2.2.2.2.2.2.2.2.2.2.2.2.2.1 _ _ _ _ _ _ _ _ _ (HQ.out.2.2.1.step hCl.below).v (HQ.out.2.2.2.1.step hCl.below).v).mono ?_
  rintro e z4 ⟨rfl, hb⟩
  have hst := below_step hCl.below hCl.below.size hb
  clear hb
  have hCl := Cls.of hst
  refine hK.out (Cls w22) (fun _ h => h) hCl ?_
  clear hK K'
  refine wpAnyH_seg (fuel := 12) (by kernel_rfl) (fun _ d _ _ _ h => by cases d <;> exact h) hCl [12, 13, 14] _ _ _ (by kernel_rfl) (by kernel_rfl) ?_
  simp only [opsOf_cons, opsOf_nil, consOp_some, List.getElem?_toArray, List.getElem?_cons_succ, List.getElem?_cons_zero]
  repeat (first | go_big_quiet_step (fail) | quiet_step (fail))
  refine wpQuiet_nil ?_
  refine wpAnyH_each (fuel := 11) [15] (by kernel_rfl) (by simp) (by kernel_rfl) ?_
  refine Each.cons _ rfl (fun K' hK => ?_) Each.nil
  go_simp
  refine (HC.out.2.2.2.2.2.2.2.2.2.2.2.2.2.2.2.2.2.2.1 _).mono ?_
  rintro e z5 ⟨b6, u6, x6, y6, rfl, hm⟩
  have hst := below_step hCl.below hCl.below.size hm.below
  have O_1 := (LP.of hm).o
  obtain ⟨ab_f, cb_f, rfl, -, -, -, -⟩ := hm.store.v.1.1
  obtain ⟨au_f, cu_f, rfl, -, -, -, -⟩ := hm.store.v.1.2
  obtain ⟨ax_f, cx_f, rfl, -, -⟩ := hm.store.v.2.1.form rfl
  obtain ⟨ay_f, cy_f, rfl, -, -⟩ := hm.store.v.2.2.form rfl
  have HS1 := Lib.hid hst
  clear hm
  refine hK.out (Cls z5) (Cls.sub hst) (Cls.refl z5) ?_
  have hCl := Cls.refl z5
  clear hK K'
  refine wpAnyH_each (fuel := 10) [16] (by kernel_rfl) (by simp) (by kernel_rfl) ?_
  refine Each.cons _ rfl (fun K' hK => ?_) Each.nil
  go_simp
  refine (HC.out.2.2.2.2.2.2.2.2.2.2.2.2.2.2.2.2.2.2.2.1 _).mono ?_
  rintro e z6 ⟨b7, u7, x7, y7, rfl, hm, hs2⟩
  have hst := below_step hCl.below hCl.below.size hs2
  have O_2 := LO.of hm (Nat.le_refl _)
  obtain ⟨ab_g, cb_g, rfl, -, -, -, -⟩ := hm.1.1
  obtain ⟨au_g, cu_g, rfl, -, -, -, -⟩ := hm.1.2
  obtain ⟨ax_g, cx_g, rfl, -, -⟩ := hm.2.1.form rfl
  obtain ⟨ay_g, cy_g, rfl, -, -⟩ := hm.2.2.form rfl
  replace O_1 := O_1.step hs2
  have HS2 := Lib.hid hst
  clear hm hs2
  clear x_q_s0 x_q_s1 x_q_s2 x_q_s3 x_q_n0 x_q_n1 x_q_n2 x_q_n3 x_q_o0 x_q_o1 x_q_o2 x_q_o3
  have x_q_s0 := fun X => LK.cell ((HQ.out.1.step (HS1.out.trans (HS2.out.mono HS1.out.size))).step (aft_below z6 X)) 0
  have x_q_s1 := fun X => LK.cell ((HQ.out.1.step (HS1.out.trans (HS2.out.mono HS1.out.size))).step (aft_below z6 X)) 1
  have x_q_s2 := fun X => LK.cell ((HQ.out.1.step (HS1.out.trans (HS2.out.mono HS1.out.size))).step (aft_below z6 X)) 2
  have x_q_s3 := fun X => LK.cell ((HQ.out.1.step (HS1.out.trans (HS2.out.mono HS1.out.size))).step (aft_below z6 X)) 3
  have x_q_n0 := fun X => LK.cell ((HQ.out.2.2.2.2.2.1.step (HS1.out.trans (HS2.out.mono HS1.out.size))).step (aft_below z6 X)) 0
  have x_q_n1 := fun X => LK.cell ((HQ.out.2.2.2.2.2.1.step (HS1.out.trans (HS2.out.mono HS1.out.size))).step (aft_below z6 X)) 1
  have x_q_n2 := fun X => LK.cell ((HQ.out.2.2.2.2.2.1.step (HS1.out.trans (HS2.out.mono HS1.out.size))).step (aft_below z6 X)) 2
  have x_q_n3 := fun X => LK.cell ((HQ.out.2.2.2.2.2.1.step (HS1.out.trans (HS2.out.mono HS1.out.size))).step (aft_below z6 X)) 3
  have x_q_o0 := fun X => LK.cell ((HQ.out.2.1.step (HS1.out.trans (HS2.out.mono HS1.out.size))).step (aft_below z6 X)) 0
  have x_q_o1 := fun X => LK.cell ((HQ.out.2.1.step (HS1.out.trans (HS2.out.mono HS1.out.size))).step (aft_below z6 X)) 1
  have x_q_o2 := fun X => LK.cell ((HQ.out.2.1.step (HS1.out.trans (HS2.out.mono HS1.out.size))).step (aft_below z6 X)) 2
  have x_q_o3 := fun X => LK.cell ((HQ.out.2.1.step (HS1.out.trans (HS2.out.mono HS1.out.size))).step (aft_below z6 X)) 3
  simp at x_q_s0 x_q_s1 x_q_s2 x_q_s3 x_q_n0 x_q_n1 x_q_n2 x_q_n3 x_q_o0 x_q_o1 x_q_o2 x_q_o3
  refine hK.out (Cls z6) (Cls.sub hst) (Cls.refl z6) ?_
  have hCl := Cls.refl z6
  clear hK K'
  refine wpAnyH_each (fuel := 9) [17] (by kernel_rfl) (by simp) (by kernel_rfl) ?_
  refine Each.cons _ rfl (fun K' hK => ?_) Each.nil
  go_simp
  refine (HC.out.2.2.2.2.2.2.2.2.2.2.2.2.1 Z _ _ _ _ _ _ _ _ _ (O_1.step hCl.below).v (O_2.step hCl.below).v).mono ?_
  rintro e z7 ⟨rfl, hb⟩
  have hst := below_step hCl.below hCl.below.size hb
  clear hb
  have hCl := Cls.of hst
  refine hK.out (Cls z6) (fun _ h => h) hCl ?_
  clear hK K'
  refine wpAnyH_seg (fuel := 4) (by kernel_rfl) (fun _ d _ _ _ h => by cases d <;> exact h) hCl [18, 19, 20, 21, 23] _ _ _ (by kernel_rfl) (by kernel_rfl) ?_
  simp only [opsOf_cons, opsOf_nil, consOp_some, List.getElem?_toArray, List.getElem?_cons_succ, List.getElem?_cons_zero]
  repeat (first | go_big_quiet_step (fail) | quiet_step (fail))
  refine wpQuiet_nil ?_
  refine wpAnyH_each (fuel := 3) [22] (by kernel_rfl) (by simp) (by kernel_rfl) ?_
  refine Each.cons _ rfl (fun K' hK => ?_) Each.nil
  go_simp
  refine (HC.out.2.2.2.2.2.2.2.2.2.2.2.2.2.2.2.2.2.2.2.2 _ _ _ _ _ ((HQ.out.2.2.2.2.1.step (HS1.out.trans (HS2.out.mono HS1.out.size))).step hCl.below).v HSM.out.few).mono ?_
  rintro e z8 ⟨b8, u8, x8, y8, rfl, hm⟩
  have hst := below_step hCl.below hCl.below.size hm.below
  have O_3 := (LP.of hm).o
  obtain ⟨ab_h, cb_h, rfl, -, -, -, -⟩ := hm.store.v.1.1
  obtain ⟨au_h, cu_h, rfl, -, -, -, -⟩ := hm.store.v.1.2
  obtain ⟨ax_h, cx_h, rfl, -, -⟩ := hm.store.v.2.1.form rfl
  obtain ⟨ay_h, cy_h, rfl, -, -⟩ := hm.store.v.2.2.form rfl
  have HS3 := Lib.hid hst
  clear hm O_1 O_2
  refine hK.out (Cls z8) (Cls.sub hst) (Cls.refl z8) ?_
  have hCl := Cls.refl z8
  clear hK K'
  refine wpAnyH_each (fuel := 2) [24] (by kernel_rfl) (by simp) (by kernel_rfl) ?_
  refine Each.cons _ rfl (fun K' hK => ?_) Each.nil
  go_simp
  refine (HC.out.2.2.2.2.2.2.2.2.2.2.2.2.1 s _ _ _ _ _ _ _ _ _ (O_3.step hCl.below).v ((HQ.out.2.2.1.step (HS1.out.trans ((HS2.out.trans (HS3.out.mono HS2.out.size)).mono HS1.out.size))).step hCl.below).v).mono ?_
  rintro e z9 ⟨rfl, hb⟩
  have hst := below_step hCl.below hCl.below.size hb
  clear hb
  have HS4 := Lib.hid hst
  have hCl := Cls.of hst
  refine hK.out (Cls z8) (fun _ h => h) hCl ?_
  clear hK K'
  refine wpAnyH_seg (fuel := 0) (by kernel_rfl) (fun _ d _ _ _ h => by cases d <;> exact h) hCl [25, 26] _ _ _ (by kernel_rfl) (by kernel_rfl) ?_
  simp only [opsOf_cons, opsOf_nil, consOp_some, List.getElem?_toArray, List.getElem?_cons_succ, List.getElem?_cons_zero]
  repeat (first | go_big_quiet_step (fail) | quiet_step (fail))
  refine wpQuiet_nil ?_
  refine wpAnyH_done (by kernel_rfl) ?_ _
  clear x_q_s0 x_q_s1 x_q_s2 x_q_s3 x_q_n0 x_q_n1 x_q_n2 x_q_n3 x_q_o0 x_q_o1 x_q_o2 x_q_o3
  clear O_3
  try clear hCl
  have hst := HS1.out.trans ((HS2.out.trans ((HS3.out.trans (HS4.out.mono HS3.out.size)).mono HS2.out.size)).mono HS1.out.size)
  clear HS1 HS2 HS3 HS4
  obtain ⟨q_s, q_o, O_s, O_o, O_n, q_n, P_t, q_t, P_a, q_a, hB⟩ := HQ.out
  clear HQ
  have sz_z9 : w22.heap.size ≤ z9.heap.size := hst.size
  replace q_s := q_s.step hst
  replace q_o := q_o.step hst
  replace O_s := O_s.step hst
  replace O_o := O_o.step hst
  replace O_n := O_n.step hst
  replace q_n := q_n.step hst
  replace P_t := P_t.step hst
  replace q_t := q_t.step hst
  replace P_a := P_a.step hst
  replace q_a := q_a.step hst
  replace hB := hB.step hst
  clear hst
  have HQ := Lib.hid (And.intro q_s (And.intro q_o (And.intro O_s (And.intro O_o (And.intro O_n (And.intro q_n (And.intro P_t (And.intro q_t (And.intro P_a (And.intro q_a hB))))))))))
  clear q_s q_o O_s O_o O_n q_n P_t q_t P_a q_a hB
  have c_q_s0 := LK.cell HQ.out.1 0
  have c_q_s1 := LK.cell HQ.out.1 1
  have c_q_s2 := LK.cell HQ.out.1 2
  have c_q_s3 := LK.cell HQ.out.1 3
  have c_q_n0 := LK.cell HQ.out.2.2.2.2.2.1 0
  have c_q_n1 := LK.cell HQ.out.2.2.2.2.2.1 1
  have c_q_n2 := LK.cell HQ.out.2.2.2.2.2.1 2
  have c_q_n3 := LK.cell HQ.out.2.2.2.2.2.1 3
  have c_q_t0 := LK.cell HQ.out.2.2.2.2.2.2.2.1 0
  have c_q_t1 := LK.cell HQ.out.2.2.2.2.2.2.2.1 1
  have c_q_t2 := LK.cell HQ.out.2.2.2.2.2.2.2.1 2
  have c_q_t3 := LK.cell HQ.out.2.2.2.2.2.2.2.1 3
  have c_q_a0 := LK.cell HQ.out.2.2.2.2.2.2.2.2.2.1 0
  have c_q_a1 := LK.cell HQ.out.2.2.2.2.2.2.2.2.2.1 1
  have c_q_a2 := LK.cell HQ.out.2.2.2.2.2.2.2.2.2.1 2
  have c_q_a3 := LK.cell HQ.out.2.2.2.2.2.2.2.2.2.1 3
  simp at c_q_s0 c_q_s1 c_q_s2 c_q_s3 c_q_n0 c_q_n1 c_q_n2 c_q_n3 c_q_t0 c_q_t1 c_q_t2 c_q_t3 c_q_a0 c_q_a1 c_q_a2 c_q_a3
  go_wp2_with fail
  refine (spoil8_any _ _ _ _ _ _ _ _ _ w6.heap.size w7.heap.size (by omega) (by omega) HQ.out.2.2.2.2.2.2.1.sp).mono ?_
  rintro e wsa ⟨⟨ve, rfl⟩, hbel, hfr⟩
  have sz_wsa : z9.heap.size ≤ wsa.heap.size := hbel.size
  clear c_q_s0 c_q_s1 c_q_s2 c_q_s3 c_q_n0 c_q_n1 c_q_n2 c_q_n3 c_q_t0 c_q_t1 c_q_t2 c_q_t3 c_q_a0 c_q_a1 c_q_a2 c_q_a3
  obtain ⟨q_s, q_o, O_s, O_o, O_n, q_n, P_t, q_t, P_a, q_a, hB⟩ := HQ.out
  clear HQ
  clear P_t
  replace q_s := q_s.out hbel.size hfr (by omega)
  replace q_o := q_o.out hbel.size hfr (by omega)
  replace O_s := O_s.out hbel.size hfr (by omega)
  replace O_o := O_o.out hbel.size hfr (by omega)
  replace O_n := O_n.out hbel.size hfr (by omega)
  replace q_n := q_n.out hbel.size hfr (by omega)
  replace q_t := q_t.out hbel.size hfr (by omega)
  replace P_a := P_a.out hbel.size hfr (by omega)
  replace q_a := q_a.out hbel.size hfr (by omega)
  replace hB := hB.outB hbel (by omega)
  have HQ := Lib.hid (And.intro q_s (And.intro q_o (And.intro O_s (And.intro O_o (And.intro O_n (And.intro q_n (And.intro q_t (And.intro P_a (And.intro q_a hB)))))))))
  clear q_s q_o O_s O_o O_n q_n q_t P_a q_a hB
  clear hbel hfr
  have c_q_s0 := LK.cell HQ.out.1 0
  have c_q_s1 := LK.cell HQ.out.1 1
  have c_q_s2 := LK.cell HQ.out.1 2
  have c_q_s3 := LK.cell HQ.out.1 3
  have c_q_n0 := LK.cell HQ.out.2.2.2.2.2.1 0
  have c_q_n1 := LK.cell HQ.out.2.2.2.2.2.1 1
  have c_q_n2 := LK.cell HQ.out.2.2.2.2.2.1 2
  have c_q_n3 := LK.cell HQ.out.2.2.2.2.2.1 3
  have c_q_t0 := LK.cell HQ.out.2.2.2.2.2.2.1 0
  have c_q_t1 := LK.cell HQ.out.2.2.2.2.2.2.1 1
  have c_q_t2 := LK.cell HQ.out.2.2.2.2.2.2.1 2
  have c_q_t3 := LK.cell HQ.out.2.2.2.2.2.2.1 3
  have c_q_a0 := LK.cell HQ.out.2.2.2.2.2.2.2.2.1 0
  have c_q_a1 := LK.cell HQ.out.2.2.2.2.2.2.2.2.1 1
  have c_q_a2 := LK.cell HQ.out.2.2.2.2.2.2.2.2.1 2
  have c_q_a3 := LK.cell HQ.out.2.2.2.2.2.2.2.2.1 3
  simp at c_q_s0 c_q_s1 c_q_s2 c_q_s3 c_q_n0 c_q_n1 c_q_n2 c_q_n3 c_q_t0 c_q_t1 c_q_t2 c_q_t3 c_q_a0 c_q_a1 c_q_a2 c_q_a3
  go_wp2_with fail
  refine (spoil8_any _ _ _ _ _ _ _ _ _ w10.heap.size w11.heap.size (by omega) (by omega) HQ.out.2.2.2.2.2.2.2.1.sp).mono ?_
  rintro e wsb ⟨⟨ve, rfl⟩, hbel, hfr⟩
  have sz_wsb : wsa.heap.size ≤ wsb.heap.size := hbel.size
  clear c_q_s0 c_q_s1 c_q_s2 c_q_s3 c_q_n0 c_q_n1 c_q_n2 c_q_n3 c_q_t0 c_q_t1 c_q_t2 c_q_t3 c_q_a0 c_q_a1 c_q_a2 c_q_a3
  obtain ⟨q_s, q_o, O_s, O_o, O_n, q_n, q_t, P_a, q_a, hB⟩ := HQ.out
  clear HQ
  clear P_a
  replace q_s := q_s.out hbel.size hfr (by omega)
  replace q_o := q_o.out hbel.size hfr (by omega)
  replace O_s := O_s.out hbel.size hfr (by omega)
  replace O_o := O_o.out hbel.size hfr (by omega)
  replace O_n := O_n.out hbel.size hfr (by omega)
  replace q_n := q_n.out hbel.size hfr (by omega)
  replace q_t := q_t.out hbel.size hfr (by omega)
  replace q_a := q_a.out hbel.size hfr (by omega)
  replace hB := hB.outB hbel (by omega)
  have HQ := Lib.hid (And.intro q_s (And.intro q_o (And.intro O_s (And.intro O_o (And.intro O_n (And.intro q_n (And.intro q_t (And.intro q_a hB))))))))
  clear q_s q_o O_s O_o O_n q_n q_t q_a hB
  clear hbel hfr
  have c_q_s0 := LK.cell HQ.out.1 0
  have c_q_s1 := LK.cell HQ.out.1 1
  have c_q_s2 := LK.cell HQ.out.1 2
  have c_q_s3 := LK.cell HQ.out.1 3
  have c_q_n0 := LK.cell HQ.out.2.2.2.2.2.1 0
  have c_q_n1 := LK.cell HQ.out.2.2.2.2.2.1 1
  have c_q_n2 := LK.cell HQ.out.2.2.2.2.2.1 2
  have c_q_n3 := LK.cell HQ.out.2.2.2.2.2.1 3
  have c_q_t0 := LK.cell HQ.out.2.2.2.2.2.2.1 0
  have c_q_t1 := LK.cell HQ.out.2.2.2.2.2.2.1 1
  have c_q_t2 := LK.cell HQ.out.2.2.2.2.2.2.1 2
  have c_q_t3 := LK.cell HQ.out.2.2.2.2.2.2.1 3
  have c_q_a0 := LK.cell HQ.out.2.2.2.2.2.2.2.1 0
  have c_q_a1 := LK.cell HQ.out.2.2.2.2.2.2.2.1 1
  have c_q_a2 := LK.cell HQ.out.2.2.2.2.2.2.2.1 2
  have c_q_a3 := LK.cell HQ.out.2.2.2.2.2.2.2.1 3
  simp at c_q_s0 c_q_s1 c_q_s2 c_q_s3 c_q_n0 c_q_n1 c_q_n2 c_q_n3 c_q_t0 c_q_t1 c_q_t2 c_q_t3 c_q_a0 c_q_a1 c_q_a2 c_q_a3
  go_wp2_with fail
  refine (HC.out.2.2.2.2.2.2.2.2.2.2.2.2.2.2.2.2.2.2.2.2 _ _ _ _ _ HQ.out.2.2.2.2.1.v HSM.out.few).mono ?_
  rintro e w23 ⟨b9, u9, x9, y9, rfl, hm⟩
  clear c_q_s0 c_q_s1 c_q_s2 c_q_s3 c_q_n0 c_q_n1 c_q_n2 c_q_n3 c_q_t0 c_q_t1 c_q_t2 c_q_t3 c_q_a0 c_q_a1 c_q_a2 c_q_a3
  obtain ⟨q_s, q_o, O_s, O_o, O_n, q_n, q_t, q_a, hB⟩ := HQ.out
  clear HQ
  have P_r := LP.of hm
  have hst := hm.below
  obtain ⟨ab_r, cb_r, rfl, -, -, -, -⟩ := hm.store.v.1.1
  obtain ⟨au_r, cu_r, rfl, -, -, -, -⟩ := hm.store.v.1.2
  obtain ⟨ax_r, cx_r, rfl, -, -⟩ := hm.store.v.2.1.form rfl
  obtain ⟨ay_r, cy_r, rfl, -, -⟩ := hm.store.v.2.2.form rfl
  clear hm
  have sz_w23 : wsb.heap.size ≤ w23.heap.size := hst.size
  replace q_s := q_s.step hst
  replace q_o := q_o.step hst
  replace O_s := O_s.step hst
  replace O_o := O_o.step hst
  replace O_n := O_n.step hst
  replace q_n := q_n.step hst
  replace q_t := q_t.step hst
  replace q_a := q_a.step hst
  replace hB := hB.step hst
  clear hst
  have HQ := Lib.hid (And.intro q_s (And.intro q_o (And.intro O_s (And.intro O_o (And.intro O_n (And.intro q_n (And.intro q_t (And.intro q_a (And.intro P_r hB)))))))))
  clear q_s q_o O_s O_o O_n q_n q_t q_a P_r hB
  have c_q_s0 := LK.cell HQ.out.1 0
  have c_q_s1 := LK.cell HQ.out.1 1
  have c_q_s2 := LK.cell HQ.out.1 2
  have c_q_s3 := LK.cell HQ.out.1 3
  have c_q_n0 := LK.cell HQ.out.2.2.2.2.2.1 0
  have c_q_n1 := LK.cell HQ.out.2.2.2.2.2.1 1
  have c_q_n2 := LK.cell HQ.out.2.2.2.2.2.1 2
  have c_q_n3 := LK.cell HQ.out.2.2.2.2.2.1 3
  have c_q_t0 := LK.cell HQ.out.2.2.2.2.2.2.1 0
  have c_q_t1 := LK.cell HQ.out.2.2.2.2.2.2.1 1
  have c_q_t2 := LK.cell HQ.out.2.2.2.2.2.2.1 2
  have c_q_t3 := LK.cell HQ.out.2.2.2.2.2.2.1 3
  have c_q_a0 := LK.cell HQ.out.2.2.2.2.2.2.2.1 0
  have c_q_a1 := LK.cell HQ.out.2.2.2.2.2.2.2.1 1
  have c_q_a2 := LK.cell HQ.out.2.2.2.2.2.2.2.1 2
  have c_q_a3 := LK.cell HQ.out.2.2.2.2.2.2.2.1 3
  simp at c_q_s0 c_q_s1 c_q_s2 c_q_s3 c_q_n0 c_q_n1 c_q_n2 c_q_n3 c_q_t0 c_q_t1 c_q_t2 c_q_t3 c_q_a0 c_q_a1 c_q_a2 c_q_a3
  go_wp2_with fail
  refine (spoil8_any _ _ _ _ _ _ _ _ _ wsb.heap.size w23.heap.size (by omega) (by omega) HQ.out.2.2.2.2.2.2.2.2.1.sp).mono ?_
  rintro e wsc ⟨⟨ve, rfl⟩, hbel, hfr⟩
  have sz_wsc : w23.heap.size ≤ wsc.heap.size := hbel.size
  clear c_q_s0 c_q_s1 c_q_s2 c_q_s3 c_q_n0 c_q_n1 c_q_n2 c_q_n3 c_q_t0 c_q_t1 c_q_t2 c_q_t3 c_q_a0 c_q_a1 c_q_a2 c_q_a3
  obtain ⟨q_s, q_o, O_s, O_o, O_n, q_n, q_t, q_a, P_r, hB⟩ := HQ.out
  clear HQ
  clear P_r
  replace q_s := q_s.out hbel.size hfr (by omega)
  replace q_o := q_o.out hbel.size hfr (by omega)
  replace O_s := O_s.out hbel.size hfr (by omega)
  replace O_o := O_o.out hbel.size hfr (by omega)
  replace O_n := O_n.out hbel.size hfr (by omega)
  replace q_n := q_n.out hbel.size hfr (by omega)
  replace q_t := q_t.out hbel.size hfr (by omega)
  replace q_a := q_a.out hbel.size hfr (by omega)
  replace hB := hB.outB hbel (by omega)
  have HQ := Lib.hid (And.intro q_s (And.intro q_o (And.intro O_s (And.intro O_o (And.intro O_n (And.intro q_n (And.intro q_t (And.intro q_a hB))))))))
  clear q_s q_o O_s O_o O_n q_n q_t q_a hB
  clear hbel hfr
  have c_q_s0 := LK.cell HQ.out.1 0
  have c_q_s1 := LK.cell HQ.out.1 1
  have c_q_s2 := LK.cell HQ.out.1 2
  have c_q_s3 := LK.cell HQ.out.1 3
  have c_q_n0 := LK.cell HQ.out.2.2.2.2.2.1 0
  have c_q_n1 := LK.cell HQ.out.2.2.2.2.2.1 1
  have c_q_n2 := LK.cell HQ.out.2.2.2.2.2.1 2
  have c_q_n3 := LK.cell HQ.out.2.2.2.2.2.1 3
  have c_q_t0 := LK.cell HQ.out.2.2.2.2.2.2.1 0
  have c_q_t1 := LK.cell HQ.out.2.2.2.2.2.2.1 1
  have c_q_t2 := LK.cell HQ.out.2.2.2.2.2.2.1 2
  have c_q_t3 := LK.cell HQ.out.2.2.2.2.2.2.1 3
  have c_q_a0 := LK.cell HQ.out.2.2.2.2.2.2.2.1 0
  have c_q_a1 := LK.cell HQ.out.2.2.2.2.2.2.2.1 1
  have c_q_a2 := LK.cell HQ.out.2.2.2.2.2.2.2.1 2
  have c_q_a3 := LK.cell HQ.out.2.2.2.2.2.2.2.1 3
  simp at c_q_s0 c_q_s1 c_q_s2 c_q_s3 c_q_n0 c_q_n1 c_q_n2 c_q_n3 c_q_t0 c_q_t1 c_q_t2 c_q_t3 c_q_a0 c_q_a1 c_q_a2 c_q_a3
  go_wp2_with fail
  refine (HC.out.2.2.2.2.2.2.2.2.2.2.2.2.1 s _ _ _ _ _ _ _ _ _ HQ.out.2.2.2.2.1.v HQ.out.2.2.1.v).mono ?_
  rintro e w24 ⟨rfl, hst⟩
  clear c_q_s0 c_q_s1 c_q_s2 c_q_s3 c_q_n0 c_q_n1 c_q_n2 c_q_n3 c_q_t0 c_q_t1 c_q_t2 c_q_t3 c_q_a0 c_q_a1 c_q_a2 c_q_a3
  obtain ⟨q_s, q_o, O_s, O_o, O_n, q_n, q_t, q_a, hB⟩ := HQ.out
  clear HQ
  have sz_w24 : wsc.heap.size ≤ w24.heap.size := hst.size
  replace q_s := q_s.step hst
  replace q_o := q_o.step hst
  replace O_s := O_s.step hst
  replace O_o := O_o.step hst
  replace O_n := O_n.step hst
  replace q_n := q_n.step hst
  replace q_t := q_t.step hst
  replace q_a := q_a.step hst
  replace hB := hB.step hst
  clear hst
  have HQ := Lib.hid (And.intro q_s (And.intro q_o (And.intro O_s (And.intro O_o (And.intro O_n (And.intro q_n (And.intro q_t (And.intro q_a hB))))))))
  clear q_s q_o O_s O_o O_n q_n q_t q_a hB
  have c_q_s0 := LK.cell HQ.out.1 0
  have c_q_s1 := LK.cell HQ.out.1 1
  have c_q_s2 := LK.cell HQ.out.1 2
  have c_q_s3 := LK.cell HQ.out.1 3
  have c_q_n0 := LK.cell HQ.out.2.2.2.2.2.1 0
  have c_q_n1 := LK.cell HQ.out.2.2.2.2.2.1 1
  have c_q_n2 := LK.cell HQ.out.2.2.2.2.2.1 2
  have c_q_n3 := LK.cell HQ.out.2.2.2.2.2.1 3
  have c_q_t0 := LK.cell HQ.out.2.2.2.2.2.2.1 0
  have c_q_t1 := LK.cell HQ.out.2.2.2.2.2.2.1 1
  have c_q_t2 := LK.cell HQ.out.2.2.2.2.2.2.1 2
  have c_q_t3 := LK.cell HQ.out.2.2.2.2.2.2.1 3
  have c_q_a0 := LK.cell HQ.out.2.2.2.2.2.2.2.1 0
  have c_q_a1 := LK.cell HQ.out.2.2.2.2.2.2.2.1 1
  have c_q_a2 := LK.cell HQ.out.2.2.2.2.2.2.2.1 2
  have c_q_a3 := LK.cell HQ.out.2.2.2.2.2.2.2.1 3
  simp at c_q_s0 c_q_s1 c_q_s2 c_q_s3 c_q_n0 c_q_n1 c_q_n2 c_q_n3 c_q_t0 c_q_t1 c_q_t2 c_q_t3 c_q_a0 c_q_a1 c_q_a2 c_q_a3
  go_wp2
  go_ret
  exact ⟨rfl, HQ.out.2.2.2.2.2.2.2.2⟩

end Go.Proofs.Ytkfgegdnpinbdaa

