/- DropLeaves: the words and contracts, part 20. -/
import Derived.Test.YtbddbadmfhplmaaDropLeavesQ1
import Derived.Test.YtbddbadmfhplmaaDropLeavesQ2
import Derived.Test.YtbddbadmfhplmaaDropLeavesQ3
import Derived.Test.YtbddbadmfhplmaaDropLeavesQ4
import Derived.Test.YtbddbadmfhplmaaDropLeavesQ5
import Derived.Test.YtbddbadmfhplmaaDropLeavesQ6
import Derived.Test.YtbddbadmfhplmaaDropLeavesQ7
import Derived.Test.YtbddbadmfhplmaaDropLeavesQ8
import Derived.Test.YtbddbadmfhplmaaDropLeavesQ9
import Derived.Test.YtbddbadmfhplmaaDropLeavesQ10
import Derived.Test.YtbddbadmfhplmaaDropLeavesQ11
import Derived.Test.YtbddbadmfhplmaaDropLeavesQ12
import Derived.Test.YtbddbadmfhplmaaDropLeavesQ13
import Derived.Test.YtbddbadmfhplmaaDropLeavesQ14
import Derived.Test.YtbddbadmfhplmaaDropLeavesQ15
import Derived.Test.YtbddbadmfhplmaaDropLeavesQ16
import Derived.Test.YtbddbadmfhplmaaDropLeavesQ17
import Derived.Test.YtbddbadmfhplmaaDropLeavesQ18
import Derived.Test.YtbddbadmfhplmaaDropLeavesQ19
import Derived.Test.YtbddbadmfhplmaaChecked
import Derived.WalkKit
import Derived.WalkLawsBesides
import Derived.WalkSpells
import Derived.Lib.Hide
import Derived.Laws.Rows
import Derived.Laws.AppendOwnNone
import Derived.Maps.AppendAt
import Derived.ProofKit
import Derived.Deep.Slices
import Derived.WideShapes
import Derived.RangeFuncNested
import Derived.RangeFuncBound
import Derived.RangeFuncCalls
import Derived.RangeFuncLeaves
import Derived.RangeFuncBox
import Derived.Shelf.Abstract
import Derived.Shelf.RegionOpen
import Derived.OwnWalkIn
import Derived.TacticsInMore
import Derived.LoopNIn
import Derived.LoopIn
import Derived.Lib.AppendZerosOnto
import Derived.Lib.SliceRun
import Derived.Lib.Walk
import Derived.Deep.LoopGhost
import Derived.Laws.CopyOwn
import Derived.Laws.CopyRow
import Derived.OrdersHeld
import Derived.Deep.QuietTactic
import Derived.BigQuiet
import Derived.StillTailTactics
import Derived.OpenShut
import Derived.Deep.DeepCutAuto
import Derived.Laws.MakeOwn
import Derived.Deep.RegionHeld
import Derived.KernelRfl
import Derived.BigFrameIn
import Derived.OrdersIn
import Derived.Sort.CutIn
import Derived.ArgAppend
import Derived.ShutString
import Derived.ChangeOld
import Derived.Below
namespace Go.Proofs.Ytbddbadmfhplmaa
open Go.RowKit

theorem left_law {s : StoreL} {p : Int} (h : errLv s p = 0) : ∃ (pn z y : Nat), p = pn ∧ 8 ≤ pn ∧ pn < 256 ∧ y < z ∧ s.now.length = 256 ∧ (leftS s p).now.length = 256 ∧ (leftS s p).disk = s.disk ∧ (leftS s p).last = s.last ∧
    (s.now.getD pn 0).toNat = z ∧ ((leftS s p).now.getD pn 0).toNat = y ∧ (1 < z → y + 1 = z ∧ ∀ j, j ≠ pn → (leftS s p).now.getD j 0 = s.now.getD j 0) ∧ ∀ j, ((leftS s p).now.getD j 0).toNat ≤ (s.now.getD j 0).toNat := by
  obtain ⟨h1, h2, h3, h4, now', h5, h6, h7, h8⟩ := left_is h
  obtain ⟨pn, rfl⟩ : ∃ pn : Nat, p = pn := ⟨p.toNat, by omega⟩
  rw [Int.toNat_natCast] at h5
  obtain ⟨g1, g2⟩ := lvS_first h5
  have h256 := mayT_len (mayS_iff.1 h2).2.1
  rw [h6]
  refine ⟨pn, _, _, rfl, by omega, by omega, g1, h256, h7.len.trans h256, rfl, rfl, rfl, rfl, fun hz => ?_, h7.le⟩
  have e := g2 hz
  subst e
  have hp : s.now.getD pn 0 ≠ 0 := fun e => by rw [e] at hz; have : (0 : UInt8).toNat = 0 := rfl; omega
  refine ⟨?_, fun j hj => bget_set_ne _ _ _ _ (fun e => hj e.symm)⟩
  rw [cgetD_set_self _ _ _ (by omega), u8_down hp]
  omega

set_option maxRecDepth 100000 in
set_option maxHeartbeats 2000000 in
theorem dropLeaves_walk (b_s u_s x_s y_s : Value) (s : StoreL) (p : Int) (w : World) (h_s : StoreV w 0 w.heap.size b_s u_s x_s y_s s) (_wp : (Lit.int .i64 p).wf = true) :
    Calls Try.prog 10 #[.agg #[b_s, u_s, x_s, y_s], .int .i64 p] w fun e w' => e = .returned (.bool true) ∧ Below w.heap.size w w' := by
  obtain ⟨ab_s, cb_s, rfl, gb_s, gc_s, -, -⟩ := h_s.1.1
  obtain ⟨au_s, cu_s, rfl, gu_s, gv_s, -, -⟩ := h_s.1.2
  obtain ⟨ax_s, cx_s, rfl, gx_s, gz_s⟩ := h_s.2.1.form rfl
  obtain ⟨ay_s, cy_s, rfl, gy_s, gw_s⟩ := h_s.2.2.form rfl
  unfold maxLen at gc_s gv_s gz_s gw_s
  have hst := ((Below.refl w.heap.size w).alloc (Nat.le_refl _) (.cells #[.slice ab_s s.disk.blocks.length cb_s, .slice au_s s.disk.waits.length cu_s, .slice ax_s s.now.length cx_s, .slice ay_s s.last.length cy_s] 28))
  have q_s := LK.new w (.cells #[.slice ab_s s.disk.blocks.length cb_s, .slice au_s s.disk.waits.length cu_s, .slice ax_s s.now.length cx_s, .slice ay_s s.last.length cy_s] 28)
  have hB : LW w _ := hst
  have O_s := (LO.of h_s (Nat.le_refl _)).step hst
  have sz_V : w.heap.size + 0 < (w.alloc (.cells #[.slice ab_s s.disk.blocks.length cb_s, .slice au_s s.disk.waits.length cu_s, .slice ax_s s.now.length cx_s, .slice ay_s s.last.length cy_s] 28)).heap.size := by simp
  obtain ⟨V, hV⟩ : ∃ V, (w.alloc (.cells #[.slice ab_s s.disk.blocks.length cb_s, .slice au_s s.disk.waits.length cu_s, .slice ax_s s.now.length cx_s, .slice ay_s s.last.length cy_s] 28)) = V := ⟨_, rfl⟩
  rw [hV] at sz_V q_s O_s hB
  clear hst h_s
  have HQ := Lib.hid (And.intro q_s (And.intro O_s hB))
  clear q_s O_s hB
  have c_q_s0 := LK.cell HQ.out.1 0
  have c_q_s1 := LK.cell HQ.out.1 1
  have c_q_s2 := LK.cell HQ.out.1 2
  have c_q_s3 := LK.cell HQ.out.1 3
  simp at c_q_s0 c_q_s1 c_q_s2 c_q_s3
  have hyes := left_law (s := s) (p := p)
  have hno : errLv s p ≠ 0 → leftS s p = noS := fun h => by unfold leftS; rw [if_neg h]
  have k_g := fun V b u x y hh => great8_any b u x y s V hh
  have k_s := fun V b u x y hh => dleave_any b u x y s p V hh
  obtain ⟨es, hes⟩ : ∃ e, errLv s p = e := ⟨_, rfl⟩
  obtain ⟨T, hT⟩ : ∃ T, leftS s p = T := ⟨_, rfl⟩
  rw [hes, hT] at hno hyes k_s
  have k_d := fun V b u b2 u2 h1 h2 => dsame_any b u b2 u2 s.disk T.disk V h1 h2
  have HN := Lib.hid (And.intro hno hyes)
  clear hno hyes hes hT
  have HC := Lib.hid (And.intro k_g (And.intro k_s k_d))
  clear k_g k_s k_d
  go_enter Try.func10, Try.ntmps10
  go_upto_region 1 with (fail)
  clear hV
  go_wp2_with fail
  refine (alive9 V).mono ?_
  rintro e w1 ⟨rfl, hst⟩
  clear c_q_s0 c_q_s1 c_q_s2 c_q_s3
  obtain ⟨q_s, O_s, hB⟩ := HQ.out
  clear HQ
  have sz_w1 : V.heap.size ≤ w1.heap.size := hst.size
  replace q_s := q_s.step hst
  replace O_s := O_s.step hst
  replace hB := hB.step hst
  clear hst
  have HQ := Lib.hid (And.intro q_s (And.intro O_s hB))
  clear q_s O_s hB
  have c_q_s0 := LK.cell HQ.out.1 0
  have c_q_s1 := LK.cell HQ.out.1 1
  have c_q_s2 := LK.cell HQ.out.1 2
  have c_q_s3 := LK.cell HQ.out.1 3
  simp at c_q_s0 c_q_s1 c_q_s2 c_q_s3
  go_wp2_with fail
  refine (HC.out.1 _ _ _ _ _ HQ.out.2.1.v).mono ?_
  rintro e w2 ⟨g, rfl, hst, -⟩
  clear c_q_s0 c_q_s1 c_q_s2 c_q_s3
  obtain ⟨q_s, O_s, hB⟩ := HQ.out
  clear HQ
  have sz_w2 : w1.heap.size ≤ w2.heap.size := hst.size
  replace q_s := q_s.step hst
  replace O_s := O_s.step hst
  replace hB := hB.step hst
  clear hst
  have HQ := Lib.hid (And.intro q_s (And.intro O_s hB))
  clear q_s O_s hB
  have c_q_s0 := LK.cell HQ.out.1 0
  have c_q_s1 := LK.cell HQ.out.1 1
  have c_q_s2 := LK.cell HQ.out.1 2
  have c_q_s3 := LK.cell HQ.out.1 3
  simp at c_q_s0 c_q_s1 c_q_s2 c_q_s3
  cases g
  case true =>
    go_wp2
    go_ret
    exact ⟨rfl, HQ.out.2.2⟩
  go_wp2_with fail
  refine (HC.out.2.1 _ _ _ _ _ HQ.out.2.1.v).mono ?_
  rintro e w3 ⟨b1, u1, x1, y1, rfl, hm⟩
  clear c_q_s0 c_q_s1 c_q_s2 c_q_s3
  obtain ⟨q_s, O_s, hB⟩ := HQ.out
  clear HQ
  have P_t := LP.of hm
  have hst := hm.below
  obtain ⟨ab_t, cb_t, rfl, -, -, -, -⟩ := hm.store.v.1.1
  obtain ⟨au_t, cu_t, rfl, -, -, -, -⟩ := hm.store.v.1.2
  obtain ⟨ax_t, cx_t, rfl, -, -⟩ := hm.store.v.2.1.form rfl
  obtain ⟨ay_t, cy_t, rfl, -, -⟩ := hm.store.v.2.2.form rfl
  clear hm
  have sz_w3 : w2.heap.size ≤ w3.heap.size := hst.size
  replace q_s := q_s.step hst
  replace O_s := O_s.step hst
  replace hB := hB.step hst
  clear hst
  have HQ := Lib.hid (And.intro q_s (And.intro O_s (And.intro P_t hB)))
  clear q_s O_s P_t hB
  have c_q_s0 := LK.cell HQ.out.1 0
  have c_q_s1 := LK.cell HQ.out.1 1
  have c_q_s2 := LK.cell HQ.out.1 2
  have c_q_s3 := LK.cell HQ.out.1 3
  simp at c_q_s0 c_q_s1 c_q_s2 c_q_s3
  go_upto_region 7 with (fail)
  clear c_q_s0 c_q_s1 c_q_s2 c_q_s3
  obtain ⟨q_s, O_s, P_t, hB⟩ := HQ.out
  clear HQ
  have hst := (Below.refl w3.heap.size w3).alloc (Nat.le_refl _) (.cells #[.slice ab_t T.disk.blocks.length cb_t, .slice au_t T.disk.waits.length cu_t, .slice ax_t T.now.length cx_t, .slice ay_t T.last.length cy_t] 28)
  have hlt : w3.heap.size < (w3.alloc (.cells #[.slice ab_t T.disk.blocks.length cb_t, .slice au_t T.disk.waits.length cu_t, .slice ax_t T.now.length cx_t, .slice ay_t T.last.length cy_t] 28)).heap.size := by simp
  have q_t := LK.new w3 (.cells #[.slice ab_t T.disk.blocks.length cb_t, .slice au_t T.disk.waits.length cu_t, .slice ax_t T.now.length cx_t, .slice ay_t T.last.length cy_t] 28)
  replace q_s := q_s.step hst
  replace O_s := O_s.step hst
  replace P_t := P_t.step hst
  replace hB := hB.step hst
  obtain ⟨w4, hw⟩ : ∃ v, w3.alloc (.cells #[.slice ab_t T.disk.blocks.length cb_t, .slice au_t T.disk.waits.length cu_t, .slice ax_t T.now.length cx_t, .slice ay_t T.last.length cy_t] 28) = v := ⟨_, rfl⟩
  rw [hw] at hlt q_t q_s O_s P_t hB ⊢
  clear hw hst
  have sz_w4 := hlt
  clear hlt
  have HQ := Lib.hid (And.intro q_s (And.intro O_s (And.intro P_t (And.intro q_t hB))))
  clear q_s O_s P_t q_t hB
  have c_q_s0 := LK.cell HQ.out.1 0
  have c_q_s1 := LK.cell HQ.out.1 1
  have c_q_s2 := LK.cell HQ.out.1 2
  have c_q_s3 := LK.cell HQ.out.1 3
  have c_q_t0 := LK.cell HQ.out.2.2.2.1 0
  have c_q_t1 := LK.cell HQ.out.2.2.2.1 1
  have c_q_t2 := LK.cell HQ.out.2.2.2.1 2
  have c_q_t3 := LK.cell HQ.out.2.2.2.1 3
  simp at c_q_s0 c_q_s1 c_q_s2 c_q_s3 c_q_t0 c_q_t1 c_q_t2 c_q_t3
  by_cases hz : es = 0
  case neg =>
    have hT := HN.out.1 hz
    subst hT
    have i1 : (es != 0) = true := by simp [hz]
    have hl0 : noS.now.length = 0 := rfl
    go_wp2
    go_ret
    exact ⟨rfl, HQ.out.2.2.2.2⟩
  subst hz
  obtain ⟨pn, z, y, rfl, h8, h9, hyz, hsl, htl, htd, htt, hsz, htz, hone, hle⟩ := HN.out.2 rfl
  clear HN
  obtain ⟨nb, no, nc, e1, -, zb, z1, zc, hcs⟩ := HQ.out.2.1.n.at_n hsl (by omega)
  injection e1 with e1 el e2
  subst e1 e2
  clear el
  obtain ⟨tb, tf, tc, e1, -, zd, z2, ze, hct⟩ := HQ.out.2.2.1.n.at_n htl (by omega)
  injection e1 with e1 el e2
  subst e1 e2
  clear el
  unfold maxLen at zc ze
  clear c_q_s0 c_q_s1 c_q_s2 c_q_s3 c_q_t0 c_q_t1 c_q_t2 c_q_t3
  have a0 := fun X => LK.cell (HQ.out.1.step (aft_below w4 X)) 0
  have a1 := fun X => LK.cell (HQ.out.1.step (aft_below w4 X)) 1
  have a2 := fun X => LK.cell (HQ.out.1.step (aft_below w4 X)) 2
  have a3 := fun X => LK.cell (HQ.out.1.step (aft_below w4 X)) 3
  have b0 := fun X => LK.cell (HQ.out.2.2.2.1.step (aft_below w4 X)) 0
  have b1 := fun X => LK.cell (HQ.out.2.2.2.1.step (aft_below w4 X)) 1
  have b2 := fun X => LK.cell (HQ.out.2.2.2.1.step (aft_below w4 X)) 2
  have b3 := fun X => LK.cell (HQ.out.2.2.2.1.step (aft_below w4 X)) 3
  simp at a0 a1 a2 a3 b0 b1 b2 b3
  simp only [hsl] at a2
  simp only [htl] at b2
  have f1 := fun X => ((aft_below w4 X).cell (p := ⟨nb, no + pn, none⟩) zb).trans (hcs pn (s.now.getD pn 0) (get_l _ _ _ (by omega)))
  have f2 := fun X => ((aft_below w4 X).cell (p := ⟨tb, tf + pn, none⟩) zd).trans (hct pn (T.now.getD pn 0) (get_l _ _ _ (by omega)))
  simp only [bV, hsz, htz] at f1 f2
  have x1 := fun X => cv_of (HQ.out.2.1.step (aft_below w4 X)).l
  have x2 := fun X => cv_of (HQ.out.2.2.1.step (aft_below w4 X)).l
  simp only [htt] at x2 b3
  have hd : decide (s.disk = T.disk) = true := by simp [htd]
  have kd := HC.out.2.2
  rw [hd] at kd
  have KD := Lib.hid kd
  have HS := Lib.hid (And.intro hcs (And.intro hct (And.intro hone (And.intro hle (And.intro hsl htl)))))
  clear hcs hct hone hle hsl htl htd htt hd kd
  have i1 : ¬ (pn : Int) < 8 := by omega
  have i2 : ¬ (255 : Int) < pn := by omega
  have i3 : ¬ (256 : Int) ≤ pn := by omega
  have i4 : ¬ (z : Int) ≤ y := by omega
  go_upto_region 9 with (fail)
  refine wp_region_held_drew (S := Cls w4) (by kernel_rfl) (Cls.drew w4) (fun hCl => ?_)
  refine wpAnyH_seg (fuel := 25) (by kernel_rfl) (fun _ d _ _ _ h => by cases d <;> exact h) hCl [0, 1, 2, 3, 4, 5, 6, 7, 8, 9, 10] _ _ _ (by kernel_rfl) (by kernel_rfl) ?_
  simp only [opsOf_cons, opsOf_nil, consOp_some, List.getElem?_toArray, List.getElem?_cons_succ, List.getElem?_cons_zero]
  repeat (first | go_big_quiet_step (fail) | quiet_step (fail))
  refine wpQuiet_nil ?_
  refine wpAnyH_each (fuel := 24) [11] (by kernel_rfl) (by simp) (by kernel_rfl) ?_
  refine Each.cons _ rfl (fun K' hK => ?_) Each.nil
  go_simp
  refine (KD.out _ _ _ _ _ (HQ.out.2.1.step hCl.below).d (HQ.out.2.2.1.step hCl.below).d).mono ?_
  rintro e z1 ⟨rfl, hb⟩
  have hst := below_step hCl.below hCl.below.size hb
  clear hb
  have hCl := Cls.of hst
  refine hK.out (Cls w4) (fun _ h => h) hCl ?_
  clear hK K'
  refine wpAnyH_seg (fuel := 0) (by kernel_rfl) (fun _ d _ _ _ h => by cases d <;> exact h) hCl [12, 13, 14, 15, 16, 17, 18, 19, 20, 21, 22, 23, 24, 25, 26, 27, 28, 29, 30, 31, 32, 33, 34, 35] _ _ _ (by kernel_rfl) (by kernel_rfl) ?_
  simp only [opsOf_cons, opsOf_nil, consOp_some, List.getElem?_toArray, List.getElem?_cons_succ, List.getElem?_cons_zero]
  repeat (first | go_big_quiet_step (fail) | quiet_step (fail))
  refine wpQuiet_nil ?_
  refine wpAnyH_done (by kernel_rfl) ?_ _
  have zb2 : nb < w4.heap.size := by omega
  have zd2 : tb < w4.heap.size := by omega
  have hcs2 := fun i x hx => (hst.cell (p := ⟨nb, no + i, none⟩) zb2).trans (HS.out.1 i x hx)
  have hct2 := fun i x hx => (hst.cell (p := ⟨tb, tf + i, none⟩) zd2).trans (HS.out.2.1 i x hx)
  have HC2 := Lib.hid (And.intro hcs2 hct2)
  have f1b := (hst.cell (p := ⟨nb, no + pn, none⟩) zb2).trans (HS.out.1 pn (s.now.getD pn 0) (get_l _ _ _ (by have := HS.out.2.2.2.2.1; omega)))
  have f2b := (hst.cell (p := ⟨tb, tf + pn, none⟩) zd2).trans (HS.out.2.1 pn (T.now.getD pn 0) (get_l _ _ _ (by have := HS.out.2.2.2.2.2; omega)))
  simp only [bV, hsz, htz] at f1b f2b
  have HSZ := Lib.hid (And.intro hsz htz)
  have HF := Lib.hid (And.intro f1b f2b)
  clear hcs2 hct2 a0 a1 a2 a3 b0 b1 b2 b3 f1 f2 x1 x2 i1 i2 i3 i4 f1b f2b hsz htz
  obtain ⟨q_s, O_s, P_t, q_t, hB⟩ := HQ.out
  clear HQ
  have sz_z1 : w4.heap.size ≤ z1.heap.size := hst.size
  replace q_s := q_s.step hst
  replace O_s := O_s.step hst
  replace P_t := P_t.step hst
  replace q_t := q_t.step hst
  replace hB := hB.step hst
  clear hst
  have HQ := Lib.hid (And.intro q_s (And.intro O_s (And.intro P_t (And.intro q_t hB))))
  clear q_s O_s P_t q_t hB
  have c_q_s0 := LK.cell HQ.out.1 0
  have c_q_s1 := LK.cell HQ.out.1 1
  have c_q_s2 := LK.cell HQ.out.1 2
  have c_q_s3 := LK.cell HQ.out.1 3
  have c_q_t0 := LK.cell HQ.out.2.2.2.1 0
  have c_q_t1 := LK.cell HQ.out.2.2.2.1 1
  have c_q_t2 := LK.cell HQ.out.2.2.2.1 2
  have c_q_t3 := LK.cell HQ.out.2.2.2.1 3
  simp at c_q_s0 c_q_s1 c_q_s2 c_q_s3 c_q_t0 c_q_t1 c_q_t2 c_q_t3
  clear c_q_s0 c_q_s1 c_q_s2 c_q_s3 c_q_t0 c_q_t1 c_q_t2 c_q_t3
  go_wp2_with fail
  go_loopw [8] (fun i wr => ∃ j : Nat, j ≤ 256 ∧ i = .int .i64 j ∧ Below z1.heap.size z1 wr) (fun i _ => 256 - (intOf i).toNat)
  case atStart => exact ⟨0, by omega, rfl, Below.refl _ _⟩
  case round =>
  obtain ⟨j, hj, rfl, hBr⟩ := hrel
  have y1 := LK.cell (HQ.out.1.step hBr) 2
  have y2 := LK.cell (HQ.out.2.2.2.1.step hBr) 2
  simp at y1 y2
  rw [HS.out.2.2.2.2.1] at y1
  rw [HS.out.2.2.2.2.2] at y2
  have sz_r := hBr.size
  have f1 := (hBr.cell (p := ⟨nb, no + pn, none⟩) (by show nb < z1.heap.size; omega)).trans HF.out.1
  have f2 := (hBr.cell (p := ⟨tb, tf + pn, none⟩) (by show tb < z1.heap.size; omega)).trans HF.out.2
  have i1 : ¬ (256 : Int) ≤ pn := by omega
  by_cases hlt : j < 256
  · have i2 : ¬ (256 : Int) ≤ j := by omega
    have e1 := (hBr.cell (p := ⟨nb, no + j, none⟩) (by show nb < z1.heap.size; omega)).trans (HC2.out.1 j (s.now.getD j 0) (get_l _ _ _ (by have := HS.out.2.2.2.2.1; omega)))
    have e2 := (hBr.cell (p := ⟨tb, tf + j, none⟩) (by show tb < z1.heap.size; omega)).trans (HC2.out.2 j (T.now.getD j 0) (get_l _ _ _ (by have := HS.out.2.2.2.2.2; omega)))
    have hh : 1 < z → j ≠ pn → T.now.getD j 0 = s.now.getD j 0 := fun h => (HS.out.2.2.1 h).2 j
    have hl := HS.out.2.2.2.1 j
    have hjp : j = pn → (s.now.getD j 0).toNat = z := fun e => by rw [e]; exact HSZ.out.1
    obtain ⟨q1, hq1⟩ : ∃ q, T.now.getD j 0 = q := ⟨_, rfl⟩
    obtain ⟨q2, hq2⟩ : ∃ q, s.now.getD j 0 = q := ⟨_, rfl⟩
    rw [hq2] at e1 hh hl hjp
    rw [hq1] at e2 hh hl
    simp only [bV] at e1 e2
    have i3 : ¬ (q2.toNat : Int) < q1.toNat := by omega
    have i3b : decide ((q2.toNat : Int) < (q1.toNat : Int)) = false := decide_eq_false i3
    clear hq1 hq2 hl f2
    have HBR := Lib.hid hBr
    clear hBr
    by_cases hz1 : 1 < z
    case neg =>
      have i4b : decide ((1 : Int) < (z : Int)) = false := decide_eq_false (by omega)
      have i4 : ¬ (1 : Int) < z := by omega
      clear hh hjp
      generalize (q1.toNat : Int) = a1 at *
      generalize (q2.toNat : Int) = a2 at *
      go_wp2_with fail
      go_quiet (fail)
      go_wp2
      go_roundw
      case rel => exact ⟨j + 1, by omega, by go_num, HBR.out.trans (below_dn _ _ _)⟩
      case measure => simp [intOf]; omega
    have i4 : (1 : Int) < z := by omega
    by_cases he : j = pn
    · subst he
      have hq := hjp rfl
      clear hh hjp
      subst hq
      clear hz1
      generalize (q1.toNat : Int) = a1 at *
      generalize (q2.toNat : Int) = a2 at *
      go_wp2_with fail
      go_quiet (fail)
      go_wp2
      go_roundw
      case rel => exact ⟨j + 1, by omega, by go_num, HBR.out.trans (below_dn _ _ _)⟩
      case measure => simp [intOf]; omega
    · obtain rfl := hh hz1 he
      clear hh hjp
      have i5 : ¬ (j : Int) = pn := by omega
      generalize (q1.toNat : Int) = q3 at *
      go_wp2_with fail
      go_quiet (fail)
      go_wp2
      go_roundw
      case rel => exact ⟨j + 1, by omega, by go_num, HBR.out.trans (below_dn _ _ _)⟩
      case measure => simp [intOf]; omega
  obtain rfl : j = 256 := by omega
  have hone := HS.out.2.2.1
  have HBf := Lib.hid (LW.step HQ.out.2.2.2.2 hBr)
  by_cases hz1 : z = 1
  · subst hz1
    have z1c : ((1 : Nat) : Int) = 1 := rfl
    rw [z1c] at f1
    clear hone
    go_wp2_with fail
    go_quiet (fail)
    go_wp2
    go_ret
    exact ⟨rfl, LW.step HBf.out (below_dn _ _ _)⟩
  · have hzl : z < 256 := by rw [← HSZ.out.1]; exact UInt8.toNat_lt _
    have w1 : IntKind.i64.wrap ((z : Int) - 1) = (z : Int) - 1 := IntWalk.i64_in _ (by omega)
    have w2 : IntKind.i64.wrap (z : Int) = (z : Int) := IntWalk.i64_in _ (by omega)
    have hy := (hone (by omega)).1
    have i4 : ¬ (z : Int) = 1 := by omega
    have i5 : (y : Int) = z - 1 := by omega
    clear hone
    go_wp2_with fail
    go_quiet (fail)
    go_wp2
    go_ret
    exact ⟨rfl, LW.step HBf.out (below_dn _ _ _)⟩

end Go.Proofs.Ytbddbadmfhplmaa

namespace Go.Proofs.Ytbddbadmfhplmaa
open Go.ChangeShapes Go.WideShapes Go.ChangeAt Go.RowKit

theorem own_ : ownKnob Try.prog.godebug = none := by kernel_rfl
theorem laidOut_ : laidOutB Try.prog = true := by kernel_rfl

end Go.Proofs.Ytbddbadmfhplmaa

namespace Go.Proofs.Ytbddbadmfhplmaa
open Go.ChangeShapes Go.WideShapes Go.ChangeAt Go.RowKit

section
variable {H : Type} {enc : TypeId × Value → H} {W : World} {r : Reach} {base : Nat} {spare : Nat → Bool} {held : Bool} {v : Value} {d : DataW H} {p : List MemPlace}
set_option maxRecDepth 100000 in
theorem arg_store (hv : Value.okWide Try.prog W r base 28 v) (h : DataW.Trod enc Try.prog W 0 spare held 28 v d p) :
    ∃ (s : StoreL) (b u x y : Value), v = .agg #[b, u, x, y] ∧ StoreV W 0 W.heap.size b u x y s := by
  have ht : fieldsOf Try.prog 28 = some [(0, 25), (2, 26), (3, 26)] := by kernel_rfl
  have hd : fieldsOf Try.prog 25 = some [(0, 22), (1, 23)] := by kernel_rfl
  have htw : fieldsOf Try.prog 92 = some [(0, 3), (1, 26)] := by kernel_rfl
  have hcb : Try.prog.cellsOf 26 = 1 := by kernel_rfl
  have hcd : Try.prog.cellsOf 25 = 2 := by kernel_rfl
  have ce : Try.prog.cellsOf 28 = 4 := by kernel_rfl
  obtain ⟨cs, rfl, hsz⟩ := okW_struct ht hv
  obtain ⟨fuel, hf⟩ := h
  obtain ⟨hl, n, hf⟩ := trod_parts ht hf
  obtain ⟨y0, h0⟩ := hf (0, 25) (by simp)
  obtain ⟨y1, h1⟩ := hf (2, 26) (by simp)
  obtain ⟨y2, h2⟩ := hf (3, 26) (by simp)
  dsimp only at h0 h1 h2
  rw [hcb] at h1 h2
  rw [hcd] at h0
  rw [ce] at hsz
  obtain ⟨b, u, x, e0, hD⟩ := open_disk hd Try.underlying22 Try.underlying23 (by kernel_rfl) (by kernel_rfl) htw (by kernel_rfl) Try.underlying3 (by kernel_rfl) (by kernel_rfl) (by kernel_rfl) Try.underlying26 Try.underlying5 (by kernel_rfl) h0
  obtain ⟨v1, l1, e1, B1⟩ := open_bytes Try.underlying26 Try.underlying5 (by kernel_rfl) h1
  obtain ⟨v2, l2, e2, B2⟩ := open_bytes Try.underlying26 Try.underlying5 (by kernel_rfl) h2
  refine ⟨⟨x, l1, l2⟩, b, u, v1, v2, ?_, hD, B1, B2⟩
  congr 1
  apply Array.toList_inj.1
  obtain ⟨cl⟩ := cs
  match cl, hsz with
  | [c0, c1, c2, c3], _ =>
    simp [Value.cells] at e0 e1 e2
    simp [e0, e1, e2]
end
end Go.Proofs.Ytbddbadmfhplmaa

