/- RoomTakes: the words and contracts, part 17. -/
import Derived.Test.YtbddbadmfhplmaaRoomTakesQ1
import Derived.Test.YtbddbadmfhplmaaRoomTakesQ2
import Derived.Test.YtbddbadmfhplmaaRoomTakesQ3
import Derived.Test.YtbddbadmfhplmaaRoomTakesQ4
import Derived.Test.YtbddbadmfhplmaaRoomTakesQ5
import Derived.Test.YtbddbadmfhplmaaRoomTakesQ6
import Derived.Test.YtbddbadmfhplmaaRoomTakesQ7
import Derived.Test.YtbddbadmfhplmaaRoomTakesQ8
import Derived.Test.YtbddbadmfhplmaaRoomTakesQ9
import Derived.Test.YtbddbadmfhplmaaRoomTakesQ10
import Derived.Test.YtbddbadmfhplmaaRoomTakesQ11
import Derived.Test.YtbddbadmfhplmaaRoomTakesQ12
import Derived.Test.YtbddbadmfhplmaaRoomTakesQ13
import Derived.Test.YtbddbadmfhplmaaRoomTakesQ14
import Derived.Test.YtbddbadmfhplmaaRoomTakesQ15
import Derived.Test.YtbddbadmfhplmaaRoomTakesQ16
import Derived.WalkKit
import Derived.WalkLawsBesides
import Derived.WalkSpells
import Derived.Lib.Hide
import Derived.Laws.Rows
import Derived.Laws.AppendOwnNone
import Derived.Maps.AppendAt
import Derived.ProofKit
import Derived.Deep.Slices
import Derived.WideShapes
import Derived.RangeFuncNested
import Derived.RangeFuncBound
import Derived.RangeFuncCalls
import Derived.RangeFuncLeaves
import Derived.RangeFuncBox
import Derived.Shelf.Abstract
import Derived.Shelf.RegionOpen
import Derived.OwnWalkIn
import Derived.TacticsInMore
import Derived.LoopNIn
import Derived.LoopIn
import Derived.Lib.AppendZerosOnto
import Derived.Lib.SliceRun
import Derived.Lib.Walk
import Derived.Deep.LoopGhost
import Derived.Laws.CopyOwn
import Derived.Laws.CopyRow
import Derived.OrdersHeld
import Derived.Deep.QuietTactic
import Derived.BigQuiet
import Derived.StillTailTactics
import Derived.OpenShut
import Derived.Deep.DeepCutAuto
import Derived.Laws.MakeOwn
import Derived.Deep.RegionHeld
import Derived.KernelRfl
import Derived.BigFrameIn
import Derived.OrdersIn
namespace Go.Proofs.Ytbddbadmfhplmaa
open Go.RowKit

set_option maxRecDepth 100000 in
set_option maxHeartbeats 12000000 in
theorem roomTakes_walk (b_s u_s x_s y_s : Value) (s : StoreL) (v_b : Value) (b : List UInt8) (q : Int) (w : World) (h_s : StoreV w 0 w.heap.size b_s u_s x_s y_s s) (h_b : Bytes w 0 w.heap.size v_b b) (_wq : (Lit.int .i64 q).wf = true) :
    Calls Try.prog 3 #[.agg #[b_s, u_s, x_s, y_s], v_b, .int .i64 q] w fun e w' => e = .returned (.bool true) ∧ Below w.heap.size w w' := by
  obtain ⟨ab_s, cb_s, rfl, gb_s, gc_s, -, -⟩ := h_s.1.1
  obtain ⟨au_s, cu_s, rfl, gu_s, gv_s, -, -⟩ := h_s.1.2
  obtain ⟨ax_s, cx_s, rfl, gx_s, gz_s⟩ := h_s.2.1.form rfl
  obtain ⟨ay_s, cy_s, rfl, gy_s, gw_s⟩ := h_s.2.2.form rfl
  unfold maxLen at gc_s gv_s gz_s gw_s
  obtain ⟨a_b, c_b, rfl, g_b, gm_b⟩ := h_b.form rfl
  unfold maxLen at gm_b
  have hst := ((Below.refl w.heap.size w).alloc (Nat.le_refl _) (.cells #[.slice ab_s s.disk.blocks.length cb_s, .slice au_s s.disk.waits.length cu_s, .slice ax_s s.now.length cx_s, .slice ay_s s.last.length cy_s] 28))
  have q_s := LK.new w (.cells #[.slice ab_s s.disk.blocks.length cb_s, .slice au_s s.disk.waits.length cu_s, .slice ax_s s.now.length cx_s, .slice ay_s s.last.length cy_s] 28)
  have hB : LW w _ := hst
  have O_s := (LO.of h_s (Nat.le_refl _)).step hst
  have B_b := (LB.of h_b (Nat.le_refl _)).step hst
  have sz_V : w.heap.size + 0 < (w.alloc (.cells #[.slice ab_s s.disk.blocks.length cb_s, .slice au_s s.disk.waits.length cu_s, .slice ax_s s.now.length cx_s, .slice ay_s s.last.length cy_s] 28)).heap.size := by simp
  obtain ⟨V, hV⟩ : ∃ V, (w.alloc (.cells #[.slice ab_s s.disk.blocks.length cb_s, .slice au_s s.disk.waits.length cu_s, .slice ax_s s.now.length cx_s, .slice ay_s s.last.length cy_s] 28)) = V := ⟨_, rfl⟩
  rw [hV] at sz_V q_s O_s B_b hB
  clear hst h_s h_b
  have HQ := Lib.hid (And.intro q_s (And.intro O_s (And.intro B_b hB)))
  clear q_s O_s B_b hB
  have c_q_s0 := LK.cell HQ.out.1 0
  have c_q_s1 := LK.cell HQ.out.1 1
  have c_q_s2 := LK.cell HQ.out.1 2
  have c_q_s3 := LK.cell HQ.out.1 3
  simp at c_q_s0 c_q_s1 c_q_s2 c_q_s3
  have hyes := take_law (s := s) (b := b)
  have hno := take_no (s := s) (b := b)
  have hes : (mayS s = false ∧ errS s = 8) ∨ (mayS s = true ∧ errS s = 0) := by
    unfold errS
    cases mayS s
    · exact .inl ⟨rfl, rfl⟩
    · exact .inr ⟨rfl, rfl⟩
  have k_g := fun V b u x y hh => great8_any b u x y s V hh
  have k_c := fun V b u x y hh => scheck_any b u x y s V hh
  have k_f := fun V b u x y hh => sfree_any b u x y s V hh
  have k_t := fun V b1 u x y v hh hv => stake_any b1 u x y s v b V hh hv
  obtain ⟨es, hse⟩ : ∃ e, errS s = e := ⟨_, rfl⟩
  obtain ⟨T, hT⟩ : ∃ T, takeS s b = T := ⟨_, rfl⟩
  obtain ⟨et, het⟩ : ∃ e, errTk s b = e := ⟨_, rfl⟩
  obtain ⟨at1, hat⟩ : ∃ e, atTk s b = e := ⟨_, rfl⟩
  obtain ⟨FL, hFL⟩ : ∃ e, freeL s = e := ⟨_, rfl⟩
  rw [hse] at k_c k_f hes
  rw [hFL] at k_f
  rw [hT, het, hat] at k_t
  rw [hT, het, hat, hFL] at hyes
  rw [het, hFL] at hno
  have k_f2 := fun V b u x y hh => sfree_any b u x y T V hh
  have k_r := fun (d : DiskL) V b u p hh => dread_any b u d p V hh
  have HN := Lib.hid (And.intro hno hyes)
  clear hno hyes hse hT het hat hFL
  have HC := Lib.hid (And.intro k_g (And.intro k_c (And.intro k_f (And.intro k_t (And.intro k_f2 k_r)))))
  clear k_g k_c k_f k_t k_f2 k_r
  go_enter Try.func3, Try.ntmps3
  go_upto_region 1 with (fail)
  clear hV
  go_wp2_with fail
  refine (alive8 V).mono ?_
  rintro e w1 ⟨rfl, hst⟩
  clear c_q_s0 c_q_s1 c_q_s2 c_q_s3
  obtain ⟨q_s, O_s, B_b, hB⟩ := HQ.out
  clear HQ
  have sz_w1 : V.heap.size ≤ w1.heap.size := hst.size
  replace q_s := q_s.step hst
  replace O_s := O_s.step hst
  replace B_b := B_b.step hst
  replace hB := hB.step hst
  clear hst
  have HQ := Lib.hid (And.intro q_s (And.intro O_s (And.intro B_b hB)))
  clear q_s O_s B_b hB
  have c_q_s0 := LK.cell HQ.out.1 0
  have c_q_s1 := LK.cell HQ.out.1 1
  have c_q_s2 := LK.cell HQ.out.1 2
  have c_q_s3 := LK.cell HQ.out.1 3
  simp at c_q_s0 c_q_s1 c_q_s2 c_q_s3
  go_wp2_with fail
  refine (HC.out.1 _ _ _ _ _ HQ.out.2.1.v).mono ?_
  rintro e w2 ⟨g, rfl, hst, -⟩
  clear c_q_s0 c_q_s1 c_q_s2 c_q_s3
  obtain ⟨q_s, O_s, B_b, hB⟩ := HQ.out
  clear HQ
  have sz_w2 : w1.heap.size ≤ w2.heap.size := hst.size
  replace q_s := q_s.step hst
  replace O_s := O_s.step hst
  replace B_b := B_b.step hst
  replace hB := hB.step hst
  clear hst
  have HQ := Lib.hid (And.intro q_s (And.intro O_s (And.intro B_b hB)))
  clear q_s O_s B_b hB
  have c_q_s0 := LK.cell HQ.out.1 0
  have c_q_s1 := LK.cell HQ.out.1 1
  have c_q_s2 := LK.cell HQ.out.1 2
  have c_q_s3 := LK.cell HQ.out.1 3
  simp at c_q_s0 c_q_s1 c_q_s2 c_q_s3
  cases g
  case true =>
    go_wp2
    go_ret
    exact ⟨rfl, HQ.out.2.2.2⟩
  by_cases hl : 10000 < b.length
  · have i1 : (10000 : Int) < b.length := by omega
    go_wp2
    go_ret
    exact ⟨rfl, HQ.out.2.2.2⟩
  have i1 : decide ((10000 : Int) < b.length) = false := by simp; omega
  go_wp2_with fail
  refine (HC.out.2.1 _ _ _ _ _ HQ.out.2.1.v).mono ?_
  rintro e w3 ⟨rfl, hst⟩
  clear c_q_s0 c_q_s1 c_q_s2 c_q_s3
  obtain ⟨q_s, O_s, B_b, hB⟩ := HQ.out
  clear HQ
  have sz_w3 : w2.heap.size ≤ w3.heap.size := hst.size
  replace q_s := q_s.step hst
  replace O_s := O_s.step hst
  replace B_b := B_b.step hst
  replace hB := hB.step hst
  clear hst
  have HQ := Lib.hid (And.intro q_s (And.intro O_s (And.intro B_b hB)))
  clear q_s O_s B_b hB
  have c_q_s0 := LK.cell HQ.out.1 0
  have c_q_s1 := LK.cell HQ.out.1 1
  have c_q_s2 := LK.cell HQ.out.1 2
  have c_q_s3 := LK.cell HQ.out.1 3
  simp at c_q_s0 c_q_s1 c_q_s2 c_q_s3
  rcases hes with ⟨-, rfl⟩ | ⟨hmy, rfl⟩
  · skip
    go_wp2
    go_ret
    exact ⟨rfl, HQ.out.2.2.2⟩
  by_cases hb : b.length = 128
  case neg =>
    have i2 : ¬ (b.length : Int) = 128 := by omega
    go_wp2
    go_ret
    exact ⟨rfl, HQ.out.2.2.2⟩
  have i2 : (b.length : Int) = 128 := by omega
  have HB := Lib.hid hb
  clear hb
  go_wp2_with fail
  clear i1 i2 hl
  refine (HC.out.2.2.1 _ _ _ _ _ HQ.out.2.1.v).mono ?_
  rintro e w4 ⟨v_f, rfl, hS, hst⟩
  clear c_q_s0 c_q_s1 c_q_s2 c_q_s3
  obtain ⟨q_s, O_s, B_b, hB⟩ := HQ.out
  clear HQ
  have S_f := LS.of hS (Nat.le_refl _)
  obtain ⟨a_f, c_f, rfl, -, -, -, -⟩ := hS
  obtain ⟨n_f, hn_f⟩ : ∃ n, FL.length = n := ⟨_, rfl⟩
  rw [hn_f] at S_f ⊢
  have HL_f := Lib.hid hn_f
  clear hn_f
  have sz_w4 : w3.heap.size ≤ w4.heap.size := hst.size
  replace q_s := q_s.step hst
  replace O_s := O_s.step hst
  replace B_b := B_b.step hst
  replace hB := hB.step hst
  clear hst
  have HQ := Lib.hid (And.intro q_s (And.intro O_s (And.intro B_b (And.intro S_f hB))))
  clear q_s O_s B_b S_f hB
  have c_q_s0 := LK.cell HQ.out.1 0
  have c_q_s1 := LK.cell HQ.out.1 1
  have c_q_s2 := LK.cell HQ.out.1 2
  have c_q_s3 := LK.cell HQ.out.1 3
  simp at c_q_s0 c_q_s1 c_q_s2 c_q_s3
  go_wp2_with fail
  refine (HC.out.2.2.2.1 _ _ _ _ _ _ HQ.out.2.1.v HQ.out.2.2.1.v).mono ?_
  rintro e w5 ⟨b1, u1, x1, y1, rfl, hm⟩
  clear c_q_s0 c_q_s1 c_q_s2 c_q_s3
  obtain ⟨q_s, O_s, B_b, S_f, hB⟩ := HQ.out
  clear HQ
  have P_t := LP.of hm
  have hst := hm.below
  obtain ⟨ab_t, cb_t, rfl, -, -, -, -⟩ := hm.store.v.1.1
  obtain ⟨au_t, cu_t, rfl, -, -, -, -⟩ := hm.store.v.1.2
  obtain ⟨ax_t, cx_t, rfl, -, -⟩ := hm.store.v.2.1.form rfl
  obtain ⟨ay_t, cy_t, rfl, -, -⟩ := hm.store.v.2.2.form rfl
  clear hm
  have sz_w5 : w4.heap.size ≤ w5.heap.size := hst.size
  replace q_s := q_s.step hst
  replace O_s := O_s.step hst
  replace B_b := B_b.step hst
  replace S_f := S_f.step hst
  replace hB := hB.step hst
  clear hst
  have HQ := Lib.hid (And.intro q_s (And.intro O_s (And.intro B_b (And.intro S_f (And.intro P_t hB)))))
  clear q_s O_s B_b S_f P_t hB
  have c_q_s0 := LK.cell HQ.out.1 0
  have c_q_s1 := LK.cell HQ.out.1 1
  have c_q_s2 := LK.cell HQ.out.1 2
  have c_q_s3 := LK.cell HQ.out.1 3
  simp at c_q_s0 c_q_s1 c_q_s2 c_q_s3
  go_upto_region 8 with (fail)
  clear c_q_s0 c_q_s1 c_q_s2 c_q_s3
  obtain ⟨q_s, O_s, B_b, S_f, P_t, hB⟩ := HQ.out
  clear HQ
  have hst := (Below.refl w5.heap.size w5).alloc (Nat.le_refl _) (.cells #[.slice ab_t T.disk.blocks.length cb_t, .slice au_t T.disk.waits.length cu_t, .slice ax_t T.now.length cx_t, .slice ay_t T.last.length cy_t] 28)
  have hlt : w5.heap.size < (w5.alloc (.cells #[.slice ab_t T.disk.blocks.length cb_t, .slice au_t T.disk.waits.length cu_t, .slice ax_t T.now.length cx_t, .slice ay_t T.last.length cy_t] 28)).heap.size := by simp
  have q_t := LK.new w5 (.cells #[.slice ab_t T.disk.blocks.length cb_t, .slice au_t T.disk.waits.length cu_t, .slice ax_t T.now.length cx_t, .slice ay_t T.last.length cy_t] 28)
  replace q_s := q_s.step hst
  replace O_s := O_s.step hst
  replace B_b := B_b.step hst
  replace S_f := S_f.step hst
  replace P_t := P_t.step hst
  replace hB := hB.step hst
  obtain ⟨w6, hw⟩ : ∃ v, w5.alloc (.cells #[.slice ab_t T.disk.blocks.length cb_t, .slice au_t T.disk.waits.length cu_t, .slice ax_t T.now.length cx_t, .slice ay_t T.last.length cy_t] 28) = v := ⟨_, rfl⟩
  rw [hw] at hlt q_t q_s O_s B_b S_f P_t hB ⊢
  clear hw hst
  have sz_w6 := hlt
  clear hlt
  have HQ := Lib.hid (And.intro q_s (And.intro O_s (And.intro B_b (And.intro S_f (And.intro P_t (And.intro q_t hB))))))
  clear q_s O_s B_b S_f P_t q_t hB
  have c_q_s0 := LK.cell HQ.out.1 0
  have c_q_s1 := LK.cell HQ.out.1 1
  have c_q_s2 := LK.cell HQ.out.1 2
  have c_q_s3 := LK.cell HQ.out.1 3
  have c_q_t0 := LK.cell HQ.out.2.2.2.2.2.1 0
  have c_q_t1 := LK.cell HQ.out.2.2.2.2.2.1 1
  have c_q_t2 := LK.cell HQ.out.2.2.2.2.2.1 2
  have c_q_t3 := LK.cell HQ.out.2.2.2.2.2.1 3
  simp at c_q_s0 c_q_s1 c_q_s2 c_q_s3 c_q_t0 c_q_t1 c_q_t2 c_q_t3
  by_cases hz : et = 0
  case neg =>
    obtain ⟨rfl, hh⟩ := HN.out.1 hmy HB.out hz
    rcases hh with rfl | hh
    · have hl0 : n_f = 0 := HL_f.out.symm
      subst hl0
      go_wp2
      go_ret
      exact ⟨rfl, HQ.out.2.2.2.2.2.2⟩
    · by_cases hF : n_f = 0
      · subst hF
        go_wp2
        go_ret
        exact ⟨rfl, HQ.out.2.2.2.2.2.2⟩
      · have i1 : ¬ (n_f : Int) = 0 := by omega
        have i2 : (s.disk.waits.length : Int) = 4096 := by omega
        go_wp2
        go_ret
        exact ⟨rfl, HQ.out.2.2.2.2.2.2⟩
  subst hz
  obtain ⟨hn, ML, rfl, h8, h9, hsl, hll, htl, htt, rfl, hMl, hML, heT, hs0, hl0, ht1, hoth, ⟨hr1, hr2⟩, hr3, hr4⟩ := HN.out.2 rfl
  clear HN
  have hTl : T.last.length = 256 := by rw [htt]; exact hll
  obtain ⟨sb, sf, sc, e1, -, zs, ys, xs, hcs⟩ := HQ.out.2.1.n.at_n hsl (by omega)
  injection e1 with e1 el e2
  subst e1 e2
  clear el
  obtain ⟨lb, lf, lc, e1, -, zl, yl, xl, hcl⟩ := HQ.out.2.1.l.at_n hll (by omega)
  injection e1 with e1 el e2
  subst e1 e2
  clear el
  obtain ⟨tb, tf, tc, e1, -, zt, yt, xt, hct⟩ := HQ.out.2.2.2.2.1.n.at_n htl (by omega)
  injection e1 with e1 el e2
  subst e1 e2
  clear el
  obtain ⟨mb, mf, mc, e1, -, zm, ym, xm, hcm⟩ := HQ.out.2.2.2.2.1.l.at_n hTl (by omega)
  injection e1 with e1 el e2
  subst e1 e2
  clear el
  unfold maxLen at xs xl xt xm
  have hFl : n_f = ML.length + 1 := HL_f.out.symm
  obtain ⟨fb, ff, fc, e1, -, zf, yf, xf, hcf⟩ := HQ.out.2.2.2.1.v.at_ (by simp)
  injection e1 with e1 el e2
  subst e1 e2
  clear el
  unfold maxLen at xf
  rw [List.length_cons, ← hFl] at yf
  clear c_q_s0 c_q_s1 c_q_s2 c_q_s3 c_q_t0 c_q_t1 c_q_t2 c_q_t3
  have c_q_s0 := LK.cell HQ.out.1 0
  have c_q_s1 := LK.cell HQ.out.1 1
  have c_q_s2 := LK.cell HQ.out.1 2
  have c_q_s3 := LK.cell HQ.out.1 3
  have c_q_t0 := LK.cell HQ.out.2.2.2.2.2.1 0
  have c_q_t1 := LK.cell HQ.out.2.2.2.2.2.1 1
  have c_q_t2 := LK.cell HQ.out.2.2.2.2.2.1 2
  have c_q_t3 := LK.cell HQ.out.2.2.2.2.2.1 3
  simp at c_q_s0 c_q_s1 c_q_s2 c_q_s3 c_q_t0 c_q_t1 c_q_t2 c_q_t3
  rw [hsl] at c_q_s2
  rw [hll] at c_q_s3
  rw [htl] at c_q_t2
  rw [hTl] at c_q_t3
  have f1 := hcs hn (s.now.getD hn 0) (get_l _ _ _ (by omega))
  have f2 := hcl hn (s.last.getD hn 0) (get_l _ _ _ (by omega))
  have f3 := hct hn (T.now.getD hn 0) (get_l _ _ _ (by omega))
  have f4 := hcf 0 (hn : Int) rfl
  rw [hs0] at f1
  rw [hl0] at f2
  rw [ht1] at f3
  have e0 : bV 0 = .int .u8 0 := rfl
  have e1 : bV 1 = .int .u8 1 := rfl
  rw [e0] at f1 f2
  rw [e1] at f3
  replace f4 := f4.1
  simp [rInt] at f4
  clear e0 e1
  have HLF := Lib.hid hFl
  have HS := Lib.hid (And.intro hcs (And.intro hcl (And.intro hct (And.intro hcm (And.intro hcf (And.intro hoth (And.intro htt (And.intro hML (And.intro heT (And.intro hr1 (And.intro hr2 (And.intro hr3 (And.intro hr4 (And.intro hsl (And.intro hll (And.intro htl hTl))))))))))))))))
  clear hcs hcl hct hcm hcf hoth htt hML heT hr1 hr2 hr3 hr4 hs0 hl0 ht1 hsl hll htl hTl hmy hFl HL_f
  have i1 : ¬ (256 : Int) ≤ hn := by omega
  have i3 : ¬ (n_f : Int) = 0 := by have := HLF.out; omega
  have k_1 := fun V b1 u1 hh => dread_any b1 u1 T.disk hn V hh
  have k_2 := fun V b1 u1 hh => dread_any b1 u1 s.disk q V hh
  have k_3 := fun V b1 u1 hh => dread_any b1 u1 T.disk q V hh
  have k_m := HC.out.2.2.2.2.1
  obtain ⟨-, -, -, -, -, -, -, hML, heT, hr1, hr2, hr3, hr4, -⟩ := HS.out
  have h4 := hr4 q
  rw [hr1, hr2] at k_1
  rw [hr3 q] at k_3
  rw [heT, hML] at k_m
  obtain ⟨ea, hea⟩ : ∃ e, errA s.disk q = e := ⟨_, rfl⟩
  obtain ⟨r2, hr2v⟩ : ∃ e, readB s.disk q = e := ⟨_, rfl⟩
  obtain ⟨r3, hr3v⟩ : ∃ e, readB T.disk q = e := ⟨_, rfl⟩
  rw [hea, hr2v] at k_2
  rw [hea, hr3v] at k_3
  rw [hr2v, hr3v] at h4
  have HK := Lib.hid (And.intro k_1 (And.intro k_2 (And.intro k_3 (And.intro k_m h4))))
  clear k_1 k_2 k_3 k_m h4 hML heT hr1 hr2 hr3 hr4 hea hr2v hr3v
  go_wp2_with fail
  go_loopw [13] (fun i wr => ∃ j : Nat, j ≤ 256 ∧ i = .int .i64 j ∧ Below w6.heap.size w6 wr) (fun i _ => 256 - (intOf i).toNat)
  case atStart => exact ⟨0, by omega, rfl, Below.refl _ _⟩
  case round =>
  obtain ⟨j, hj, rfl, hBr⟩ := hrel
  clear f1 f2 f3 f4
  clear c_q_s0 c_q_s1 c_q_s2 c_q_s3 c_q_t0 c_q_t1 c_q_t2 c_q_t3
  by_cases hlt : j < 256
  · have i5 : ¬ (256 : Int) ≤ j := by omega
    have y1 := LK.cell (HQ.out.1.step hBr) 2
    have y3 := LK.cell (HQ.out.1.step hBr) 3
    have y2 := LK.cell (HQ.out.2.2.2.2.2.1.step hBr) 2
    have y4 := LK.cell (HQ.out.2.2.2.2.2.1.step hBr) 3
    simp at y1 y2 y3 y4
    obtain ⟨hcs, hcl, hct, hcm, -, hoth, htt, -, -, -, -, -, -, hsl, hll, htl, hTl⟩ := HS.out
    rw [hsl] at y1
    rw [hll] at y3
    rw [htl] at y2
    rw [hTl] at y4
    have sz_r := hBr.size
    have es := (hBr.cell (p := ⟨sb, sf + j, none⟩) (by show sb < w6.heap.size; omega)).trans (hcs j (s.now.getD j 0) (get_l _ _ _ (by omega)))
    have el := (hBr.cell (p := ⟨lb, lf + j, none⟩) (by show lb < w6.heap.size; omega)).trans (hcl j (s.last.getD j 0) (get_l _ _ _ (by omega)))
    have et := (hBr.cell (p := ⟨tb, tf + j, none⟩) (by show tb < w6.heap.size; omega)).trans (hct j (T.now.getD j 0) (get_l _ _ _ (by omega)))
    have em := (hBr.cell (p := ⟨mb, mf + j, none⟩) (by show mb < w6.heap.size; omega)).trans (hcm j (T.last.getD j 0) (get_l _ _ _ (by omega)))
    rw [htt] at em
    have hh := hoth j
    obtain ⟨q1, hq1⟩ : ∃ q, T.now.getD j 0 = q := ⟨_, rfl⟩
    obtain ⟨q2, hq2⟩ : ∃ q, s.now.getD j 0 = q := ⟨_, rfl⟩
    obtain ⟨q3, hq3⟩ : ∃ q, s.last.getD j 0 = q := ⟨_, rfl⟩
    rw [hq2] at es hh
    rw [hq1] at et hh
    rw [hq3] at el em
    simp only [bV] at es el et em
    clear hq1 hq2 hq3 hcs hcl hct hcm hoth htt hsl hll htl hTl
    have HBR := Lib.hid hBr
    clear hBr
    by_cases he : j = hn
    · subst he
      clear hh
      go_wp2_with fail
      go_quiet (fail)
      go_wp2
      go_roundw
      case rel => exact ⟨j + 1, by omega, by go_num, HBR.out.trans (below_dn _ _ _)⟩
      case measure => simp [intOf]; omega
    · obtain rfl := hh he
      have i6 : ¬ (j : Int) = hn := by omega
      go_wp2_with fail
      go_quiet (fail)
      go_wp2
      go_roundw
      case rel => exact ⟨j + 1, by omega, by go_num, HBR.out.trans (below_dn _ _ _)⟩
      case measure => simp [intOf]; omega
  obtain rfl : j = 256 := by omega
  have hst := hBr
  clear hBr hj hlt
  obtain ⟨q_s, O_s, B_b, S_f, P_t, q_t, hB⟩ := HQ.out
  clear HQ
  have sz_wr : w6.heap.size ≤ wr.heap.size := hst.size
  replace q_s := q_s.step hst
  replace O_s := O_s.step hst
  replace B_b := B_b.step hst
  replace S_f := S_f.step hst
  replace P_t := P_t.step hst
  replace q_t := q_t.step hst
  replace hB := hB.step hst
  clear hst
  have HQ := Lib.hid (And.intro q_s (And.intro O_s (And.intro B_b (And.intro S_f (And.intro P_t (And.intro q_t hB))))))
  clear q_s O_s B_b S_f P_t q_t hB
  have c_q_s0 := LK.cell HQ.out.1 0
  have c_q_s1 := LK.cell HQ.out.1 1
  have c_q_s2 := LK.cell HQ.out.1 2
  have c_q_s3 := LK.cell HQ.out.1 3
  have c_q_t0 := LK.cell HQ.out.2.2.2.2.2.1 0
  have c_q_t1 := LK.cell HQ.out.2.2.2.2.2.1 1
  have c_q_t2 := LK.cell HQ.out.2.2.2.2.2.1 2
  have c_q_t3 := LK.cell HQ.out.2.2.2.2.2.1 3
  simp at c_q_s0 c_q_s1 c_q_s2 c_q_s3 c_q_t0 c_q_t1 c_q_t2 c_q_t3
  go_wp2_with fail
  refine (HK.out.1 _ _ _ HQ.out.2.2.2.2.1.d).mono ?_
  rintro e w7 ⟨v_1, rfl, hm⟩
  clear c_q_s0 c_q_s1 c_q_s2 c_q_s3 c_q_t0 c_q_t1 c_q_t2 c_q_t3
  obtain ⟨q_s, O_s, B_b, S_f, P_t, q_t, hB⟩ := HQ.out
  clear HQ
  have B_1 := LM.of hm
  have hst := hm.below
  obtain ⟨a_1, c_1, rfl, -, -⟩ := hm.bytes.form rfl
  clear hm
  have sz_w7 : wr.heap.size ≤ w7.heap.size := hst.size
  replace q_s := q_s.step hst
  replace O_s := O_s.step hst
  replace B_b := B_b.step hst
  replace S_f := S_f.step hst
  replace P_t := P_t.step hst
  replace q_t := q_t.step hst
  replace hB := hB.step hst
  clear hst
  have HQ := Lib.hid (And.intro q_s (And.intro O_s (And.intro B_b (And.intro S_f (And.intro P_t (And.intro q_t (And.intro B_1 hB)))))))
  clear q_s O_s B_b S_f P_t q_t B_1 hB
  have c_q_s0 := LK.cell HQ.out.1 0
  have c_q_s1 := LK.cell HQ.out.1 1
  have c_q_s2 := LK.cell HQ.out.1 2
  have c_q_s3 := LK.cell HQ.out.1 3
  have c_q_t0 := LK.cell HQ.out.2.2.2.2.2.1 0
  have c_q_t1 := LK.cell HQ.out.2.2.2.2.2.1 1
  have c_q_t2 := LK.cell HQ.out.2.2.2.2.2.1 2
  have c_q_t3 := LK.cell HQ.out.2.2.2.2.2.1 3
  simp at c_q_s0 c_q_s1 c_q_s2 c_q_s3 c_q_t0 c_q_t1 c_q_t2 c_q_t3
  go_wp2_with fail
  refine (HK.out.2.1 _ _ _ HQ.out.2.1.d).mono ?_
  rintro e w8 ⟨v_2, rfl, hm⟩
  clear c_q_s0 c_q_s1 c_q_s2 c_q_s3 c_q_t0 c_q_t1 c_q_t2 c_q_t3
  obtain ⟨q_s, O_s, B_b, S_f, P_t, q_t, B_1, hB⟩ := HQ.out
  clear HQ
  have B_2 := LM.of hm
  have hst := hm.below
  obtain ⟨a_2, c_2, rfl, -, -⟩ := hm.bytes.form rfl
  clear hm
  have sz_w8 : w7.heap.size ≤ w8.heap.size := hst.size
  replace q_s := q_s.step hst
  replace O_s := O_s.step hst
  replace B_b := B_b.step hst
  replace S_f := S_f.step hst
  replace P_t := P_t.step hst
  replace q_t := q_t.step hst
  replace B_1 := B_1.step hst
  replace hB := hB.step hst
  clear hst
  have HQ := Lib.hid (And.intro q_s (And.intro O_s (And.intro B_b (And.intro S_f (And.intro P_t (And.intro q_t (And.intro B_1 (And.intro B_2 hB))))))))
  clear q_s O_s B_b S_f P_t q_t B_1 B_2 hB
  have c_q_s0 := LK.cell HQ.out.1 0
  have c_q_s1 := LK.cell HQ.out.1 1
  have c_q_s2 := LK.cell HQ.out.1 2
  have c_q_s3 := LK.cell HQ.out.1 3
  have c_q_t0 := LK.cell HQ.out.2.2.2.2.2.1 0
  have c_q_t1 := LK.cell HQ.out.2.2.2.2.2.1 1
  have c_q_t2 := LK.cell HQ.out.2.2.2.2.2.1 2
  have c_q_t3 := LK.cell HQ.out.2.2.2.2.2.1 3
  simp at c_q_s0 c_q_s1 c_q_s2 c_q_s3 c_q_t0 c_q_t1 c_q_t2 c_q_t3
  go_wp2_with fail
  refine (HK.out.2.2.1 _ _ _ HQ.out.2.2.2.2.1.d).mono ?_
  rintro e w9 ⟨v_3, rfl, hm⟩
  clear c_q_s0 c_q_s1 c_q_s2 c_q_s3 c_q_t0 c_q_t1 c_q_t2 c_q_t3
  obtain ⟨q_s, O_s, B_b, S_f, P_t, q_t, B_1, B_2, hB⟩ := HQ.out
  clear HQ
  have B_3 := LM.of hm
  have hst := hm.below
  obtain ⟨a_3, c_3, rfl, -, -⟩ := hm.bytes.form rfl
  clear hm
  have sz_w9 : w8.heap.size ≤ w9.heap.size := hst.size
  replace q_s := q_s.step hst
  replace O_s := O_s.step hst
  replace B_b := B_b.step hst
  replace S_f := S_f.step hst
  replace P_t := P_t.step hst
  replace q_t := q_t.step hst
  replace B_1 := B_1.step hst
  replace B_2 := B_2.step hst
  replace hB := hB.step hst
  clear hst
  have HQ := Lib.hid (And.intro q_s (And.intro O_s (And.intro B_b (And.intro S_f (And.intro P_t (And.intro q_t (And.intro B_1 (And.intro B_2 (And.intro B_3 hB)))))))))
  clear q_s O_s B_b S_f P_t q_t B_1 B_2 B_3 hB
  have c_q_s0 := LK.cell HQ.out.1 0
  have c_q_s1 := LK.cell HQ.out.1 1
  have c_q_s2 := LK.cell HQ.out.1 2
  have c_q_s3 := LK.cell HQ.out.1 3
  have c_q_t0 := LK.cell HQ.out.2.2.2.2.2.1 0
  have c_q_t1 := LK.cell HQ.out.2.2.2.2.2.1 1
  have c_q_t2 := LK.cell HQ.out.2.2.2.2.2.1 2
  have c_q_t3 := LK.cell HQ.out.2.2.2.2.2.1 3
  simp at c_q_s0 c_q_s1 c_q_s2 c_q_s3 c_q_t0 c_q_t1 c_q_t2 c_q_t3
  go_wp2_with fail
  refine (HK.out.2.2.2.1 _ _ _ _ _ HQ.out.2.2.2.2.1.v).mono ?_
  rintro e w10 ⟨v_g, rfl, hS, hst⟩
  clear c_q_s0 c_q_s1 c_q_s2 c_q_s3 c_q_t0 c_q_t1 c_q_t2 c_q_t3
  obtain ⟨q_s, O_s, B_b, S_f, P_t, q_t, B_1, B_2, B_3, hB⟩ := HQ.out
  clear HQ
  have S_g := LS.of hS (Nat.le_refl _)
  obtain ⟨a_g, c_g, rfl, -, -, -, -⟩ := hS
  obtain ⟨n_g, hn_g⟩ : ∃ n, ML.length = n := ⟨_, rfl⟩
  rw [hn_g] at S_g ⊢
  have HL_g := Lib.hid hn_g
  clear hn_g
  have sz_w10 : w9.heap.size ≤ w10.heap.size := hst.size
  replace q_s := q_s.step hst
  replace O_s := O_s.step hst
  replace B_b := B_b.step hst
  replace S_f := S_f.step hst
  replace P_t := P_t.step hst
  replace q_t := q_t.step hst
  replace B_1 := B_1.step hst
  replace B_2 := B_2.step hst
  replace B_3 := B_3.step hst
  replace hB := hB.step hst
  clear hst
  have HQ := Lib.hid (And.intro q_s (And.intro O_s (And.intro B_b (And.intro S_f (And.intro P_t (And.intro q_t (And.intro B_1 (And.intro B_2 (And.intro B_3 (And.intro S_g hB))))))))))
  clear q_s O_s B_b S_f P_t q_t B_1 B_2 B_3 S_g hB
  have c_q_s0 := LK.cell HQ.out.1 0
  have c_q_s1 := LK.cell HQ.out.1 1
  have c_q_s2 := LK.cell HQ.out.1 2
  have c_q_s3 := LK.cell HQ.out.1 3
  have c_q_t0 := LK.cell HQ.out.2.2.2.2.2.1 0
  have c_q_t1 := LK.cell HQ.out.2.2.2.2.2.1 1
  have c_q_t2 := LK.cell HQ.out.2.2.2.2.2.1 2
  have c_q_t3 := LK.cell HQ.out.2.2.2.2.2.1 3
  simp at c_q_s0 c_q_s1 c_q_s2 c_q_s3 c_q_t0 c_q_t1 c_q_t2 c_q_t3
  clear c_q_s0 c_q_s1 c_q_s2 c_q_s3 c_q_t0 c_q_t1 c_q_t2 c_q_t3
  clear i1 i3
  have t1 := fun X => cv_of (HQ.out.2.2.2.2.2.2.1.step (aft_below w10 X)).v
  have t2 := fun X => cv_of (HQ.out.2.2.1.step (aft_below w10 X)).v
  have t3 := fun X => cv_of (HQ.out.2.2.2.2.2.2.2.1.step (aft_below w10 X)).v
  have t4 := fun X => cv_of (HQ.out.2.2.2.2.2.2.2.2.1.step (aft_below w10 X)).v
  have hnfg : n_f = n_g + 1 := by have := HL_g.out; have := HLF.out; omega
  have hngl : n_g ≤ 256 := by have := HL_g.out; omega
  have h4 := HK.out.2.2.2.2
  have HBZ := Lib.hid HQ.out.2.2.2.2.2.2.2.2.2.2
  by_cases hq : q = (hn : Int)
  · subst hq
    clear h4
    by_cases hz : n_g = 0
    · subst hz
      obtain rfl : n_f = 1 := by omega
      go_upto_region 23 with (fail)
      refine wp_region_held_drew (S := Cls w10) (by kernel_rfl) (Cls.drew w10) (fun hCl => ?_)
      refine wpAnyH_seg (fuel := 0) (by kernel_rfl) (fun _ d _ _ _ h => by cases d <;> exact h) hCl [0, 1, 2, 3, 4, 5, 6, 7, 8, 9, 10, 11, 12, 13, 14, 15, 16, 17, 18, 19, 20, 21, 22, 23, 24, 25, 26, 27, 28, 29, 30, 31, 32, 33, 34, 35, 36, 37, 38, 39, 40, 41, 42, 43, 44, 45, 46, 47, 48, 49, 50, 51, 52, 53, 54, 55] _ _ _ (by kernel_rfl) (by kernel_rfl) ?_
      simp only [opsOf_cons, opsOf_nil, consOp_some, List.getElem?_toArray, List.getElem?_cons_succ, List.getElem?_cons_zero]
      repeat (first | go_big_quiet_step (fail) | quiet_step (fail))
      refine wpQuiet_nil ?_
      refine wpAnyH_done (by kernel_rfl) ?_ _
      go_wp2
      go_ret
      exact ⟨rfl, (HBZ.out.trans (hCl.below.mono (by omega)))⟩
    · obtain ⟨c, ML2, rfl⟩ : ∃ c ML2, ML = c :: ML2 := by
        rcases ML with _ | ⟨c, ML2⟩
        · exact absurd HL_g.out.symm hz
        · exact ⟨c, ML2, rfl⟩
      obtain ⟨gb, gf, gc, e1, -, zg, yg, xg, hcg⟩ := HQ.out.2.2.2.2.2.2.2.2.2.1.v.at_ (by simp)
      injection e1 with e1 el e2
      subst e1 e2
      have n1 := fun X => ((HQ.out.2.2.2.2.2.2.2.2.2.1.step (aft_below w10 X)).v.cellAt 0 c rfl).1
      have n2 := fun X => ((HQ.out.2.2.2.1.step (aft_below w10 X)).v.cellAt 1 c rfl).1
      rw [← el] at yg
      clear el
      simp [rInt] at n1 n2
      unfold maxLen at xg
      clear hcg
      have i12 : 0 < n_g := by omega
      have i13 : 1 < n_f := by omega
      have i16 : (1 : Int) < n_f := by omega
      have i17 : ¬ (n_f : Int) ≤ 1 := by omega
      have i14 : ¬ (n_g : Int) = 0 := by omega
      have i15 : IntKind.i64.wrap ((n_f : Int) - 1) = (n_g : Int) := by rw [IntWalk.i64_in _ (by omega)]; omega
      clear hnfg
      go_upto_region 23 with (fail)
      refine wp_region_held_drew (S := Cls w10) (by kernel_rfl) (Cls.drew w10) (fun hCl => ?_)
      refine wpAnyH_seg (fuel := 0) (by kernel_rfl) (fun _ d _ _ _ h => by cases d <;> exact h) hCl [0, 1, 2, 3, 4, 5, 6, 7, 8, 9, 10, 11, 12, 13, 14, 15, 16, 17, 18, 19, 20, 21, 22, 23, 24, 25, 26, 27, 28, 29, 30, 31, 32, 33, 34, 35, 36, 37, 38, 39, 40, 41, 42, 43, 44, 45, 46, 47, 48, 49, 50, 51, 52, 53, 54, 55] _ _ _ (by kernel_rfl) (by kernel_rfl) ?_
      simp only [opsOf_cons, opsOf_nil, consOp_some, List.getElem?_toArray, List.getElem?_cons_succ, List.getElem?_cons_zero]
      repeat (first | go_big_quiet_step (fail) | quiet_step (fail))
      refine wpQuiet_nil ?_
      refine wpAnyH_done (by kernel_rfl) ?_ _
      go_wp2
      go_ret
      exact ⟨rfl, (HBZ.out.trans (hCl.below.mono (by omega)))⟩
  · obtain rfl := h4 hq
    have i7 : ¬ q = (hn : Int) := hq
    clear h4
    by_cases hz : n_g = 0
    · subst hz
      obtain rfl : n_f = 1 := by omega
      go_upto_region 23 with (fail)
      refine wp_region_held_drew (S := Cls w10) (by kernel_rfl) (Cls.drew w10) (fun hCl => ?_)
      refine wpAnyH_seg (fuel := 0) (by kernel_rfl) (fun _ d _ _ _ h => by cases d <;> exact h) hCl [0, 1, 2, 3, 4, 5, 6, 7, 8, 9, 10, 11, 12, 13, 14, 15, 16, 17, 18, 19, 20, 21, 22, 23, 24, 25, 26, 27, 28, 29, 30, 31, 32, 33, 34, 35, 36, 37, 38, 39, 40, 41, 42, 43, 44, 45, 46, 47, 48, 49, 50, 51, 52, 53, 54, 55] _ _ _ (by kernel_rfl) (by kernel_rfl) ?_
      simp only [opsOf_cons, opsOf_nil, consOp_some, List.getElem?_toArray, List.getElem?_cons_succ, List.getElem?_cons_zero]
      repeat (first | go_big_quiet_step (fail) | quiet_step (fail))
      refine wpQuiet_nil ?_
      refine wpAnyH_done (by kernel_rfl) ?_ _
      go_wp2
      go_ret
      exact ⟨rfl, (HBZ.out.trans (hCl.below.mono (by omega)))⟩
    · obtain ⟨c, ML2, rfl⟩ : ∃ c ML2, ML = c :: ML2 := by
        rcases ML with _ | ⟨c, ML2⟩
        · exact absurd HL_g.out.symm hz
        · exact ⟨c, ML2, rfl⟩
      obtain ⟨gb, gf, gc, e1, -, zg, yg, xg, hcg⟩ := HQ.out.2.2.2.2.2.2.2.2.2.1.v.at_ (by simp)
      injection e1 with e1 el e2
      subst e1 e2
      have n1 := fun X => ((HQ.out.2.2.2.2.2.2.2.2.2.1.step (aft_below w10 X)).v.cellAt 0 c rfl).1
      have n2 := fun X => ((HQ.out.2.2.2.1.step (aft_below w10 X)).v.cellAt 1 c rfl).1
      rw [← el] at yg
      clear el
      simp [rInt] at n1 n2
      unfold maxLen at xg
      clear hcg
      have i12 : 0 < n_g := by omega
      have i13 : 1 < n_f := by omega
      have i16 : (1 : Int) < n_f := by omega
      have i17 : ¬ (n_f : Int) ≤ 1 := by omega
      have i14 : ¬ (n_g : Int) = 0 := by omega
      have i15 : IntKind.i64.wrap ((n_f : Int) - 1) = (n_g : Int) := by rw [IntWalk.i64_in _ (by omega)]; omega
      clear hnfg
      go_upto_region 23 with (fail)
      refine wp_region_held_drew (S := Cls w10) (by kernel_rfl) (Cls.drew w10) (fun hCl => ?_)
      refine wpAnyH_seg (fuel := 0) (by kernel_rfl) (fun _ d _ _ _ h => by cases d <;> exact h) hCl [0, 1, 2, 3, 4, 5, 6, 7, 8, 9, 10, 11, 12, 13, 14, 15, 16, 17, 18, 19, 20, 21, 22, 23, 24, 25, 26, 27, 28, 29, 30, 31, 32, 33, 34, 35, 36, 37, 38, 39, 40, 41, 42, 43, 44, 45, 46, 47, 48, 49, 50, 51, 52, 53, 54, 55] _ _ _ (by kernel_rfl) (by kernel_rfl) ?_
      simp only [opsOf_cons, opsOf_nil, consOp_some, List.getElem?_toArray, List.getElem?_cons_succ, List.getElem?_cons_zero]
      repeat (first | go_big_quiet_step (fail) | quiet_step (fail))
      refine wpQuiet_nil ?_
      refine wpAnyH_done (by kernel_rfl) ?_ _
      go_wp2
      go_ret
      exact ⟨rfl, (HBZ.out.trans (hCl.below.mono (by omega)))⟩

end Go.Proofs.Ytbddbadmfhplmaa

