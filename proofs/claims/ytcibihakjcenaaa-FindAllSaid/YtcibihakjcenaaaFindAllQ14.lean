/- FindAll: the words and contracts, part 14. -/
import Derived.Test.YtcibihakjcenaaaFindAllQ1
import Derived.Test.YtcibihakjcenaaaFindAllQ2
import Derived.Test.YtcibihakjcenaaaFindAllQ3
import Derived.Test.YtcibihakjcenaaaFindAllQ4
import Derived.Test.YtcibihakjcenaaaFindAllQ5
import Derived.Test.YtcibihakjcenaaaFindAllQ6
import Derived.Test.YtcibihakjcenaaaFindAllQ7
import Derived.Test.YtcibihakjcenaaaFindAllQ8
import Derived.Test.YtcibihakjcenaaaFindAllQ9
import Derived.Test.YtcibihakjcenaaaFindAllQ10
import Derived.Test.YtcibihakjcenaaaFindAllQ11
import Derived.Test.YtcibihakjcenaaaFindAllQ12
import Derived.Test.YtcibihakjcenaaaFindAllQ13
import Derived.WalkKit
import Derived.WalkLawsBesides
import Derived.WalkSpells
import Derived.Lib.Hide
import Derived.Laws.Rows
import Derived.Laws.AppendOwnNone
import Derived.Maps.AppendAt
import Derived.ProofKit
import Derived.Deep.Slices
import Derived.WideShapes
import Derived.RangeFuncNested
import Derived.RangeFuncBound
import Derived.RangeFuncCalls
import Derived.RangeFuncLeaves
import Derived.RangeFuncBox
import Derived.Shelf.Abstract
import Derived.Shelf.RegionOpen
import Derived.OwnWalkIn
import Derived.TacticsInMore
import Derived.LoopNIn
import Derived.LoopIn
import Derived.Lib.AppendZerosOnto
import Derived.Lib.SliceRun
import Derived.Lib.Walk
import Derived.Deep.LoopGhost
import Derived.Laws.CopyOwn
import Derived.Laws.CopyRow
import Derived.OrdersHeld
import Derived.Deep.QuietTactic
import Derived.BigQuiet
import Derived.StillTailTactics
import Derived.OpenShut
import Derived.Deep.DeepCutAuto
import Derived.Laws.MakeOwn
import Derived.Deep.RegionHeld
import Derived.KernelRfl
import Derived.BigFrameIn
import Derived.OrdersIn
import Derived.Laws.EntriesVeiled
namespace Go.Proofs.Ytcibihakjcenaaa
open Go.RowKit

set_option maxRecDepth 100000 in
set_option maxHeartbeats 1000000 in
theorem snode_no (b_s u_s x_s y_s : Value) (s : StoreL) (p : Int) (w : World) (h_s : StoreV w 0 w.heap.size b_s u_s x_s y_s s) (hne : errAs s p ≠ 0) :
    Calls Try.prog 81 #[.agg #[b_s, u_s, x_s, y_s], .int .i64 p] w fun e w' => e = .returned (.tuple #[.agg #[.int .i64 0, .slice none 0 0], .int .i64 (errAs s p)]) ∧ Below w.heap.size w w' := by
  obtain ⟨ab_s, cb_s, rfl, gb_s, gc_s, -, -⟩ := h_s.1.1
  obtain ⟨au_s, cu_s, rfl, gu_s, gv_s, -, -⟩ := h_s.1.2
  obtain ⟨ax_s, cx_s, rfl, gx_s, gz_s⟩ := h_s.2.1.form rfl
  obtain ⟨ay_s, cy_s, rfl, gy_s, gw_s⟩ := h_s.2.2.form rfl
  unfold maxLen at gc_s gv_s gz_s gw_s
  have hst := (((Below.refl w.heap.size w).alloc (Nat.le_refl _) (.cells #[.slice ab_s s.disk.blocks.length cb_s, .slice au_s s.disk.waits.length cu_s, .slice ax_s s.now.length cx_s, .slice ay_s s.last.length cy_s] 46)).alloc (by simp) (.cells #[.int .i64 0, .slice none 0 0] 119))
  have hq := two_new w (.cells #[.slice ab_s s.disk.blocks.length cb_s, .slice au_s s.disk.waits.length cu_s, .slice ax_s s.now.length cx_s, .slice ay_s s.last.length cy_s] 46) (.cells #[.int .i64 0, .slice none 0 0] 119)
  have q_s := LK.of hq.1
  have q_r := LK.of hq.2
  have hB : LW w _ := hst
  have O_s := (LO.of h_s (Nat.le_refl _)).step hst
  have sz_V : w.heap.size + 1 < ((w.alloc (.cells #[.slice ab_s s.disk.blocks.length cb_s, .slice au_s s.disk.waits.length cu_s, .slice ax_s s.now.length cx_s, .slice ay_s s.last.length cy_s] 46)).alloc (.cells #[.int .i64 0, .slice none 0 0] 119)).heap.size := by simp
  obtain ⟨V, hV⟩ : ∃ V, ((w.alloc (.cells #[.slice ab_s s.disk.blocks.length cb_s, .slice au_s s.disk.waits.length cu_s, .slice ax_s s.now.length cx_s, .slice ay_s s.last.length cy_s] 46)).alloc (.cells #[.int .i64 0, .slice none 0 0] 119)) = V := ⟨_, rfl⟩
  rw [hV] at sz_V q_s q_r O_s hB
  clear hst h_s hq
  have HQ := Lib.hid (And.intro q_s (And.intro q_r (And.intro O_s hB)))
  clear q_s q_r O_s hB
  have c_q_s0 := LK.cell HQ.out.1 0
  have c_q_s1 := LK.cell HQ.out.1 1
  have c_q_s2 := LK.cell HQ.out.1 2
  have c_q_s3 := LK.cell HQ.out.1 3
  have c_q_r0 := LK.cell HQ.out.2.1 0
  have c_q_r1 := LK.cell HQ.out.2.1 1
  simp at c_q_s0 c_q_s1 c_q_s2 c_q_s3 c_q_r0 c_q_r1
  obtain ⟨ea, hea⟩ : ∃ e, errAs s p = e := ⟨_, rfl⟩
  have k_a := fun V b u x y hh => sasked_any b u x y s p V hh
  rw [hea] at k_a hne ⊢
  clear hea
  have HC := Lib.hid (k_a)
  clear k_a
  go_enter Try.func81, Try.ntmps81
  go_upto_region 1 with (fail)
  clear hV
  go_wp2_with fail
  refine (HC.out _ _ _ _ _ HQ.out.2.2.1.v).mono ?_
  rintro e w1 ⟨rfl, hst⟩
  clear c_q_s0 c_q_s1 c_q_s2 c_q_s3 c_q_r0 c_q_r1
  obtain ⟨q_s, q_r, O_s, hB⟩ := HQ.out
  clear HQ
  have sz_w1 : V.heap.size ≤ w1.heap.size := hst.size
  replace q_s := q_s.step hst
  replace q_r := q_r.step hst
  replace O_s := O_s.step hst
  replace hB := hB.step hst
  clear hst
  have HQ := Lib.hid (And.intro q_s (And.intro q_r (And.intro O_s hB)))
  clear q_s q_r O_s hB
  have c_q_s0 := LK.cell HQ.out.1 0
  have c_q_s1 := LK.cell HQ.out.1 1
  have c_q_s2 := LK.cell HQ.out.1 2
  have c_q_s3 := LK.cell HQ.out.1 3
  have c_q_r0 := LK.cell HQ.out.2.1 0
  have c_q_r1 := LK.cell HQ.out.2.1 1
  have z_q_r0 := LK.frozen HQ.out.2.1 0
  have z_q_r1 := LK.frozen HQ.out.2.1 1
  simp at c_q_s0 c_q_s1 c_q_s2 c_q_s3 c_q_r0 c_q_r1
  have i1 : (ea != 0) = true := by simp [hne]
  clear hne
  go_wp2
  refine bodyPost_ret (v := .tuple #[.agg #[.int .i64 0, .slice none 0 0], .int .i64 ea]) (by simp [results, Try.results81, go_sem, c_q_r0, c_q_r1]) rfl ⟨rfl, ?_⟩
  exact (Below.setCell HQ.out.2.2.2 (p := ⟨w.heap.size + 1, 0, none⟩) (Nat.le_succ _) _).setCell (p := ⟨w.heap.size + 1, 1, none⟩) (Nat.le_succ _) _

end Go.Proofs.Ytcibihakjcenaaa

namespace Go.Proofs.Ytcibihakjcenaaa
open Go.RowKit Go.Shelf
attribute [local go_sem] Oper.semAt_some

set_option maxRecDepth 100000 in
set_option maxHeartbeats 1000000 in
theorem seen_any (d : DiskL) (b_d u_d : Value) (pn : Nat) (w : World) (h_d : DiskV w 0 w.heap.size b_d u_d d) (hmd : mayD d = true) (hp : pn < 256) :
    Calls Try.prog 124 #[.agg #[b_d, u_d], .int .i64 (pn : Int)] w fun e w' => ∃ v, e = .returned v ∧ Bytes w' 0 w'.heap.size v (seenD d pn) ∧ Below w.heap.size w w' := by
  obtain ⟨ab_d, cb_d, rfl, gb_d, gc_d, -, -⟩ := h_d.1
  obtain ⟨au_d, cu_d, rfl, gu_d, gv_d, -, -⟩ := h_d.2
  unfold maxLen at gc_d gv_d
  have hst := ((((Below.refl w.heap.size w).alloc (Nat.le_refl _) (.cells #[.slice ab_d d.blocks.length cb_d, .slice au_d d.waits.length cu_d] 44)).alloc (by simp) (.cells #[.int .i64 (pn : Int)] 3)).alloc (by simp; omega) (.cells #[.slice none 0 0] 26))
  have hq := three_new w (.cells #[.slice ab_d d.blocks.length cb_d, .slice au_d d.waits.length cu_d] 44) (.cells #[.int .i64 (pn : Int)] 3) (.cells #[.slice none 0 0] 26)
  have q_d := LK.of hq.1
  have q_p := LK.of hq.2.1
  have q_r := LK.of hq.2.2
  have hB : LW w _ := hst
  have D_d := (LD.of h_d (Nat.le_refl _)).step hst
  have sz_V : w.heap.size + 2 < (((w.alloc (.cells #[.slice ab_d d.blocks.length cb_d, .slice au_d d.waits.length cu_d] 44)).alloc (.cells #[.int .i64 (pn : Int)] 3)).alloc (.cells #[.slice none 0 0] 26)).heap.size := by simp
  obtain ⟨V, hV⟩ : ∃ V, (((w.alloc (.cells #[.slice ab_d d.blocks.length cb_d, .slice au_d d.waits.length cu_d] 44)).alloc (.cells #[.int .i64 (pn : Int)] 3)).alloc (.cells #[.slice none 0 0] 26)) = V := ⟨_, rfl⟩
  rw [hV] at sz_V q_d q_p q_r D_d hB
  clear hst h_d hq
  have HQ := Lib.hid (And.intro q_d (And.intro q_p (And.intro q_r (And.intro D_d hB))))
  clear q_d q_p q_r D_d hB
  have c_q_d0 := LK.cell HQ.out.1 0
  have c_q_d1 := LK.cell HQ.out.1 1
  have c_q_p0 := LK.cell HQ.out.2.1 0
  have c_q_r0 := LK.cell HQ.out.2.2.1 0
  simp at c_q_d0 c_q_d1 c_q_p0 c_q_r0
  have HM := Lib.hid (may_len hmd)
  have hpl : pn < d.blocks.length := by have := HM.out.1; omega
  clear hmd
  have HD0 := Lib.hid (Lv.get HQ.out.2.2.2.1)
  refine (callsIn_wide (n := 5)).1 ?_
  refine callsIn_of_wp_marks Try.func124 rfl trivial ?_ rfl
  simp only [Try.ntmps124, List.size_toArray, List.length_cons, List.length_nil, Nat.reduceAdd, Nat.reduceSub, Array.replicate_succ, Array.replicate_zero, List.push_toArray, List.append_toArray, List.nil_append, List.cons_append]
  gi_wp2_with (refine ⟨trivial, ?_⟩; gi_at_call 114; refine (backw_in Fence.wide _ trivial rfl _ _ _ _).mono ?_; rintro e w2 ⟨rfl, rfl⟩)
  clear hV
  have hbx := cell_new_l V (.slice au_d d.waits.length cu_d) 42
  have hsV : V.heap.size < (V.alloc (.cells #[.slice au_d d.waits.length cu_d] 42)).heap.size := by simp
  clear c_q_d0 c_q_d1 c_q_p0 c_q_r0
  obtain ⟨q_d, q_p, q_r, D_d, hB⟩ := HQ.out
  clear HQ
  have hst : Below V.heap.size V (V.alloc (.cells #[.slice au_d d.waits.length cu_d] 42)) := (Below.refl V.heap.size V).alloc (Nat.le_refl _) _
  obtain ⟨V2, hV2⟩ : ∃ v, V.alloc (.cells #[.slice au_d d.waits.length cu_d] 42) = v := ⟨_, rfl⟩
  rw [hV2] at hbx hst hsV ⊢
  clear hV2
  replace q_d := q_d.step hst
  replace q_p := q_p.step hst
  replace q_r := q_r.step hst
  replace D_d := D_d.step hst
  replace hB := hB.step hst
  have HQ := Lib.hid (And.intro q_d (And.intro q_p (And.intro q_r (And.intro D_d hB))))
  clear q_d q_p q_r D_d hB
  obtain ⟨gb, hgb⟩ : ∃ v, V.heap.size = v := ⟨_, rfl⟩
  rw [hgb] at hbx hsV sz_V ⊢
  obtain ⟨bs, hbl, hba, hbc⟩ := writes_of (Lv.get HQ.out.2.2.2.1).2
  have HA := Lib.hid (And.intro hbl (And.intro hba hbc))
  have HX := Lib.hid (And.intro hbx hsV)
  have HD2 := Lib.hid (Lv.get HQ.out.2.2.2.1)
  clear hbl hba hbc hbx hst hgb
  gi_wp2_with fail
  refine wpIn_rangeFunc_ownH rfl (by omega) (gf := 139) (lb := #[.pointer (some ⟨gb, 0, none⟩)]) rfl trivial (enters_of Try.func139 (by kernel_rfl) rfl)
    (backw_stops Fence.wide 4 trivial rfl (by omega) gb w.heap.size au_d cu_d bs V2 HX.out.2 (by omega) (by rw [HA.out.1]; exact HX.out.1.1) (by rw [HA.out.1]; exact gu_d) gv_d HA.out.2.2) KeepB.trans (keepB_b (by omega) HX.out.2) (Below.refl _ _) (fun _ => rfl)
    (fun pre W => (∀ i ∈ pre, bs[i.1].1 ≠ (pn : Int)) ∧ Below V2.heap.size V2 W)
    (fun c pre W => (∃ Wx, (c = .ret ∧ ∃ pre' x, pre = pre' ++ [x] ∧ (∀ i ∈ pre', bs[i.1].1 ≠ (pn : Int)) ∧ bs[x.1].1 = (pn : Int) ∧ Wx.cell? ⟨w.heap.size + 1 + 1, 0, none⟩ = some bs[x.1].2) ∧ CK Wx W) ∧ Below w.heap.size V2 W)
    ((ownFrom_pure _ _).and (ownFrom_below (Nat.le_refl _) (Nat.le_refl _)))
    (fun c => ((ck_own _).from _).and (ownFrom_below (n₀ := w.heap.size) (B := V2.heap.size) (w₀ := V2) (show w.heap.size ≤ V2.heap.size by omega) (show w.heap.size ≤ V2.heap.size by omega)))
    ⟨fun _ h => (by cases h), Below.refl _ _⟩
    (fun x a' W => ∃ bx, a' = ({ tmps := #[.agg #[.slice ab_d d.blocks.length cb_d, .slice au_d d.waits.length cu_d], .int .i64 (pn : Int), .pointer (some ⟨w.heap.size, 0, none⟩), .pointer (some ⟨w.heap.size + 1, 0, none⟩), .pointer (some ⟨w.heap.size + 1 + 1, 0, none⟩), undef, .pointer (some ⟨bx, 0, none⟩), .pointer (some ⟨w.heap.size, 1, none⟩), .slice au_d d.waits.length cu_d, .func (.func 139) #[] #[.pointer (some ⟨gb, 0, none⟩)], .int .i64 (x.1 : Int), .agg #[.int .i64 bs[x.1].1, bs[x.1].2], undef, undef, undef, undef, undef, undef, undef, undef, undef, undef, undef], defers := [] } : Act) ∧ V2.heap.size ≤ bx ∧ W.heap[bx]? = some (.cells #[.int .i64 bs[x.1].1, bs[x.1].2] 143 (0, 0)))
    ?hax ?assign ?body ?done ?stop
  case hax =>
    intro x a' s W W' row h hg hr
    obtain ⟨bx, h1, h2, h3⟩ := h
    refine ⟨bx, h1, h2, ?_⟩
    refine (hg.block bx (Array.getElem?_eq_some_iff.1 h3).1 (fun e => ?_)).trans h3
    obtain ⟨-, o, ho, hc⟩ := hr bx e.symm
    rw [h3] at ho
    cases ho
    cases hc
  case assign =>
    rintro l pre x W K ⟨hU, hBW⟩ hK
    obtain ⟨e1, e2⟩ := HA.out.2.1 x.1 bs[x.1] (by simp)
    have hnew := World.alloc_heap_new W (.cells #[.int .i64 bs[x.1].1, bs[x.1].2] 143)
    have hfr := (Below.refl W.heap.size W).alloc (Nat.le_refl _) (.cells #[.int .i64 bs[x.1].1, bs[x.1].2] 143)
    have hHK := hK
    obtain ⟨av, cv, hv, -, -⟩ := e2.form rfl
    rw [hv] at hnew hfr ⊢
    have HV := Lib.hid hv
    generalize (d.waits.getD x.1 ⟨0, []⟩).data.length = dl at *
    have HK := Lib.hid hHK
    clear hHK hK e1 e2 hv
    gi_wp2
    refine HK.out _ _ ⟨hfr.size, fun k o _ hko _ => (hfr.block k (Array.getElem?_eq_some_iff.1 hko).1).trans hko⟩ ⟨hfr.mono (by have := hBW.size; omega), hfr.cell (p := ⟨gb, 0, none⟩) (Nat.lt_of_lt_of_le HX.out.2 hBW.size)⟩ ⟨hU, below_step hBW hBW.size hfr⟩ ⟨W.heap.size, ?_, hBW.size, by rw [HV.out]; exact hnew⟩
    rw [HV.out]
  case body =>
    rintro l pre x a' W hl - ⟨hU, hBW⟩ ⟨bx, rfl, hbx, hcell⟩ hlen
    have b0 := blk_cell hcell 0
    have b1 := blk_cell hcell 1
    simp at b0 b1
    have m1 := (hBW.cell (p := ⟨w.heap.size + 1, 0, none⟩) (by show w.heap.size + 1 < V2.heap.size; omega)).trans (by simpa using LK.cell (HQ.out.2.1) 0 : V2.cell? ⟨w.heap.size + 1, 0, none⟩ = some (.int .i64 pn))
    have r6 := (hBW.block (w.heap.size + 2) (by omega)).trans (LK.blk (HQ.out.2.2.1))
    have m6 := blk_cell r6 0
    have z6 := blk_frozen r6 0
    simp at m6
    have HP := Lib.hid (And.intro hU (And.intro hBW r6))
    clear hU hBW hcell r6
    obtain ⟨xa2, hxa⟩ : ∃ xa, bs[x.1].1 = xa := ⟨_, rfl⟩
    obtain ⟨xv, hxv⟩ : ∃ xv, bs[x.1].2 = xv := ⟨_, rfl⟩
    rw [hxa] at b0
    rw [hxv] at b1
    rw [hxa, hxv]
    obtain ⟨-, e2⟩ := HA.out.2.1 x.1 bs[x.1] (by simp)
    obtain ⟨av, cv, hv, -, -⟩ := e2.form rfl
    clear e2
    generalize (d.waits.getD x.1 ⟨0, []⟩).data.length = dl at *
    rw [hxv] at hv
    subst hv
    have HXA := Lib.hid (And.intro hxa hxv)
    clear hxa hxv
    by_cases hat : xa2 = (pn : Int)
    · have dt : (xa2 == (pn : Int)) = true := by simp [hat]
      gi_wp2
      refine ⟨⟨Nat.le_of_eq (World.size_setCell _ _ _).symm, fun k o hVk hk _ => (set_other W _ _ _ k (by omega)).trans hk⟩, ⟨_, ⟨rfl, pre, x, rfl, HP.out.1, by rw [HXA.out.1]; exact hat, ?_⟩, CK.refl _⟩, (HP.out.2.1.mono (by omega)).setCell (p := ⟨w.heap.size + 1 + 1, 0, none⟩) (by show w.heap.size ≤ w.heap.size + 1 + 1; omega) _⟩
      rw [HXA.out.2]
      exact World.cell?_setCell_same' _ _ _ (by rw [m6]; rfl)
    · have dt : (xa2 == (pn : Int)) = false := by simp [hat]
      gi_wp2
      refine ⟨KeepsFrom.refl _ _, KeepB.refl _ _ _, fun i hi => ?_, HP.out.2.1⟩
      rcases List.mem_append.1 hi with hi | hi
      · exact HP.out.1 i hi
      · obtain rfl := List.mem_singleton.1 hi
        rw [HXA.out.1]
        exact hat
  case done =>
    rintro D xs W hD rfl ⟨hU, hBW⟩ hK
    have hBw : Below w.heap.size w W := below_step (HQ.out.2.2.2.2) (Below.size (HQ.out.2.2.2.2)) hBW
    have hseen : seenD d pn = d.blocks.getD pn [] := by
      unfold seenD
      rw [lastW_none d.waits pn (fun y hy => by
        obtain ⟨j, hj⟩ := List.mem_iff_getElem?.1 hy
        have hjl := (List.getElem?_eq_some_iff.1 hj).1
        have hjb : j < bs.length := by have := HA.out.1; omega
        have := hU ⟨j, hjb⟩ ((backF_mem _ _ _).2 (by omega))
        rw [(HA.out.2.1 j bs[j] (by simp [hjb])).1, List.getD_eq_getElem?_getD, hj] at this
        exact this)]
      rfl
    obtain ⟨bb, bo, cb2, e2, -, z1, z2, z3, hbe⟩ := HD2.out.1.at_ (by omega)
    injection e2 with ea _ ec
    subst ea ec
    obtain ⟨v, hv, hvb⟩ := hbe pn (d.blocks.getD pn []) (get_l _ _ _ hpl)
    have HS := Lib.hid hseen
    obtain ⟨dat, hdat⟩ : ∃ dat, d.blocks.getD pn [] = dat := ⟨_, rfl⟩
    rw [hdat] at hvb HS
    obtain ⟨xa, xc, rfl, -, -⟩ := hvb.form rfl
    have hv' : W.cell? ⟨bb, bo + pn, none⟩ = some (.slice xa dat.length xc) := (hBW.cell (p := ⟨bb, bo + pn, none⟩) (by show bb < V2.heap.size; omega)).trans (by simpa [rBytes] using hv)
    have m0 := (hBW.cell (p := ⟨w.heap.size, 0, none⟩) (by show w.heap.size < V2.heap.size; omega)).trans (LK.cell (HQ.out.1) 0)
    have m1 := (hBW.cell (p := ⟨w.heap.size + 1, 0, none⟩) (by show w.heap.size + 1 < V2.heap.size; omega)).trans (LK.cell (HQ.out.2.1) 0)
    have r6 := (hBW.block (w.heap.size + 2) (by omega)).trans (LK.blk (HQ.out.2.2.1))
    have m6 := blk_cell r6 0
    have z6 := blk_frozen r6 0
    simp at m0 m1 m6
    have HP := Lib.hid (And.intro hvb (And.intro hBw (And.intro hBW (And.intro hK r6))))
    unfold maxLen at z3
    clear hbe hv hvb hseen hdat hU hBW hK hBw r6
    gi_wp2
    obtain ⟨hvb, hBw, hBW, hK, r6⟩ := HP.out
    have hVW := hBW.size
    have hoth : ∀ k, k ≠ w.heap.size + 2 → (W.setCell ⟨w.heap.size + 1 + 1, 0, none⟩ (.slice xa dat.length xc)).heap[k]? = W.heap[k]? := fun k h1 => set_other W _ _ _ k h1
    have hK2 := (hoth D (by omega)).trans hK
    have hc2 : (W.setCell ⟨w.heap.size + 1 + 1, 0, none⟩ (.slice xa dat.length xc)).cell? ⟨w.heap.size + 2, 0, none⟩ = some (.slice xa dat.length xc) := World.cell?_setCell_same' _ _ _ (by rw [m6]; rfl)
    have hBf := hBw.setCell (p := ⟨w.heap.size + 1 + 1, 0, none⟩) (by show w.heap.size ≤ w.heap.size + 1 + 1; omega) (.slice xa dat.length xc)
    have hBz := (Below.refl w.heap.size W).setCell (p := ⟨w.heap.size + 1 + 1, 0, none⟩) (by show w.heap.size ≤ w.heap.size + 1 + 1; omega) (.slice xa dat.length xc)
    have hsz : (W.setCell ⟨w.heap.size + 1 + 1, 0, none⟩ (.slice xa dat.length xc)).heap.size = W.heap.size := World.size_setCell _ _ _
    generalize (W.setCell ⟨w.heap.size + 1 + 1, 0, none⟩ (.slice xa dat.length xc)) = zf at *
    have hB2 := (belowK_b (w := w) (Nat.le_refl _) zf D (.deferred (some [])) (.deferred none) (by omega) hK2 rfl rfl)
    have hck2 : CK zf (zf.putObj D (.deferred none)) := ⟨by simp, fun a v h => ⟨cell_kept h (grownBy_putObj' zf D (.deferred none)) (fun r e => by cases e; exact ⟨_, hK2, rfl⟩), frozen_kept h (grownBy_putObj' zf D (.deferred none)) (fun r e => by cases e; exact ⟨_, hK2, rfl⟩)⟩⟩
    have s2 := (hck2.2 _ _ hc2).1
    have hfin := hBf.trans hB2
    refine ⟨by simp, .inl ⟨_, _, rfl, run_takeDeferred hK2, ?_⟩⟩
    refine ⟨.slice xa dat.length xc, by simp [results, Try.results124, go_sem, s2], _, rfl, ?_, hfin⟩
    rw [HS.out]
    exact (hvb.below ((hBW.mono (by omega)).trans (hBz.trans hB2)) (Nat.le_refl _)).more (Nat.le_refl _) hfin.size
  case stop =>
    rintro D c pre W hD ⟨k, hk, hpre⟩ ⟨⟨Wx, ⟨rfl, pre', x, rfl, hU, hx, hc6⟩, hck⟩, hB⟩ hK
    have hseen : seenD d pn = (d.waits.getD x.1 ⟨0, []⟩).data := by
      cases k with
      | zero => simp [backF] at hpre
      | succ k =>
        rw [backF_succ _ k (bs.length - 1 - k) (by omega) (by omega)] at hpre
        obtain ⟨h1, h2⟩ := List.append_inj' hpre rfl
        have h3 := List.cons.inj h2
        have hx1 : x.1 = bs.length - 1 - k := by rw [h3.1]
        unfold seenD
        rw [lastW_at d.waits pn x.1 (by have := HA.out.1; omega) (by rw [← (HA.out.2.1 x.1 bs[x.1] (by simp)).1]; exact hx) (fun j hj hjl => by
          have hjb : j < bs.length := by have := HA.out.1; omega
          rw [← (HA.out.2.1 j bs[j] (by simp [hjb])).1]
          exact hU ⟨j, hjb⟩ (by rw [h1]; exact (backF_mem _ _ _).2 (by show bs.length ≤ j + k; omega)))]
    obtain ⟨-, e2⟩ := HA.out.2.1 x.1 bs[x.1] (by simp)
    have hB2 := (belowK_b (w := w) (Nat.le_refl _) W D (.deferred (some [])) (.deferred none) (by omega) hK rfl rfl)
    have hck2 : CK W (W.putObj D (.deferred none)) := ⟨by simp, fun a v h => ⟨cell_kept h (grownBy_putObj' W D (.deferred none)) (fun r e => by cases e; exact ⟨_, hK, rfl⟩), frozen_kept h (grownBy_putObj' W D (.deferred none)) (fun r e => by cases e; exact ⟨_, hK, rfl⟩)⟩⟩
    have s2 := (hck2.2 _ _ (hck.2 _ _ hc6).1).1
    have hfin := (Below.trans (HQ.out.2.2.2.2) hB).trans hB2
    have HS := Lib.hid (And.intro hseen (And.intro e2 (And.intro hB (And.intro hB2 hfin))))
    clear hseen e2 hB hB2 hfin
    gi_wp2
    refine ⟨by simp, .inl ⟨_, _, rfl, run_takeDeferred hK, ?_⟩⟩
    refine ⟨bs[x.1].2, by simp [results, Try.results124, go_sem, s2], _, rfl, ?_, HS.out.2.2.2.2⟩
    rw [HS.out.1]
    exact (HS.out.2.1.below (HS.out.2.2.1.trans HS.out.2.2.2.1) (Nat.le_refl _)).more (Nat.le_refl _) HS.out.2.2.2.2.size

def errSn (s : StoreL) (p : Int) : Int := if errAs s p ≠ 0 then errAs s p else if errNd (seenD s.disk p) = 0 then 0 else 8
def nodeS (s : StoreL) (p : Int) : NodeL := if errSn s p = 0 then readNd (seenD s.disk p) else ⟨0, []⟩

set_option maxRecDepth 100000 in
set_option maxHeartbeats 1000000 in
theorem snode_any (b_s u_s x_s y_s : Value) (s : StoreL) (p : Int) (w : World) (h_s : StoreV w 0 w.heap.size b_s u_s x_s y_s s) :
    Calls Try.prog 81 #[.agg #[b_s, u_s, x_s, y_s], .int .i64 p] w fun e w' => ∃ v, e = .returned (.tuple #[.agg #[.int .i64 (nodeS s p).level, v], .int .i64 (errSn s p)]) ∧ Sl rItemT w' w.heap.size w'.heap.size v (nodeS s p).items ∧ Below w.heap.size w w' := by
  by_cases hne : errAs s p = 0
  case neg =>
    have h1 : errSn s p = errAs s p := by unfold errSn; rw [if_pos hne]
    have h2 : nodeS s p = ⟨0, []⟩ := by unfold nodeS; rw [h1, if_neg hne]
    rw [h1, h2]
    exact (snode_no b_s u_s x_s y_s s p w h_s hne).mono fun e w' hh => ⟨_, hh.1, Sl.nil_ _ _ _, hh.2⟩
  obtain ⟨hm, h8, h9, -⟩ := errAs_zero hne
  obtain ⟨pn, rfl⟩ : ∃ pn : Nat, p = pn := ⟨p.toNat, by omega⟩
  obtain ⟨ab_s, cb_s, rfl, gb_s, gc_s, -, -⟩ := h_s.1.1
  obtain ⟨au_s, cu_s, rfl, gu_s, gv_s, -, -⟩ := h_s.1.2
  obtain ⟨ax_s, cx_s, rfl, gx_s, gz_s⟩ := h_s.2.1.form rfl
  obtain ⟨ay_s, cy_s, rfl, gy_s, gw_s⟩ := h_s.2.2.form rfl
  unfold maxLen at gc_s gv_s gz_s gw_s
  have hst := (((Below.refl w.heap.size w).alloc (Nat.le_refl _) (.cells #[.slice ab_s s.disk.blocks.length cb_s, .slice au_s s.disk.waits.length cu_s, .slice ax_s s.now.length cx_s, .slice ay_s s.last.length cy_s] 46)).alloc (by simp) (.cells #[.int .i64 0, .slice none 0 0] 119))
  have hq := two_new w (.cells #[.slice ab_s s.disk.blocks.length cb_s, .slice au_s s.disk.waits.length cu_s, .slice ax_s s.now.length cx_s, .slice ay_s s.last.length cy_s] 46) (.cells #[.int .i64 0, .slice none 0 0] 119)
  have q_s := LK.of hq.1
  have q_r := LK.of hq.2
  have hB : LW w _ := hst
  have O_s := (LO.of h_s (Nat.le_refl _)).step hst
  have sz_V : w.heap.size + 1 < ((w.alloc (.cells #[.slice ab_s s.disk.blocks.length cb_s, .slice au_s s.disk.waits.length cu_s, .slice ax_s s.now.length cx_s, .slice ay_s s.last.length cy_s] 46)).alloc (.cells #[.int .i64 0, .slice none 0 0] 119)).heap.size := by simp
  obtain ⟨V, hV⟩ : ∃ V, ((w.alloc (.cells #[.slice ab_s s.disk.blocks.length cb_s, .slice au_s s.disk.waits.length cu_s, .slice ax_s s.now.length cx_s, .slice ay_s s.last.length cy_s] 46)).alloc (.cells #[.int .i64 0, .slice none 0 0] 119)) = V := ⟨_, rfl⟩
  rw [hV] at sz_V q_s q_r O_s hB
  clear hst h_s hq
  have HQ := Lib.hid (And.intro q_s (And.intro q_r (And.intro O_s hB)))
  clear q_s q_r O_s hB
  have c_q_s0 := LK.cell HQ.out.1 0
  have c_q_s1 := LK.cell HQ.out.1 1
  have c_q_s2 := LK.cell HQ.out.1 2
  have c_q_s3 := LK.cell HQ.out.1 3
  have c_q_r0 := LK.cell HQ.out.2.1 0
  have c_q_r1 := LK.cell HQ.out.2.1 1
  simp at c_q_s0 c_q_s1 c_q_s2 c_q_s3 c_q_r0 c_q_r1
  have hmd := (mayS_iff.1 hm).1
  have k_a := fun V b u x y hh => sasked_any b u x y s (pn : Int) V hh
  rw [hne] at k_a
  have k_s := fun V b u hh => seen_any s.disk b u pn V hh hmd (by omega)
  have k_r := fun V v hh => nread_any v (seenD s.disk pn) V hh
  have hE : errSn s (pn : Int) = if errNd (seenD s.disk pn) = 0 then 0 else 8 := by unfold errSn; rw [hne, if_neg (by decide)]
  have hN : nodeS s (pn : Int) = if errSn s (pn : Int) = 0 then readNd (seenD s.disk pn) else ⟨0, []⟩ := rfl
  obtain ⟨SD, hSD⟩ : ∃ x, seenD s.disk (pn : Int) = x := ⟨_, rfl⟩
  rw [hSD] at hE hN
  simp only [hSD] at k_s k_r
  obtain ⟨ER, hER⟩ : ∃ x, errNd SD = x := ⟨_, rfl⟩
  obtain ⟨ND, hND⟩ : ∃ x, readNd SD = x := ⟨_, rfl⟩
  rw [hER] at hE
  rw [hND] at hN
  simp only [hER, hND] at k_r
  obtain ⟨es, hes⟩ : ∃ x, errSn s (pn : Int) = x := ⟨_, rfl⟩
  obtain ⟨ns, hns⟩ : ∃ x, nodeS s (pn : Int) = x := ⟨_, rfl⟩
  rw [hes] at hE hN
  rw [hns] at hN
  simp only [hes, hns]
  have HE := Lib.hid (And.intro hE hN)
  clear hE hN hSD hER hND hes hns hm hne hmd
  have HC := Lib.hid (And.intro k_a (And.intro k_s k_r))
  clear k_a k_s k_r
  go_enter Try.func81, Try.ntmps81
  go_upto_region 1 with (fail)
  clear hV
  go_wp2_with fail
  refine (HC.out.1 _ _ _ _ _ HQ.out.2.2.1.v).mono ?_
  rintro e w1 ⟨rfl, hst⟩
  clear c_q_s0 c_q_s1 c_q_s2 c_q_s3 c_q_r0 c_q_r1
  obtain ⟨q_s, q_r, O_s, hB⟩ := HQ.out
  clear HQ
  have sz_w1 : V.heap.size ≤ w1.heap.size := hst.size
  replace q_s := q_s.step hst
  replace q_r := q_r.step hst
  replace O_s := O_s.step hst
  replace hB := hB.step hst
  clear hst
  have HQ := Lib.hid (And.intro q_s (And.intro q_r (And.intro O_s hB)))
  clear q_s q_r O_s hB
  have c_q_s0 := LK.cell HQ.out.1 0
  have c_q_s1 := LK.cell HQ.out.1 1
  have c_q_s2 := LK.cell HQ.out.1 2
  have c_q_s3 := LK.cell HQ.out.1 3
  have c_q_r0 := LK.cell HQ.out.2.1 0
  have c_q_r1 := LK.cell HQ.out.2.1 1
  simp at c_q_s0 c_q_s1 c_q_s2 c_q_s3 c_q_r0 c_q_r1
  go_wp2_with fail
  refine (HC.out.2.1 _ _ _ HQ.out.2.2.1.d).mono ?_
  rintro e w2 ⟨v1, rfl, hv, hst⟩
  clear c_q_s0 c_q_s1 c_q_s2 c_q_s3 c_q_r0 c_q_r1
  obtain ⟨q_s, q_r, O_s, hB⟩ := HQ.out
  clear HQ
  have B_v := LB.of hv (Nat.le_refl _)
  have sz_w2 : w1.heap.size ≤ w2.heap.size := hst.size
  replace q_s := q_s.step hst
  replace q_r := q_r.step hst
  replace O_s := O_s.step hst
  replace hB := hB.step hst
  clear hst
  have HQ := Lib.hid (And.intro q_s (And.intro q_r (And.intro O_s (And.intro B_v hB))))
  clear q_s q_r O_s B_v hB
  have c_q_s0 := LK.cell HQ.out.1 0
  have c_q_s1 := LK.cell HQ.out.1 1
  have c_q_s2 := LK.cell HQ.out.1 2
  have c_q_s3 := LK.cell HQ.out.1 3
  have c_q_r0 := LK.cell HQ.out.2.1 0
  have c_q_r1 := LK.cell HQ.out.2.1 1
  simp at c_q_s0 c_q_s1 c_q_s2 c_q_s3 c_q_r0 c_q_r1
  go_wp2_with fail
  refine (HC.out.2.2 _ _ HQ.out.2.2.2.1.v).mono ?_
  rintro e w3 ⟨u, rfl, hm⟩
  clear c_q_s0 c_q_s1 c_q_s2 c_q_s3 c_q_r0 c_q_r1
  obtain ⟨q_s, q_r, O_s, B_v, hB⟩ := HQ.out
  clear HQ
  have hst := hm.below
  have S_u := LS.of hm.items (Nat.le_refl _)
  obtain ⟨au2, cu2, rfl, -, -⟩ := hm.items
  clear hm
  have sz_w3 : w2.heap.size ≤ w3.heap.size := hst.size
  replace q_s := q_s.step hst
  replace q_r := q_r.step hst
  replace O_s := O_s.step hst
  replace B_v := B_v.step hst
  replace hB := hB.step hst
  clear hst
  have HQ := Lib.hid (And.intro q_s (And.intro q_r (And.intro O_s (And.intro B_v (And.intro S_u hB)))))
  clear q_s q_r O_s B_v S_u hB
  have c_q_s0 := LK.cell HQ.out.1 0
  have c_q_s1 := LK.cell HQ.out.1 1
  have c_q_s2 := LK.cell HQ.out.1 2
  have c_q_s3 := LK.cell HQ.out.1 3
  have c_q_r0 := LK.cell HQ.out.2.1 0
  have c_q_r1 := LK.cell HQ.out.2.1 1
  have z_q_r0 := LK.frozen HQ.out.2.1 0
  have z_q_r1 := LK.frozen HQ.out.2.1 1
  simp at c_q_s0 c_q_s1 c_q_s2 c_q_s3 c_q_r0 c_q_r1
  go_upto_region 5 with (fail)
  clear z_q_r0 z_q_r1 c_q_s0 c_q_s1 c_q_s2 c_q_s3 c_q_r0 c_q_r1
  obtain ⟨q_s, q_r, O_s, B_v, S_u, hB⟩ := HQ.out
  clear HQ
  have hst := (Below.refl w3.heap.size w3).alloc (Nat.le_refl _) (.cells #[.int .i64 ND.level, .slice au2 ND.items.length cu2] 119)
  have hlt : w3.heap.size < (w3.alloc (.cells #[.int .i64 ND.level, .slice au2 ND.items.length cu2] 119)).heap.size := by simp
  have q_n := LK.new w3 (.cells #[.int .i64 ND.level, .slice au2 ND.items.length cu2] 119)
  replace q_s := q_s.step hst
  replace q_r := q_r.step hst
  replace O_s := O_s.step hst
  replace B_v := B_v.step hst
  replace S_u := S_u.step hst
  replace hB := hB.step hst
  obtain ⟨w4, hw⟩ : ∃ v, w3.alloc (.cells #[.int .i64 ND.level, .slice au2 ND.items.length cu2] 119) = v := ⟨_, rfl⟩
  rw [hw] at hlt q_n q_s q_r O_s B_v S_u hB ⊢
  clear hw hst
  have sz_w4 := hlt
  clear hlt
  have HQ := Lib.hid (And.intro q_s (And.intro q_r (And.intro O_s (And.intro B_v (And.intro S_u (And.intro q_n hB))))))
  clear q_s q_r O_s B_v S_u q_n hB
  have c_q_s0 := LK.cell HQ.out.1 0
  have c_q_s1 := LK.cell HQ.out.1 1
  have c_q_s2 := LK.cell HQ.out.1 2
  have c_q_s3 := LK.cell HQ.out.1 3
  have c_q_r0 := LK.cell HQ.out.2.1 0
  have c_q_r1 := LK.cell HQ.out.2.1 1
  have c_q_n0 := LK.cell HQ.out.2.2.2.2.2.1 0
  have c_q_n1 := LK.cell HQ.out.2.2.2.2.2.1 1
  simp at c_q_s0 c_q_s1 c_q_s2 c_q_s3 c_q_r0 c_q_r1 c_q_n0 c_q_n1
  have y0 := LK.frozen HQ.out.2.1 0
  have y1 := LK.frozen HQ.out.2.1 1
  by_cases hz : ER = 0
  · subst hz
    have hE := HE.out.1
    rw [if_pos rfl] at hE
    have hN := HE.out.2
    rw [if_pos hE] at hN
    subst hE hN
    go_wp2
    refine bodyPost_ret (v := .tuple #[.agg #[.int .i64 ns.level, .slice au2 ns.items.length cu2], .int .i64 0]) (by simp [results, Try.results81, go_sem, c_q_r0, c_q_r1]) rfl ⟨_, rfl, ?_, ?_⟩
    · have hfr : ∀ x, x < w4.heap.size → (x < w.heap.size + 1 ∨ w.heap.size + 2 ≤ x) → ((w4.setCell ⟨w.heap.size + 1, 0, none⟩ (.int .i64 ns.level)).setCell ⟨w.heap.size + 1, 1, none⟩ (.slice au2 ns.items.length cu2)).heap[x]? = w4.heap[x]? := fun x _ h => (set_other _ _ _ _ _ (by omega)).trans (set_other _ _ _ _ _ (by omega))
      have hS := LS.out HQ.out.2.2.2.2.1 (by simp only [World.size_setCell]; exact Nat.le_refl _) hfr (.inr (by omega))
      exact Sl.more (Lv.get hS) (by omega) (Lv.hi_le hS)
    · exact (Below.setCell HQ.out.2.2.2.2.2.2 (p := ⟨w.heap.size + 1, 0, none⟩) (Nat.le_succ _) _).setCell (p := ⟨w.heap.size + 1, 1, none⟩) (Nat.le_succ _) _
  · have i1 : (ER == 0) = false := by simp [hz]
    have i2 : (ER != 0) = true := by simp [hz]
    have hE := HE.out.1
    rw [if_neg hz] at hE
    have hN := HE.out.2
    rw [if_neg (by rw [hE]; decide)] at hN
    subst hE hN
    go_wp2
    refine bodyPost_ret (v := .tuple #[.agg #[.int .i64 0, .slice none 0 0], .int .i64 8]) (by simp [results, Try.results81, go_sem, c_q_r0, c_q_r1]) rfl ⟨_, rfl, ?_, ?_⟩
    · exact Sl.nil_ _ _ _
    · exact (Below.setCell HQ.out.2.2.2.2.2.2 (p := ⟨w.heap.size + 1, 0, none⟩) (Nat.le_succ _) _).setCell (p := ⟨w.heap.size + 1, 1, none⟩) (Nat.le_succ _) _

end Go.Proofs.Ytcibihakjcenaaa

namespace Go.Proofs.Ytcibihakjcenaaa
open Go.RowKit

/-- A node's items may be a tree's. -/
def topOk (s : StoreL) (n : NodeL) : Bool := n.items.isEmpty || (wkGo (oneW s n.level.toNat) none n.items).isSome
/-- What is wrong with a tree. -/
def errCk (s : StoreL) (p : Int) : Int := if errAs s p ≠ 0 then errAs s p else if errBn s p.toNat ≠ 0 then errBn s p.toNat else if topOk s (nodeB s p.toNat) then 0 else 8
/-- A tree's height. -/
def heiC (s : StoreL) (p : Int) : Int := if errCk s p = 0 then (nodeB s p.toNat).level + 1 else 0
def fndC (s : StoreL) (p : Int) (k : KeyL) : Option ItemL := fndW s (nodeB s p.toNat).level.toNat (nodeB s p.toNat) k
def errFd (s : StoreL) (p : Int) (k : KeyL) : Int := if errCk s p ≠ 0 then errCk s p else if (fndC s p k).isSome then 0 else 6
def itmF (s : StoreL) (p : Int) (k : KeyL) : ItemL := if errFd s p k = 0 then (fndC s p k).getD nokI else nokI
/-- All items of a tree. -/
def lstC (s : StoreL) (p : Int) : List ItemL := allW s (nodeB s p.toNat).level.toNat (nodeB s p.toNat).items
theorem errBn_zero {s : StoreL} {p : Nat} (h : errBn s p = 0) : s.now.getD p 0 ≠ 0 ∧ errNd (seenD s.disk p) = 0 ∧ nodeB s p = readNd (seenD s.disk p) := by
  have h0 := h
  unfold errBn at h
  by_cases h1 : s.now.getD p 0 = 0
  · rw [if_pos h1] at h; cases h
  rw [if_neg h1] at h
  by_cases h2 : errNd (seenD s.disk p) = 0
  · exact ⟨h1, h2, by unfold nodeB; rw [if_pos h0]⟩
  · rw [if_neg h2] at h; cases h
theorem errBn_of {s : StoreL} {p : Nat} (h1 : s.now.getD p 0 ≠ 0) (h2 : errNd (seenD s.disk p) = 0) : errBn s p = 0 := by unfold errBn; rw [if_neg h1, if_pos h2]
/-- A tree that may be. -/
structure TreeIs (s : StoreL) (p : Int) (l : Nat) : Prop where
  may : mayS s = true
  lo : 8 ≤ p
  hi : p < 256
  err : errBn s p.toNat = 0
  node : mayN (nodeB s p.toNat) = true
  level : (nodeB s p.toNat).level = (l : Int)
  lev : l < 6
  top : ((nodeB s p.toNat).items = [] ∧ l = 0) ∨ ∃ r, wkGo (oneW s l) none (nodeB s p.toNat).items = some r
theorem errCk_zero {s : StoreL} {p : Int} (h : errCk s p = 0) : TreeIs s p (nodeB s p.toNat).level.toNat := by
  unfold errCk at h
  by_cases h1 : errAs s p = 0
  case neg => rw [if_pos h1] at h; exact absurd h h1
  rw [if_neg (by simp [h1])] at h
  by_cases h2 : errBn s p.toNat = 0
  case neg => rw [if_pos h2] at h; exact absurd h h2
  rw [if_neg (by simp [h2])] at h
  by_cases h3 : topOk s (nodeB s p.toNat) = true
  case neg => rw [if_neg h3] at h; cases h
  obtain ⟨a1, a2, a3, -⟩ := errAs_zero h1
  have hm := nodeB_may h2
  obtain ⟨⟨m1, m2⟩, m3, m4, -⟩ := mayN_all hm
  have hl : (nodeB s p.toNat).level = ((nodeB s p.toNat).level.toNat : Int) := by omega
  refine ⟨a1, a2, a3, h2, hm, hl, by omega, ?_⟩
  unfold topOk at h3
  rw [Bool.or_eq_true] at h3
  rcases h3 with h3 | h3
  · refine .inl ⟨List.isEmpty_iff.1 h3, ?_⟩
    rcases m4 with m4 | m4
    · omega
    · rw [List.isEmpty_iff.1 h3] at m4; exact absurd rfl m4
  · exact .inr (Option.isSome_iff_exists.1 h3)
/-- The whole of what is said of a tree. -/
theorem tree_law {s : StoreL} {p : Int} (h : errCk s p = 0) : 1 ≤ heiC s p ∧ heiC s p ≤ 6 ∧ (lstC s p).length ≤ 15625 ∧ Ris (lstC s p) ∧ (∀ y ∈ lstC s p, errFd s p y.key = 0 ∧ itmF s p y.key = y) ∧
    (∀ k, errFd s p k = 0 → itmF s p k ∈ lstC s p ∧ (itmF s p k).key = k) ∧ (∀ k, errFd s p k = 0 ∨ errFd s p k = 6) ∧ ∀ k, (∀ y ∈ lstC s p, y.key ≠ k) → errFd s p k = 6 := by
  have T := errCk_zero h
  obtain ⟨⟨m1, m2⟩, m3, m4, -⟩ := mayN_all T.node
  have hE : ∀ k, errFd s p k = if (fndC s p k).isSome then 0 else 6 := fun k => by unfold errFd; rw [if_neg (by simp [h])]
  have hH : heiC s p = (nodeB s p.toNat).level + 1 := by unfold heiC; rw [if_pos h]
  have hfound : ∀ k y, fndC s p k = some y → errFd s p k = 0 ∧ itmF s p k = y := fun k y hy => by
    have h1 : errFd s p k = 0 := by rw [hE, hy]; rfl
    exact ⟨h1, by unfold itmF; rw [if_pos h1, hy]; rfl⟩
  have hnone : ∀ k, fndC s p k = none → errFd s p k = 6 := fun k hy => by rw [hE, hy]; rfl
  refine ⟨by omega, by omega, ?_, ?_, ?_, ?_, ?_, ?_⟩
  · rcases T.top with ⟨h2, h3⟩ | ⟨r, hr⟩
    · unfold lstC; rw [h3, h2, allW]; simp
    · have := allW_len s _ _ r hr m3
      have h4 := T.lev
      refine Nat.le_trans this ?_
      exact Nat.pow_le_pow_right (n := 5) (by decide) (show _ ≤ 6 by omega)
  · rcases T.top with ⟨h2, h3⟩ | ⟨r, hr⟩
    · unfold lstC; rw [h3, h2, allW]; exact List.Pairwise.nil
    · rcases (top_from hr).1 with h2 | h2
      · unfold lstC; rw [h2]; exact List.Pairwise.nil
      · exact h2.ris
  · intro y hy
    refine hfound _ _ ?_
    rcases T.top with ⟨h2, h3⟩ | ⟨r, hr⟩
    · unfold lstC at hy; rw [h3, h2, allW] at hy; cases hy
    · exact fndW_own s _ _ r y T.node hr hy
  · intro k hk
    cases hf : fndC s p k with
    | none => rw [hnone k hf] at hk; cases hk
    | some y =>
      rw [(hfound k y hf).2]
      exact fndW_mem s _ _ k y hf
  · intro k
    rw [hE]
    cases (fndC s p k).isSome
    · exact .inr rfl
    · exact .inl rfl
  · intro k hk
    exact hnone k (fndW_none hk)
/-- A node of a store, as it is read by either. -/
theorem nodeS_is {s : StoreL} {q : Nat} (hm : mayS s = true) (h8 : 8 ≤ q) (h9 : q < 256) (h : errBn s q = 0) : errSn s (q : Int) = 0 ∧ nodeS s (q : Int) = nodeB s q := by
  obtain ⟨a1, a2, a3⟩ := errBn_zero h
  have h1 : errAs s (q : Int) = 0 := by
    unfold errAs
    rw [if_pos hm, if_neg (by omega), if_neg (by simpa using a1)]
  have h2 : errSn s (q : Int) = 0 := by
    unfold errSn
    rw [if_neg (by simp [h1]), if_pos a2]
  exact ⟨h2, by unfold nodeS; rw [if_pos h2, a3]⟩
theorem ref_of {s : StoreL} {l : Nat} {x : ItemL} {ab : KeyL × KeyL} (hm : mayS s = true) (h : oneW s (l + 1) x = some ab) (hr : x.ref = 0 ∨ (8 ≤ x.ref ∧ x.ref < 256)) : 8 ≤ x.ref ∧ x.ref < 256 := by
  rcases hr with hr | hr
  case inr => exact hr
  exfalso
  obtain ⟨e1, -, -, -⟩ := oneW_succ h
  obtain ⟨a1, -, -⟩ := errBn_zero e1
  have hT := (mayS_iff.1 hm).2.1
  unfold mayT at hT
  rw [Bool.and_eq_true, beq_iff_eq, beq_iff_eq] at hT
  rw [hr] at a1
  refine a1 ?_
  obtain ⟨t1, t2⟩ := hT
  cases hn : s.now with
  | nil => rfl
  | cons a L =>
    rw [hn] at t2
    have := ((maxL_zero _).1 t2) a (by simp)
    simpa using this
/-- Stores alike where one is referred to. -/
structure SameAt (s t : StoreL) : Prop where
  may : mayS t = true
  now : ∀ q, s.now.getD q 0 ≠ 0 → t.now.getD q 0 ≠ 0
  seen : ∀ q : Nat, s.now.getD q 0 ≠ 0 → seenD t.disk q = seenD s.disk q
theorem SameAt.node {s t : StoreL} (h : SameAt s t) {q : Nat} (he : errBn s q = 0) : errBn t q = 0 ∧ nodeB t q = nodeB s q := by
  obtain ⟨a1, a2, a3⟩ := errBn_zero he
  have h1 : errBn t q = 0 := errBn_of (h.now q a1) (by rw [h.seen q a1]; exact a2)
  exact ⟨h1, by rw [(errBn_zero h1).2.2, h.seen q a1, a3]⟩
theorem SameAt.find {s t : StoreL} (h : SameAt s t) : ∀ (l : Nat) (n : NodeL) (k : KeyL), (l = 0 ∨ ∃ r, wkGo (oneW s l) none n.items = some r) → fndW t l n k = fndW s l n k
  | 0, n, k, _ => by rw [fndW, fndW]
  | l + 1, n, k, ht => by
    obtain ⟨r, hr⟩ := ht.resolve_left (by omega)
    have key : ∀ j, j < n.items.length → fndW t l (nodeB t (n.items.getD j nokI).ref.toNat) k = fndW s l (nodeB s (n.items.getD j nokI).ref.toNat) k := fun j hj => by
      have hx : n.items.getD j nokI ∈ n.items := by
        rw [List.getD_eq_getElem?_getD, List.getElem?_eq_getElem hj]
        exact List.getElem_mem hj
      obtain ⟨ab, ho⟩ := wkGo_each _ _ _ _ hr _ hx
      obtain ⟨e1, e2, e3, e4⟩ := oneW_succ ho
      rw [(h.node e1).2]
      exact h.find l _ k (.inr ⟨ab, e4⟩)
    rw [fndW, fndW]
    by_cases hi : isN n.items k = true
    · rw [if_pos hi, if_pos hi]
      refine key _ ?_
      unfold isN at hi
      rw [Bool.and_eq_true, decide_eq_true_eq] at hi
      exact hi.1
    · rw [if_neg hi, if_neg hi]
      by_cases h0 : cntN n.items k = 0
      · rw [if_pos h0, if_pos h0]
      · rw [if_neg h0, if_neg h0]
        exact key _ (by have := cntN_le n.items k; omega)
end Go.Proofs.Ytcibihakjcenaaa

namespace Go.Proofs.Ytcibihakjcenaaa
open Go.RowKit

theorem fwalk_any : ∀ L, WalkC L
  | 0 => fwalk_step 0 fun _ h => by omega
  | L + 1 => fwalk_step (L + 1) fun L' h => by
    obtain rfl : L' = L := by omega
    exact fwalk_any _
theorem check_ways (s : StoreL) (p : Int) : (errS s = 8 ∧ errCk s p = 8 ∧ heiC s p = 0) ∨ (errS s = 0 ∧ mayS s = true ∧ (((p < 8 ∨ 256 ≤ p) ∧ errCk s p = 2 ∧ heiC s p = 0) ∨ ∃ pn : Nat, p = pn ∧ 8 ≤ pn ∧ pn < 256 ∧
    ((s.now.getD pn 0 = 0 ∧ errCk s p = 6 ∧ heiC s p = 0) ∨ (s.now.getD pn 0 ≠ 0 ∧ ((errBn s pn = 8 ∧ errCk s p = 8 ∧ heiC s p = 0) ∨ (errBn s pn = 0 ∧ ∃ (l : Nat) (its : List ItemL), nodeB s pn = ⟨l, its⟩ ∧ mayN ⟨l, its⟩ = true ∧
      ((its.length = 0 ∧ errCk s p = 0 ∧ heiC s p = (l : Int) + 1) ∨ (its.length ≠ 0 ∧ ((wkGo (oneW s l) none its = none ∧ errCk s p = 8 ∧ heiC s p = 0) ∨ ((∃ r, wkGo (oneW s l) none its = some r) ∧ errCk s p = 0 ∧ heiC s p = (l : Int) + 1)))))))))) := by
  have hz : ∀ e : Int, e ≠ 0 → errCk s p = e → errCk s p = e ∧ heiC s p = 0 := fun e h1 h2 => ⟨h2, by unfold heiC; rw [h2, if_neg h1]⟩
  cases hm : mayS s with
  | false =>
    have h : errAs s p = 8 := by unfold errAs; rw [hm]; rfl
    exact .inl ⟨by unfold errS; rw [hm]; rfl, hz 8 (by decide) (by unfold errCk; rw [h, if_pos (by decide)])⟩
  | true =>
    refine .inr ⟨by unfold errS; rw [hm]; rfl, rfl, ?_⟩
    by_cases h1 : p < 8 ∨ 256 ≤ p
    · have h : errAs s p = 2 := by unfold errAs; rw [hm, if_pos rfl, if_pos h1]
      exact .inl ⟨h1, hz 2 (by decide) (by unfold errCk; rw [h, if_pos (by decide)])⟩
    obtain ⟨pn, rfl⟩ : ∃ pn : Nat, p = pn := ⟨p.toNat, by omega⟩
    refine .inr ⟨pn, rfl, by omega, by omega, ?_⟩
    by_cases h2 : s.now.getD pn 0 = 0
    · have h : errAs s (pn : Int) = 6 := by unfold errAs; rw [hm, if_pos rfl, if_neg h1, Int.toNat_natCast, if_pos h2]
      exact .inl ⟨h2, hz 6 (by decide) (by unfold errCk; rw [h, if_pos (by decide)])⟩
    have h : errAs s (pn : Int) = 0 := by unfold errAs; rw [hm, if_pos rfl, if_neg h1, Int.toNat_natCast, if_neg h2]
    refine .inr ⟨h2, ?_⟩
    by_cases h3 : errBn s pn = 0
    case neg =>
      have h4 : errBn s pn = 8 := by
        unfold errBn at h3 ⊢
        rw [if_neg h2] at h3 ⊢
        by_cases h5 : errNd (seenD s.disk pn) = 0
        · rw [if_pos h5] at h3; exact absurd rfl h3
        · rw [if_neg h5]
      exact .inl ⟨h4, hz 8 (by decide) (by unfold errCk; rw [h, if_neg (by decide), Int.toNat_natCast, h4, if_pos (by decide)])⟩
    have hn := nodeB_may h3
    have hl := (mayN_all hn).1
    refine .inr ⟨h3, (nodeB s pn).level.toNat, (nodeB s pn).items, ?_, ?_, ?_⟩
    · cases hh : nodeB s pn with
      | mk a b => rw [hh] at hl; simp only at hl ⊢; rw [show ((a.toNat : Nat) : Int) = a by omega]
    · rw [show (((nodeB s pn).level.toNat : Nat) : Int) = (nodeB s pn).level by omega]; exact hn
    have hc : errCk s (pn : Int) = if topOk s (nodeB s pn) then 0 else 8 := by unfold errCk; rw [h, if_neg (by decide), Int.toNat_natCast, h3, if_neg (by decide)]
    have hy : errCk s (pn : Int) = 0 → heiC s (pn : Int) = (((nodeB s pn).level.toNat : Nat) : Int) + 1 := fun e => by unfold heiC; rw [e, if_pos rfl, Int.toNat_natCast]; omega
    by_cases h4 : (nodeB s pn).items.length = 0
    · have e : errCk s (pn : Int) = 0 := by
        rw [hc]
        unfold topOk
        rw [List.length_eq_zero_iff.1 h4]
        rfl
      exact .inl ⟨h4, e, hy e⟩
    refine .inr ⟨h4, ?_⟩
    have hie : (nodeB s pn).items.isEmpty = false := by
      cases hh : (nodeB s pn).items with
      | nil => rw [hh] at h4; exact absurd rfl h4
      | cons a b => rfl
    cases hw : wkGo (oneW s (nodeB s pn).level.toNat) none (nodeB s pn).items with
    | none =>
      have e : errCk s (pn : Int) = 8 := by
        rw [hc]; unfold topOk; rw [hw, hie]; rfl
      exact .inl ⟨rfl, hz 8 (by decide) e⟩
    | some r =>
      have e : errCk s (pn : Int) = 0 := by
        rw [hc]; unfold topOk; rw [hw, hie]; rfl
      exact .inr ⟨⟨r, rfl⟩, e, hy e⟩
set_option maxRecDepth 100000 in
set_option maxHeartbeats 2000000 in
theorem fcheck_any (b_s u_s x_s y_s : Value) (s : StoreL) (p : Int) (w : World) (h_s : StoreV w 0 w.heap.size b_s u_s x_s y_s s) :
    Calls Try.prog 27 #[.agg #[b_s, u_s, x_s, y_s], .int .i64 p] w fun e w' => e = .returned (.tuple #[.int .i64 (heiC s p), .int .i64 (errCk s p)]) ∧ Below w.heap.size w w' := by
  obtain ⟨ab_s, cb_s, rfl, gb_s, gc_s, -, -⟩ := h_s.1.1
  obtain ⟨au_s, cu_s, rfl, gu_s, gv_s, -, -⟩ := h_s.1.2
  obtain ⟨ax_s, cx_s, rfl, gx_s, gz_s⟩ := h_s.2.1.form rfl
  obtain ⟨ay_s, cy_s, rfl, gy_s, gw_s⟩ := h_s.2.2.form rfl
  unfold maxLen at gc_s gv_s gz_s gw_s
  have hst := ((Below.refl w.heap.size w).alloc (Nat.le_refl _) (.cells #[.slice ab_s s.disk.blocks.length cb_s, .slice au_s s.disk.waits.length cu_s, .slice ax_s s.now.length cx_s, .slice ay_s s.last.length cy_s] 46))
  have q_s := LK.new w (.cells #[.slice ab_s s.disk.blocks.length cb_s, .slice au_s s.disk.waits.length cu_s, .slice ax_s s.now.length cx_s, .slice ay_s s.last.length cy_s] 46)
  have hB : LW w _ := hst
  have O_s := (LO.of h_s (Nat.le_refl _)).step hst
  have sz_V : w.heap.size + 0 < (w.alloc (.cells #[.slice ab_s s.disk.blocks.length cb_s, .slice au_s s.disk.waits.length cu_s, .slice ax_s s.now.length cx_s, .slice ay_s s.last.length cy_s] 46)).heap.size := by simp
  obtain ⟨V, hV⟩ : ∃ V, (w.alloc (.cells #[.slice ab_s s.disk.blocks.length cb_s, .slice au_s s.disk.waits.length cu_s, .slice ax_s s.now.length cx_s, .slice ay_s s.last.length cy_s] 46)) = V := ⟨_, rfl⟩
  rw [hV] at sz_V q_s O_s hB
  clear hst h_s
  have HQ := Lib.hid (And.intro q_s (And.intro O_s hB))
  clear q_s O_s hB
  have c_q_s0 := LK.cell HQ.out.1 0
  have c_q_s1 := LK.cell HQ.out.1 1
  have c_q_s2 := LK.cell HQ.out.1 2
  have c_q_s3 := LK.cell HQ.out.1 3
  simp at c_q_s0 c_q_s1 c_q_s2 c_q_s3
  have k_c := fun V b u x y hh => scheck_any b u x y s V hh
  have k_o := fun (h : s.now.length = 256) V b u x y hh => on_any b u x y s V hh h
  have k_b := fun (pn : Nat) (h : mayD s.disk = true) (hp : pn < 256) lo g nb no nc b u y V hh => bnode_any lo g nb no nc b u y s pn V hh h hp
  have hE := check_ways s p
  obtain ⟨es, hes⟩ : ∃ e, errS s = e := ⟨_, rfl⟩
  obtain ⟨ec, hec⟩ : ∃ e, errCk s p = e := ⟨_, rfl⟩
  obtain ⟨hc, hhc⟩ : ∃ e, heiC s p = e := ⟨_, rfl⟩
  simp only [hes, hec, hhc] at hE k_c ⊢
  clear hes hec hhc
  have HC := Lib.hid (And.intro k_c (And.intro k_o k_b))
  clear k_c k_o k_b
  go_enter Try.func27, Try.ntmps27
  go_upto_region 1 with (fail)
  clear hV
  go_wp2_with fail
  refine (HC.out.1 _ _ _ _ _ HQ.out.2.1.v).mono ?_
  rintro e w1 ⟨rfl, hst⟩
  clear c_q_s0 c_q_s1 c_q_s2 c_q_s3
  obtain ⟨q_s, O_s, hB⟩ := HQ.out
  clear HQ
  have sz_w1 : V.heap.size ≤ w1.heap.size := hst.size
  replace q_s := q_s.step hst
  replace O_s := O_s.step hst
  replace hB := hB.step hst
  clear hst
  have HQ := Lib.hid (And.intro q_s (And.intro O_s hB))
  clear q_s O_s hB
  have c_q_s0 := LK.cell HQ.out.1 0
  have c_q_s1 := LK.cell HQ.out.1 1
  have c_q_s2 := LK.cell HQ.out.1 2
  have c_q_s3 := LK.cell HQ.out.1 3
  simp at c_q_s0 c_q_s1 c_q_s2 c_q_s3
  rcases hE with ⟨rfl, rfl, rfl⟩ | ⟨rfl, hm, hE⟩
  case inl =>
    go_wp2
    go_ret2
    exact ⟨rfl, HQ.out.2.2⟩
  have HM := Lib.hid hm
  clear hm
  rcases hE with ⟨hp, rfl, rfl⟩ | ⟨pn, rfl, h8, hp, hE⟩
  case inr.inl =>
    by_cases hp1 : p < 8
    · skip
      go_wp2
      go_ret2
      exact ⟨rfl, HQ.out.2.2⟩
    have hp2 : 256 ≤ p := by omega
    go_wp2
    go_ret2
    exact ⟨rfl, HQ.out.2.2⟩
  have h256 := mayT_len (mayS_iff.1 HM.out).2.1
  have i8 : ¬ (pn : Int) < 8 := by omega
  have i9 : ¬ (256 : Int) ≤ pn := by omega
  obtain ⟨nw, hnw⟩ : ∃ z, s.now.getD pn 0 = z := ⟨_, rfl⟩
  obtain ⟨b3, o3, c3, e3, -, z3, -, z4, hc3⟩ := (HQ.out.2.1.n).at_n h256 (by decide)
  rw [h256] at e3
  injection e3 with e3 _ e4
  subst e3 e4
  have f5 := hc3 pn nw (by rw [← hnw]; simp [h256, hp])
  simp only [bV] at f5
  rw [hnw] at hE
  have HW := Lib.hid hnw
  clear hnw hc3
  unfold maxLen at z4
  have j9 : (pn : Int) < 256 := by omega
  clear c_q_s0 c_q_s1 c_q_s2 c_q_s3
  obtain ⟨q_s, O_s, hB⟩ := HQ.out
  clear HQ
  rw [h256] at q_s O_s
  have H6 := Lib.hid h256
  clear h256
  have HQ := Lib.hid (And.intro q_s (And.intro O_s hB))
  clear q_s O_s hB
  have c_q_s0 := LK.cell HQ.out.1 0
  have c_q_s1 := LK.cell HQ.out.1 1
  have c_q_s2 := LK.cell HQ.out.1 2
  have c_q_s3 := LK.cell HQ.out.1 3
  simp at c_q_s0 c_q_s1 c_q_s2 c_q_s3
  rcases hE with ⟨hn, rfl, rfl⟩ | ⟨hn, hE⟩
  case inl =>
    subst hn
    go_wp2
    go_ret2
    exact ⟨rfl, HQ.out.2.2⟩
  have hni : ¬ (nw.toNat : Int) = 0 := by
    intro h
    exact hn (UInt8.toNat_inj.1 (by show nw.toNat = (0 : UInt8).toNat; rw [show (0 : UInt8).toNat = 0 from rfl]; omega))
  go_wp2_with fail
  refine (HC.out.2.1 H6.out _ _ _ _ _ HQ.out.2.1.v).mono ?_
  rintro e w2 ⟨g, nb, no, nc, au, rfl, hben, hst⟩
  clear c_q_s0 c_q_s1 c_q_s2 c_q_s3
  obtain ⟨q_s, O_s, hB⟩ := HQ.out
  clear HQ
  have B_b := hben
  clear hben
  have sz_w2 : w1.heap.size ≤ w2.heap.size := hst.size
  replace q_s := q_s.step hst
  replace O_s := O_s.step hst
  replace hB := hB.step hst
  clear hst
  have HQ := Lib.hid (And.intro q_s (And.intro O_s (And.intro B_b hB)))
  clear q_s O_s B_b hB
  have c_q_s0 := LK.cell HQ.out.1 0
  have c_q_s1 := LK.cell HQ.out.1 1
  have c_q_s2 := LK.cell HQ.out.1 2
  have c_q_s3 := LK.cell HQ.out.1 3
  simp at c_q_s0 c_q_s1 c_q_s2 c_q_s3
  go_upto_region 9 with (fail)
  clear c_q_s0 c_q_s1 c_q_s2 c_q_s3
  obtain ⟨q_s, O_s, B_b, hB⟩ := HQ.out
  clear HQ
  have hst := (Below.refl w2.heap.size w2).alloc (Nat.le_refl _) (.cells #[.pointer (some ⟨g, 0, none⟩)] 116)
  have hlt : w2.heap.size < (w2.alloc (.cells #[.pointer (some ⟨g, 0, none⟩)] 116)).heap.size := by simp
  have q_b := LK.new w2 (.cells #[.pointer (some ⟨g, 0, none⟩)] 116)
  replace q_s := q_s.step hst
  replace O_s := O_s.step hst
  replace B_b := B_b.step hst
  replace hB := hB.step hst
  obtain ⟨w3, hw⟩ : ∃ v, w2.alloc (.cells #[.pointer (some ⟨g, 0, none⟩)] 116) = v := ⟨_, rfl⟩
  rw [hw] at hlt q_b q_s O_s B_b hB ⊢
  clear hw hst
  have sz_w3 := hlt
  clear hlt
  have HQ := Lib.hid (And.intro q_s (And.intro O_s (And.intro B_b (And.intro q_b hB))))
  clear q_s O_s B_b q_b hB
  have c_q_s0 := LK.cell HQ.out.1 0
  have c_q_s1 := LK.cell HQ.out.1 1
  have c_q_s2 := LK.cell HQ.out.1 2
  have c_q_s3 := LK.cell HQ.out.1 3
  have c_q_b0 := LK.cell HQ.out.2.2.2.1 0
  simp at c_q_s0 c_q_s1 c_q_s2 c_q_s3 c_q_b0
  go_wp2_with fail
  refine (HC.out.2.2 pn (mayS_iff.1 HM.out).1 hp _ _ _ _ _ _ _ _ _ HQ.out.2.2.1).mono ?_
  rintro e w4 ⟨vn, rfl, hsl, hst⟩
  clear c_q_s0 c_q_s1 c_q_s2 c_q_s3 c_q_b0
  obtain ⟨q_s, O_s, B_b, q_b, hB⟩ := HQ.out
  clear HQ
  have hvw := sl_itemT hsl
  clear hsl
  obtain ⟨ac, cc, rfl, gc1, gc2, -, -⟩ := id hvw
  unfold maxLen at gc2
  have sz_w4 : w3.heap.size ≤ w4.heap.size := hst.size
  replace q_s := q_s.step hst
  replace O_s := O_s.step hst
  replace B_b := B_b.step hst
  replace q_b := q_b.step hst
  replace hB := hB.step hst
  clear hst
  have HQ := Lib.hid (And.intro q_s (And.intro O_s (And.intro B_b (And.intro q_b hB))))
  clear q_s O_s B_b q_b hB
  have c_q_s0 := LK.cell HQ.out.1 0
  have c_q_s1 := LK.cell HQ.out.1 1
  have c_q_s2 := LK.cell HQ.out.1 2
  have c_q_s3 := LK.cell HQ.out.1 3
  have c_q_b0 := LK.cell HQ.out.2.2.2.1 0
  simp at c_q_s0 c_q_s1 c_q_s2 c_q_s3 c_q_b0
  rcases hE with ⟨he, rfl, rfl⟩ | ⟨he, l, its, hnd, hmn, hE⟩
  case inl =>
    rw [he]
    go_wp2
    go_ret2
    exact ⟨rfl, Below.alloc HQ.out.2.2.2.2 (Below.size HQ.out.2.2.2.2) _⟩
  rw [he]
  rw [hnd] at hvw ⊢
  simp only at hvw ⊢
  simp only [hnd] at gc1
  clear he hnd
  have m0 := (mayN_all hmn).1.2
  simp only at m0
  have HMN := Lib.hid hmn
  clear hmn
  clear c_q_s0 c_q_s1 c_q_s2 c_q_s3 c_q_b0
  obtain ⟨q_s, O_s, B_b, q_b, hB⟩ := HQ.out
  clear HQ
  have S_c := LS.of hvw (Nat.le_refl _)
  clear hvw
  have HQ := Lib.hid (And.intro q_s (And.intro O_s (And.intro B_b (And.intro q_b (And.intro S_c hB)))))
  clear q_s O_s B_b q_b S_c hB
  go_upto_region 10 with (fail)
  obtain ⟨q_s, O_s, B_b, q_b, S_c, hB⟩ := HQ.out
  clear HQ
  have hst := (Below.refl w4.heap.size w4).alloc (Nat.le_refl _) (.cells #[.int .i64 (l : Int), .slice ac its.length cc] 119)
  have hlt : w4.heap.size < (w4.alloc (.cells #[.int .i64 (l : Int), .slice ac its.length cc] 119)).heap.size := by simp
  have q_c := LK.new w4 (.cells #[.int .i64 (l : Int), .slice ac its.length cc] 119)
  replace q_s := q_s.step hst
  replace O_s := O_s.step hst
  replace B_b := B_b.step hst
  replace q_b := q_b.step hst
  replace S_c := S_c.step hst
  replace hB := hB.step hst
  obtain ⟨w5, hw⟩ : ∃ v, w4.alloc (.cells #[.int .i64 (l : Int), .slice ac its.length cc] 119) = v := ⟨_, rfl⟩
  rw [hw] at hlt q_c q_s O_s B_b q_b S_c hB ⊢
  clear hw hst
  have sz_w5 := hlt
  clear hlt
  have HQ := Lib.hid (And.intro q_s (And.intro O_s (And.intro B_b (And.intro q_b (And.intro S_c (And.intro q_c hB))))))
  clear q_s O_s B_b q_b S_c q_c hB
  have c_q_s0 := LK.cell HQ.out.1 0
  have c_q_s1 := LK.cell HQ.out.1 1
  have c_q_s2 := LK.cell HQ.out.1 2
  have c_q_s3 := LK.cell HQ.out.1 3
  have c_q_b0 := LK.cell HQ.out.2.2.2.1 0
  have c_q_c0 := LK.cell HQ.out.2.2.2.2.2.1 0
  have c_q_c1 := LK.cell HQ.out.2.2.2.2.2.1 1
  simp at c_q_s0 c_q_s1 c_q_s2 c_q_s3 c_q_b0 c_q_c0 c_q_c1
  rcases hE with ⟨hl0, rfl, rfl⟩ | ⟨hl0, hE⟩
  case inl =>
    have i6 : (its.length : Int) = 0 := by omega
    go_upto_region 14 with (fail)
    clear c_q_s0 c_q_s1 c_q_s2 c_q_s3 c_q_b0 c_q_c0 c_q_c1
    obtain ⟨q_s, O_s, B_b, q_b, S_c, q_c, hB⟩ := HQ.out
    clear HQ
    have hst := (Below.refl w5.heap.size w5).alloc (Nat.le_refl _) (.cells #[.func (.func 74) #[] #[.pointer (some ⟨w.heap.size, 0, none⟩), .pointer (some ⟨w2.heap.size, 0, none⟩), .pointer (some ⟨w5.heap.size, 0, none⟩)]] 122)
    have hlt : w5.heap.size < (w5.alloc (.cells #[.func (.func 74) #[] #[.pointer (some ⟨w.heap.size, 0, none⟩), .pointer (some ⟨w2.heap.size, 0, none⟩), .pointer (some ⟨w5.heap.size, 0, none⟩)]] 122)).heap.size := by simp
    have q_w := LK.new w5 (.cells #[.func (.func 74) #[] #[.pointer (some ⟨w.heap.size, 0, none⟩), .pointer (some ⟨w2.heap.size, 0, none⟩), .pointer (some ⟨w5.heap.size, 0, none⟩)]] 122)
    replace q_s := q_s.step hst
    replace O_s := O_s.step hst
    replace B_b := B_b.step hst
    replace q_b := q_b.step hst
    replace S_c := S_c.step hst
    replace q_c := q_c.step hst
    replace hB := hB.step hst
    obtain ⟨w6, hw⟩ : ∃ v, w5.alloc (.cells #[.func (.func 74) #[] #[.pointer (some ⟨w.heap.size, 0, none⟩), .pointer (some ⟨w2.heap.size, 0, none⟩), .pointer (some ⟨w5.heap.size, 0, none⟩)]] 122) = v := ⟨_, rfl⟩
    rw [hw] at hlt q_w q_s O_s B_b q_b S_c q_c hB ⊢
    clear hw hst
    have sz_w6 := hlt
    clear hlt
    have HQ := Lib.hid (And.intro q_s (And.intro O_s (And.intro B_b (And.intro q_b (And.intro S_c (And.intro q_c (And.intro q_w hB)))))))
    clear q_s O_s B_b q_b S_c q_c q_w hB
    have c_q_s0 := LK.cell HQ.out.1 0
    have c_q_s1 := LK.cell HQ.out.1 1
    have c_q_s2 := LK.cell HQ.out.1 2
    have c_q_s3 := LK.cell HQ.out.1 3
    have c_q_b0 := LK.cell HQ.out.2.2.2.1 0
    have c_q_c0 := LK.cell HQ.out.2.2.2.2.2.1 0
    have c_q_c1 := LK.cell HQ.out.2.2.2.2.2.1 1
    have c_q_w0 := LK.cell HQ.out.2.2.2.2.2.2.1 0
    simp at c_q_s0 c_q_s1 c_q_s2 c_q_s3 c_q_b0 c_q_c0 c_q_c1 c_q_w0
    go_wp2
    go_ret2
    exact ⟨rfl, HQ.out.2.2.2.2.2.2.2⟩
  have i6 : (0 : Int) < its.length := by omega
  go_upto_region 14 with (fail)
  clear c_q_s0 c_q_s1 c_q_s2 c_q_s3 c_q_b0 c_q_c0 c_q_c1
  obtain ⟨q_s, O_s, B_b, q_b, S_c, q_c, hB⟩ := HQ.out
  clear HQ
  have hst := (Below.refl w5.heap.size w5).alloc (Nat.le_refl _) (.cells #[.func (.func 74) #[] #[.pointer (some ⟨w.heap.size, 0, none⟩), .pointer (some ⟨w2.heap.size, 0, none⟩), .pointer (some ⟨w5.heap.size, 0, none⟩)]] 122)
  have hlt : w5.heap.size < (w5.alloc (.cells #[.func (.func 74) #[] #[.pointer (some ⟨w.heap.size, 0, none⟩), .pointer (some ⟨w2.heap.size, 0, none⟩), .pointer (some ⟨w5.heap.size, 0, none⟩)]] 122)).heap.size := by simp
  have q_w := LK.new w5 (.cells #[.func (.func 74) #[] #[.pointer (some ⟨w.heap.size, 0, none⟩), .pointer (some ⟨w2.heap.size, 0, none⟩), .pointer (some ⟨w5.heap.size, 0, none⟩)]] 122)
  replace q_s := q_s.step hst
  replace O_s := O_s.step hst
  replace B_b := B_b.step hst
  replace q_b := q_b.step hst
  replace S_c := S_c.step hst
  replace q_c := q_c.step hst
  replace hB := hB.step hst
  obtain ⟨w6, hw⟩ : ∃ v, w5.alloc (.cells #[.func (.func 74) #[] #[.pointer (some ⟨w.heap.size, 0, none⟩), .pointer (some ⟨w2.heap.size, 0, none⟩), .pointer (some ⟨w5.heap.size, 0, none⟩)]] 122) = v := ⟨_, rfl⟩
  rw [hw] at hlt q_w q_s O_s B_b q_b S_c q_c hB ⊢
  clear hw hst
  have sz_w6 := hlt
  clear hlt
  have HQ := Lib.hid (And.intro q_s (And.intro O_s (And.intro B_b (And.intro q_b (And.intro S_c (And.intro q_c (And.intro q_w hB)))))))
  clear q_s O_s B_b q_b S_c q_c q_w hB
  have c_q_s0 := LK.cell HQ.out.1 0
  have c_q_s1 := LK.cell HQ.out.1 1
  have c_q_s2 := LK.cell HQ.out.1 2
  have c_q_s3 := LK.cell HQ.out.1 3
  have c_q_b0 := LK.cell HQ.out.2.2.2.1 0
  have c_q_c0 := LK.cell HQ.out.2.2.2.2.2.1 0
  have c_q_c1 := LK.cell HQ.out.2.2.2.2.2.1 1
  have c_q_w0 := LK.cell HQ.out.2.2.2.2.2.2.1 0
  simp at c_q_s0 c_q_s1 c_q_s2 c_q_s3 c_q_b0 c_q_c0 c_q_c1 c_q_w0
  obtain ⟨ro, hro⟩ : ∃ z, wkGo (oneW s l) none its = z := ⟨_, rfl⟩
  obtain ⟨a1, b1, c1, hsp1⟩ : ∃ a1 b1 c1, spn ro = (a1, b1, c1) := ⟨_, _, _, rfl⟩
  have hA : WalkAt w6 w.heap.size w2.heap.size w5.heap.size w1.heap.size g nb no nc (.slice ab_s s.disk.blocks.length cb_s) (.slice au s.disk.waits.length s.disk.waits.length) (.slice ay_s s.last.length cy_s) (.slice ab_s s.disk.blocks.length cb_s) (.slice au_s s.disk.waits.length cu_s) (.slice ay_s s.last.length cy_s) (some ⟨b3, o3, none⟩) cx_s s := ⟨LK.blk HQ.out.1, HQ.out.2.1.n, LK.blk HQ.out.2.2.2.1, LK.blk HQ.out.2.2.2.2.2.2.1, HQ.out.2.2.1, HM.out⟩
  have hc9 := fwalk_any l _ _ _ _ _ _ _ _ _ _ _ _ _ _ _ _ s its (.slice ac its.length cc) _ hA HQ.out.2.2.2.2.1.v HMN.out
  rw [hro, hsp1] at hc9
  simp only [spanV, bV, wV] at hc9
  rw [hro] at hE
  have KW := Lib.hid hc9
  clear hA hc9
  have HRO := Lib.hid hro
  clear hro
  have hfd : ∀ (z1 z2 z3 z4 z5 z6 : Int) (c : Bool) (W : World), (Instr.field 124 (.agg #[.int .u8 z1, .int .u32 z2, .int .u32 z3, .int .u8 z4, .int .u32 z5, .int .u32 z6, .bool c]) 2).run Try.prog W = .ok (.bool c) W := fun _ _ _ _ _ _ _ _ => by kernel_rfl
  go_wp2_with fail
  refine (KW.out).mono ?_
  rintro e w7 ⟨rfl, hst⟩
  clear c_q_s0 c_q_s1 c_q_s2 c_q_s3 c_q_b0 c_q_c0 c_q_c1 c_q_w0
  obtain ⟨q_s, O_s, B_b, q_b, S_c, q_c, q_w, hB⟩ := HQ.out
  clear HQ
  have sz_w7 : w6.heap.size ≤ w7.heap.size := hst.size
  replace q_s := q_s.step hst
  replace O_s := O_s.step hst
  replace B_b := B_b.step hst
  replace q_b := q_b.step hst
  replace S_c := S_c.step hst
  replace q_c := q_c.step hst
  replace q_w := q_w.step hst
  replace hB := hB.step hst
  clear hst
  have HQ := Lib.hid (And.intro q_s (And.intro O_s (And.intro B_b (And.intro q_b (And.intro S_c (And.intro q_c (And.intro q_w hB)))))))
  clear q_s O_s B_b q_b S_c q_c q_w hB
  have c_q_s0 := LK.cell HQ.out.1 0
  have c_q_s1 := LK.cell HQ.out.1 1
  have c_q_s2 := LK.cell HQ.out.1 2
  have c_q_s3 := LK.cell HQ.out.1 3
  have c_q_b0 := LK.cell HQ.out.2.2.2.1 0
  have c_q_c0 := LK.cell HQ.out.2.2.2.2.2.1 0
  have c_q_c1 := LK.cell HQ.out.2.2.2.2.2.1 1
  have c_q_w0 := LK.cell HQ.out.2.2.2.2.2.2.1 0
  simp at c_q_s0 c_q_s1 c_q_s2 c_q_s3 c_q_b0 c_q_c0 c_q_c1 c_q_w0
  rcases hE with ⟨hr, rfl, rfl⟩ | ⟨⟨r, hr⟩, rfl, rfl⟩
  case inl =>
    subst hr
    cases hsp1
    go_wp2
    go_ret2
    exact ⟨rfl, HQ.out.2.2.2.2.2.2.2⟩
  subst hr
  cases hsp1
  go_wp2
  go_ret2
  exact ⟨rfl, HQ.out.2.2.2.2.2.2.2⟩
end Go.Proofs.Ytcibihakjcenaaa

