/- DropTwice: the words and contracts, part 18. -/
import Derived.Test.YtbddbadmfhplmaaDropTwiceQ1
import Derived.Test.YtbddbadmfhplmaaDropTwiceQ2
import Derived.Test.YtbddbadmfhplmaaDropTwiceQ3
import Derived.Test.YtbddbadmfhplmaaDropTwiceQ4
import Derived.Test.YtbddbadmfhplmaaDropTwiceQ5
import Derived.Test.YtbddbadmfhplmaaDropTwiceQ6
import Derived.Test.YtbddbadmfhplmaaDropTwiceQ7
import Derived.Test.YtbddbadmfhplmaaDropTwiceQ8
import Derived.Test.YtbddbadmfhplmaaDropTwiceQ9
import Derived.Test.YtbddbadmfhplmaaDropTwiceQ10
import Derived.Test.YtbddbadmfhplmaaDropTwiceQ11
import Derived.Test.YtbddbadmfhplmaaDropTwiceQ12
import Derived.Test.YtbddbadmfhplmaaDropTwiceQ13
import Derived.Test.YtbddbadmfhplmaaDropTwiceQ14
import Derived.Test.YtbddbadmfhplmaaDropTwiceQ15
import Derived.Test.YtbddbadmfhplmaaDropTwiceQ16
import Derived.Test.YtbddbadmfhplmaaDropTwiceQ17
import Derived.WalkKit
import Derived.WalkLawsBesides
import Derived.WalkSpells
import Derived.Lib.Hide
import Derived.Laws.Rows
import Derived.Laws.AppendOwnNone
import Derived.Maps.AppendAt
import Derived.ProofKit
import Derived.Deep.Slices
import Derived.WideShapes
import Derived.RangeFuncNested
import Derived.RangeFuncBound
import Derived.RangeFuncCalls
import Derived.RangeFuncLeaves
import Derived.RangeFuncBox
import Derived.Shelf.Abstract
import Derived.Shelf.RegionOpen
import Derived.OwnWalkIn
import Derived.TacticsInMore
import Derived.LoopNIn
import Derived.LoopIn
import Derived.Lib.AppendZerosOnto
import Derived.Lib.SliceRun
import Derived.Lib.Walk
import Derived.Deep.LoopGhost
import Derived.Laws.CopyOwn
import Derived.Laws.CopyRow
import Derived.OrdersHeld
import Derived.Deep.QuietTactic
import Derived.BigQuiet
import Derived.StillTailTactics
import Derived.OpenShut
import Derived.Deep.DeepCutAuto
import Derived.Laws.MakeOwn
import Derived.Deep.RegionHeld
import Derived.KernelRfl
import Derived.BigFrameIn
import Derived.OrdersIn
import Derived.Sort.CutIn
import Derived.ArgAppend
namespace Go.Proofs.Ytbddbadmfhplmaa
open Go.RowKit Go.Shelf
attribute [local go_sem] Oper.semAt_some

set_option maxRecDepth 100000 in
set_option maxHeartbeats 1000000 in
theorem seen_any (d : DiskL) (b_d u_d : Value) (pn : Nat) (w : World) (h_d : DiskV w 0 w.heap.size b_d u_d d) (hmd : mayD d = true) (hp : pn < 256) :
    Calls Try.prog 65 #[.agg #[b_d, u_d], .int .i64 (pn : Int)] w fun e w' => ∃ v, e = .returned v ∧ Bytes w' 0 w'.heap.size v (seenD d pn) ∧ Below w.heap.size w w' := by
  obtain ⟨ab_d, cb_d, rfl, gb_d, gc_d, -, -⟩ := h_d.1
  obtain ⟨au_d, cu_d, rfl, gu_d, gv_d, -, -⟩ := h_d.2
  unfold maxLen at gc_d gv_d
  have hst := ((((Below.refl w.heap.size w).alloc (Nat.le_refl _) (.cells #[.slice ab_d d.blocks.length cb_d, .slice au_d d.waits.length cu_d] 25)).alloc (by simp) (.cells #[.int .i64 (pn : Int)] 3)).alloc (by simp; omega) (.cells #[.slice none 0 0] 26))
  have hq := three_new w (.cells #[.slice ab_d d.blocks.length cb_d, .slice au_d d.waits.length cu_d] 25) (.cells #[.int .i64 (pn : Int)] 3) (.cells #[.slice none 0 0] 26)
  have q_d := LK.of hq.1
  have q_p := LK.of hq.2.1
  have q_r := LK.of hq.2.2
  have hB : LW w _ := hst
  have D_d := (LD.of h_d (Nat.le_refl _)).step hst
  have sz_V : w.heap.size + 2 < (((w.alloc (.cells #[.slice ab_d d.blocks.length cb_d, .slice au_d d.waits.length cu_d] 25)).alloc (.cells #[.int .i64 (pn : Int)] 3)).alloc (.cells #[.slice none 0 0] 26)).heap.size := by simp
  obtain ⟨V, hV⟩ : ∃ V, (((w.alloc (.cells #[.slice ab_d d.blocks.length cb_d, .slice au_d d.waits.length cu_d] 25)).alloc (.cells #[.int .i64 (pn : Int)] 3)).alloc (.cells #[.slice none 0 0] 26)) = V := ⟨_, rfl⟩
  rw [hV] at sz_V q_d q_p q_r D_d hB
  clear hst h_d hq
  have HQ := Lib.hid (And.intro q_d (And.intro q_p (And.intro q_r (And.intro D_d hB))))
  clear q_d q_p q_r D_d hB
  have c_q_d0 := LK.cell HQ.out.1 0
  have c_q_d1 := LK.cell HQ.out.1 1
  have c_q_p0 := LK.cell HQ.out.2.1 0
  have c_q_r0 := LK.cell HQ.out.2.2.1 0
  simp at c_q_d0 c_q_d1 c_q_p0 c_q_r0
  have HM := Lib.hid (may_len hmd)
  have hpl : pn < d.blocks.length := by have := HM.out.1; omega
  clear hmd
  have HD0 := Lib.hid (Lv.get HQ.out.2.2.2.1)
  refine (callsIn_wide (n := 5)).1 ?_
  refine callsIn_of_wp_marks Try.func65 rfl trivial ?_ rfl
  simp only [Try.ntmps65, List.size_toArray, List.length_cons, List.length_nil, Nat.reduceAdd, Nat.reduceSub, Array.replicate_succ, Array.replicate_zero, List.push_toArray, List.append_toArray, List.nil_append, List.cons_append]
  gi_wp2_with (refine ⟨trivial, ?_⟩; gi_at_call 55; refine (backw_in Fence.wide _ trivial rfl _ _ _ _).mono ?_; rintro e w2 ⟨rfl, rfl⟩)
  clear hV
  have hbx := cell_new_l V (.slice au_d d.waits.length cu_d) 23
  have hsV : V.heap.size < (V.alloc (.cells #[.slice au_d d.waits.length cu_d] 23)).heap.size := by simp
  clear c_q_d0 c_q_d1 c_q_p0 c_q_r0
  obtain ⟨q_d, q_p, q_r, D_d, hB⟩ := HQ.out
  clear HQ
  have hst : Below V.heap.size V (V.alloc (.cells #[.slice au_d d.waits.length cu_d] 23)) := (Below.refl V.heap.size V).alloc (Nat.le_refl _) _
  obtain ⟨V2, hV2⟩ : ∃ v, V.alloc (.cells #[.slice au_d d.waits.length cu_d] 23) = v := ⟨_, rfl⟩
  rw [hV2] at hbx hst hsV ⊢
  clear hV2
  replace q_d := q_d.step hst
  replace q_p := q_p.step hst
  replace q_r := q_r.step hst
  replace D_d := D_d.step hst
  replace hB := hB.step hst
  have HQ := Lib.hid (And.intro q_d (And.intro q_p (And.intro q_r (And.intro D_d hB))))
  clear q_d q_p q_r D_d hB
  obtain ⟨gb, hgb⟩ : ∃ v, V.heap.size = v := ⟨_, rfl⟩
  rw [hgb] at hbx hsV sz_V ⊢
  obtain ⟨bs, hbl, hba, hbc⟩ := writes_of (Lv.get HQ.out.2.2.2.1).2
  have HA := Lib.hid (And.intro hbl (And.intro hba hbc))
  have HX := Lib.hid (And.intro hbx hsV)
  have HD2 := Lib.hid (Lv.get HQ.out.2.2.2.1)
  clear hbl hba hbc hbx hst hgb
  gi_wp2_with fail
  refine wpIn_rangeFunc_ownH rfl (by omega) (gf := 95) (lb := #[.pointer (some ⟨gb, 0, none⟩)]) rfl trivial (enters_of Try.func95 (by kernel_rfl) rfl)
    (backw_stops Fence.wide 4 trivial rfl (by omega) gb w.heap.size au_d cu_d bs V2 HX.out.2 (by omega) (by rw [HA.out.1]; exact HX.out.1.1) (by rw [HA.out.1]; exact gu_d) gv_d HA.out.2.2) KeepB.trans (keepB_b (by omega) HX.out.2) (Below.refl _ _) (fun _ => rfl)
    (fun pre W => (∀ i ∈ pre, bs[i.1].1 ≠ (pn : Int)) ∧ Below V2.heap.size V2 W)
    (fun c pre W => (∃ Wx, (c = .ret ∧ ∃ pre' x, pre = pre' ++ [x] ∧ (∀ i ∈ pre', bs[i.1].1 ≠ (pn : Int)) ∧ bs[x.1].1 = (pn : Int) ∧ Wx.cell? ⟨w.heap.size + 1 + 1, 0, none⟩ = some bs[x.1].2) ∧ CK Wx W) ∧ Below w.heap.size V2 W)
    ((ownFrom_pure _ _).and (ownFrom_below (Nat.le_refl _) (Nat.le_refl _)))
    (fun c => ((ck_own _).from _).and (ownFrom_below (n₀ := w.heap.size) (B := V2.heap.size) (w₀ := V2) (show w.heap.size ≤ V2.heap.size by omega) (show w.heap.size ≤ V2.heap.size by omega)))
    ⟨fun _ h => (by cases h), Below.refl _ _⟩
    (fun x a' W => ∃ bx, a' = ({ tmps := #[.agg #[.slice ab_d d.blocks.length cb_d, .slice au_d d.waits.length cu_d], .int .i64 (pn : Int), .pointer (some ⟨w.heap.size, 0, none⟩), .pointer (some ⟨w.heap.size + 1, 0, none⟩), .pointer (some ⟨w.heap.size + 1 + 1, 0, none⟩), undef, .pointer (some ⟨bx, 0, none⟩), .pointer (some ⟨w.heap.size, 1, none⟩), .slice au_d d.waits.length cu_d, .func (.func 95) #[] #[.pointer (some ⟨gb, 0, none⟩)], .int .i64 (x.1 : Int), .agg #[.int .i64 bs[x.1].1, bs[x.1].2], undef, undef, undef, undef, undef, undef, undef, undef, undef, undef, undef], defers := [] } : Act) ∧ V2.heap.size ≤ bx ∧ W.heap[bx]? = some (.cells #[.int .i64 bs[x.1].1, bs[x.1].2] 92 (0, 0)))
    ?hax ?assign ?body ?done ?stop
  case hax =>
    intro x a' s W W' row h hg hr
    obtain ⟨bx, h1, h2, h3⟩ := h
    refine ⟨bx, h1, h2, ?_⟩
    refine (hg.block bx (Array.getElem?_eq_some_iff.1 h3).1 (fun e => ?_)).trans h3
    obtain ⟨-, o, ho, hc⟩ := hr bx e.symm
    rw [h3] at ho
    cases ho
    cases hc
  case assign =>
    rintro l pre x W K ⟨hU, hBW⟩ hK
    obtain ⟨e1, e2⟩ := HA.out.2.1 x.1 bs[x.1] (by simp)
    have hnew := World.alloc_heap_new W (.cells #[.int .i64 bs[x.1].1, bs[x.1].2] 92)
    have hfr := (Below.refl W.heap.size W).alloc (Nat.le_refl _) (.cells #[.int .i64 bs[x.1].1, bs[x.1].2] 92)
    have hHK := hK
    obtain ⟨av, cv, hv, -, -⟩ := e2.form rfl
    rw [hv] at hnew hfr ⊢
    have HV := Lib.hid hv
    generalize (d.waits.getD x.1 ⟨0, []⟩).data.length = dl at *
    have HK := Lib.hid hHK
    clear hHK hK e1 e2 hv
    gi_wp2
    refine HK.out _ _ ⟨hfr.size, fun k o _ hko _ => (hfr.block k (Array.getElem?_eq_some_iff.1 hko).1).trans hko⟩ ⟨hfr.mono (by have := hBW.size; omega), hfr.cell (p := ⟨gb, 0, none⟩) (Nat.lt_of_lt_of_le HX.out.2 hBW.size)⟩ ⟨hU, below_step hBW hBW.size hfr⟩ ⟨W.heap.size, ?_, hBW.size, by rw [HV.out]; exact hnew⟩
    rw [HV.out]
  case body =>
    rintro l pre x a' W hl - ⟨hU, hBW⟩ ⟨bx, rfl, hbx, hcell⟩ hlen
    have b0 := blk_cell hcell 0
    have b1 := blk_cell hcell 1
    simp at b0 b1
    have m1 := (hBW.cell (p := ⟨w.heap.size + 1, 0, none⟩) (by show w.heap.size + 1 < V2.heap.size; omega)).trans (by simpa using LK.cell (HQ.out.2.1) 0 : V2.cell? ⟨w.heap.size + 1, 0, none⟩ = some (.int .i64 pn))
    have r6 := (hBW.block (w.heap.size + 2) (by omega)).trans (LK.blk (HQ.out.2.2.1))
    have m6 := blk_cell r6 0
    have z6 := blk_frozen r6 0
    simp at m6
    have HP := Lib.hid (And.intro hU (And.intro hBW r6))
    clear hU hBW hcell r6
    obtain ⟨xa2, hxa⟩ : ∃ xa, bs[x.1].1 = xa := ⟨_, rfl⟩
    obtain ⟨xv, hxv⟩ : ∃ xv, bs[x.1].2 = xv := ⟨_, rfl⟩
    rw [hxa] at b0
    rw [hxv] at b1
    rw [hxa, hxv]
    obtain ⟨-, e2⟩ := HA.out.2.1 x.1 bs[x.1] (by simp)
    obtain ⟨av, cv, hv, -, -⟩ := e2.form rfl
    clear e2
    generalize (d.waits.getD x.1 ⟨0, []⟩).data.length = dl at *
    rw [hxv] at hv
    subst hv
    have HXA := Lib.hid (And.intro hxa hxv)
    clear hxa hxv
    by_cases hat : xa2 = (pn : Int)
    · have dt : (xa2 == (pn : Int)) = true := by simp [hat]
      gi_wp2
      refine ⟨⟨Nat.le_of_eq (World.size_setCell _ _ _).symm, fun k o hVk hk _ => (set_other W _ _ _ k (by omega)).trans hk⟩, ⟨_, ⟨rfl, pre, x, rfl, HP.out.1, by rw [HXA.out.1]; exact hat, ?_⟩, CK.refl _⟩, (HP.out.2.1.mono (by omega)).setCell (p := ⟨w.heap.size + 1 + 1, 0, none⟩) (by show w.heap.size ≤ w.heap.size + 1 + 1; omega) _⟩
      rw [HXA.out.2]
      exact World.cell?_setCell_same' _ _ _ (by rw [m6]; rfl)
    · have dt : (xa2 == (pn : Int)) = false := by simp [hat]
      gi_wp2
      refine ⟨KeepsFrom.refl _ _, KeepB.refl _ _ _, fun i hi => ?_, HP.out.2.1⟩
      rcases List.mem_append.1 hi with hi | hi
      · exact HP.out.1 i hi
      · obtain rfl := List.mem_singleton.1 hi
        rw [HXA.out.1]
        exact hat
  case done =>
    rintro D xs W hD rfl ⟨hU, hBW⟩ hK
    have hBw : Below w.heap.size w W := below_step (HQ.out.2.2.2.2) (Below.size (HQ.out.2.2.2.2)) hBW
    have hseen : seenD d pn = d.blocks.getD pn [] := by
      unfold seenD
      rw [lastW_none d.waits pn (fun y hy => by
        obtain ⟨j, hj⟩ := List.mem_iff_getElem?.1 hy
        have hjl := (List.getElem?_eq_some_iff.1 hj).1
        have hjb : j < bs.length := by have := HA.out.1; omega
        have := hU ⟨j, hjb⟩ ((backF_mem _ _ _).2 (by omega))
        rw [(HA.out.2.1 j bs[j] (by simp [hjb])).1, List.getD_eq_getElem?_getD, hj] at this
        exact this)]
      rfl
    obtain ⟨bb, bo, cb2, e2, -, z1, z2, z3, hbe⟩ := HD2.out.1.at_ (by omega)
    injection e2 with ea _ ec
    subst ea ec
    obtain ⟨v, hv, hvb⟩ := hbe pn (d.blocks.getD pn []) (get_l _ _ _ hpl)
    have HS := Lib.hid hseen
    obtain ⟨dat, hdat⟩ : ∃ dat, d.blocks.getD pn [] = dat := ⟨_, rfl⟩
    rw [hdat] at hvb HS
    obtain ⟨xa, xc, rfl, -, -⟩ := hvb.form rfl
    have hv' : W.cell? ⟨bb, bo + pn, none⟩ = some (.slice xa dat.length xc) := (hBW.cell (p := ⟨bb, bo + pn, none⟩) (by show bb < V2.heap.size; omega)).trans (by simpa [rBytes] using hv)
    have m0 := (hBW.cell (p := ⟨w.heap.size, 0, none⟩) (by show w.heap.size < V2.heap.size; omega)).trans (LK.cell (HQ.out.1) 0)
    have m1 := (hBW.cell (p := ⟨w.heap.size + 1, 0, none⟩) (by show w.heap.size + 1 < V2.heap.size; omega)).trans (LK.cell (HQ.out.2.1) 0)
    have r6 := (hBW.block (w.heap.size + 2) (by omega)).trans (LK.blk (HQ.out.2.2.1))
    have m6 := blk_cell r6 0
    have z6 := blk_frozen r6 0
    simp at m0 m1 m6
    have HP := Lib.hid (And.intro hvb (And.intro hBw (And.intro hBW (And.intro hK r6))))
    unfold maxLen at z3
    clear hbe hv hvb hseen hdat hU hBW hK hBw r6
    gi_wp2
    obtain ⟨hvb, hBw, hBW, hK, r6⟩ := HP.out
    have hVW := hBW.size
    have hoth : ∀ k, k ≠ w.heap.size + 2 → (W.setCell ⟨w.heap.size + 1 + 1, 0, none⟩ (.slice xa dat.length xc)).heap[k]? = W.heap[k]? := fun k h1 => set_other W _ _ _ k h1
    have hK2 := (hoth D (by omega)).trans hK
    have hc2 : (W.setCell ⟨w.heap.size + 1 + 1, 0, none⟩ (.slice xa dat.length xc)).cell? ⟨w.heap.size + 2, 0, none⟩ = some (.slice xa dat.length xc) := World.cell?_setCell_same' _ _ _ (by rw [m6]; rfl)
    have hBf := hBw.setCell (p := ⟨w.heap.size + 1 + 1, 0, none⟩) (by show w.heap.size ≤ w.heap.size + 1 + 1; omega) (.slice xa dat.length xc)
    have hBz := (Below.refl w.heap.size W).setCell (p := ⟨w.heap.size + 1 + 1, 0, none⟩) (by show w.heap.size ≤ w.heap.size + 1 + 1; omega) (.slice xa dat.length xc)
    have hsz : (W.setCell ⟨w.heap.size + 1 + 1, 0, none⟩ (.slice xa dat.length xc)).heap.size = W.heap.size := World.size_setCell _ _ _
    generalize (W.setCell ⟨w.heap.size + 1 + 1, 0, none⟩ (.slice xa dat.length xc)) = zf at *
    have hB2 := (belowK_b (w := w) (Nat.le_refl _) zf D (.deferred (some [])) (.deferred none) (by omega) hK2 rfl rfl)
    have hck2 : CK zf (zf.putObj D (.deferred none)) := ⟨by simp, fun a v h => ⟨cell_kept h (grownBy_putObj' zf D (.deferred none)) (fun r e => by cases e; exact ⟨_, hK2, rfl⟩), frozen_kept h (grownBy_putObj' zf D (.deferred none)) (fun r e => by cases e; exact ⟨_, hK2, rfl⟩)⟩⟩
    have s2 := (hck2.2 _ _ hc2).1
    have hfin := hBf.trans hB2
    refine ⟨by simp, .inl ⟨_, _, rfl, run_takeDeferred hK2, ?_⟩⟩
    refine ⟨.slice xa dat.length xc, by simp [results, Try.results65, go_sem, s2], _, rfl, ?_, hfin⟩
    rw [HS.out]
    exact (hvb.below ((hBW.mono (by omega)).trans (hBz.trans hB2)) (Nat.le_refl _)).more (Nat.le_refl _) hfin.size
  case stop =>
    rintro D c pre W hD ⟨k, hk, hpre⟩ ⟨⟨Wx, ⟨rfl, pre', x, rfl, hU, hx, hc6⟩, hck⟩, hB⟩ hK
    have hseen : seenD d pn = (d.waits.getD x.1 ⟨0, []⟩).data := by
      cases k with
      | zero => simp [backF] at hpre
      | succ k =>
        rw [backF_succ _ k (bs.length - 1 - k) (by omega) (by omega)] at hpre
        obtain ⟨h1, h2⟩ := List.append_inj' hpre rfl
        have h3 := List.cons.inj h2
        have hx1 : x.1 = bs.length - 1 - k := by rw [h3.1]
        unfold seenD
        rw [lastW_at d.waits pn x.1 (by have := HA.out.1; omega) (by rw [← (HA.out.2.1 x.1 bs[x.1] (by simp)).1]; exact hx) (fun j hj hjl => by
          have hjb : j < bs.length := by have := HA.out.1; omega
          rw [← (HA.out.2.1 j bs[j] (by simp [hjb])).1]
          exact hU ⟨j, hjb⟩ (by rw [h1]; exact (backF_mem _ _ _).2 (by show bs.length ≤ j + k; omega)))]
    obtain ⟨-, e2⟩ := HA.out.2.1 x.1 bs[x.1] (by simp)
    have hB2 := (belowK_b (w := w) (Nat.le_refl _) W D (.deferred (some [])) (.deferred none) (by omega) hK rfl rfl)
    have hck2 : CK W (W.putObj D (.deferred none)) := ⟨by simp, fun a v h => ⟨cell_kept h (grownBy_putObj' W D (.deferred none)) (fun r e => by cases e; exact ⟨_, hK, rfl⟩), frozen_kept h (grownBy_putObj' W D (.deferred none)) (fun r e => by cases e; exact ⟨_, hK, rfl⟩)⟩⟩
    have s2 := (hck2.2 _ _ (hck.2 _ _ hc6).1).1
    have hfin := (Below.trans (HQ.out.2.2.2.2) hB).trans hB2
    have HS := Lib.hid (And.intro hseen (And.intro e2 (And.intro hB (And.intro hB2 hfin))))
    clear hseen e2 hB hB2 hfin
    gi_wp2
    refine ⟨by simp, .inl ⟨_, _, rfl, run_takeDeferred hK, ?_⟩⟩
    refine ⟨bs[x.1].2, by simp [results, Try.results65, go_sem, s2], _, rfl, ?_, HS.out.2.2.2.2⟩
    rw [HS.out.1]
    exact (HS.out.2.1.below (HS.out.2.2.1.trans HS.out.2.2.2.1) (Nat.le_refl _)).more (Nat.le_refl _) HS.out.2.2.2.2.size

def errSn (s : StoreL) (p : Int) : Int := if errAs s p ≠ 0 then errAs s p else if errNd (seenD s.disk p) = 0 then 0 else 8
def nodeS (s : StoreL) (p : Int) : NodeL := if errSn s p = 0 then readNd (seenD s.disk p) else ⟨0, []⟩

set_option maxRecDepth 100000 in
set_option maxHeartbeats 1000000 in
theorem snode_any (b_s u_s x_s y_s : Value) (s : StoreL) (p : Int) (w : World) (h_s : StoreV w 0 w.heap.size b_s u_s x_s y_s s) :
    Calls Try.prog 25 #[.agg #[b_s, u_s, x_s, y_s], .int .i64 p] w fun e w' => ∃ v, e = .returned (.tuple #[.agg #[.int .i64 (nodeS s p).level, v], .int .i64 (errSn s p)]) ∧ Sl rItemT w' w.heap.size w'.heap.size v (nodeS s p).items ∧ Below w.heap.size w w' := by
  by_cases hne : errAs s p = 0
  case neg =>
    have h1 : errSn s p = errAs s p := by unfold errSn; rw [if_pos hne]
    have h2 : nodeS s p = ⟨0, []⟩ := by unfold nodeS; rw [h1, if_neg hne]
    rw [h1, h2]
    exact (snode_no b_s u_s x_s y_s s p w h_s hne).mono fun e w' hh => ⟨_, hh.1, Sl.nil_ _ _ _, hh.2⟩
  obtain ⟨hm, h8, h9, -⟩ := errAs_zero hne
  obtain ⟨pn, rfl⟩ : ∃ pn : Nat, p = pn := ⟨p.toNat, by omega⟩
  obtain ⟨ab_s, cb_s, rfl, gb_s, gc_s, -, -⟩ := h_s.1.1
  obtain ⟨au_s, cu_s, rfl, gu_s, gv_s, -, -⟩ := h_s.1.2
  obtain ⟨ax_s, cx_s, rfl, gx_s, gz_s⟩ := h_s.2.1.form rfl
  obtain ⟨ay_s, cy_s, rfl, gy_s, gw_s⟩ := h_s.2.2.form rfl
  unfold maxLen at gc_s gv_s gz_s gw_s
  have hst := (((Below.refl w.heap.size w).alloc (Nat.le_refl _) (.cells #[.slice ab_s s.disk.blocks.length cb_s, .slice au_s s.disk.waits.length cu_s, .slice ax_s s.now.length cx_s, .slice ay_s s.last.length cy_s] 28)).alloc (by simp) (.cells #[.int .i64 0, .slice none 0 0] 50))
  have hq := two_new w (.cells #[.slice ab_s s.disk.blocks.length cb_s, .slice au_s s.disk.waits.length cu_s, .slice ax_s s.now.length cx_s, .slice ay_s s.last.length cy_s] 28) (.cells #[.int .i64 0, .slice none 0 0] 50)
  have q_s := LK.of hq.1
  have q_r := LK.of hq.2
  have hB : LW w _ := hst
  have O_s := (LO.of h_s (Nat.le_refl _)).step hst
  have sz_V : w.heap.size + 1 < ((w.alloc (.cells #[.slice ab_s s.disk.blocks.length cb_s, .slice au_s s.disk.waits.length cu_s, .slice ax_s s.now.length cx_s, .slice ay_s s.last.length cy_s] 28)).alloc (.cells #[.int .i64 0, .slice none 0 0] 50)).heap.size := by simp
  obtain ⟨V, hV⟩ : ∃ V, ((w.alloc (.cells #[.slice ab_s s.disk.blocks.length cb_s, .slice au_s s.disk.waits.length cu_s, .slice ax_s s.now.length cx_s, .slice ay_s s.last.length cy_s] 28)).alloc (.cells #[.int .i64 0, .slice none 0 0] 50)) = V := ⟨_, rfl⟩
  rw [hV] at sz_V q_s q_r O_s hB
  clear hst h_s hq
  have HQ := Lib.hid (And.intro q_s (And.intro q_r (And.intro O_s hB)))
  clear q_s q_r O_s hB
  have c_q_s0 := LK.cell HQ.out.1 0
  have c_q_s1 := LK.cell HQ.out.1 1
  have c_q_s2 := LK.cell HQ.out.1 2
  have c_q_s3 := LK.cell HQ.out.1 3
  have c_q_r0 := LK.cell HQ.out.2.1 0
  have c_q_r1 := LK.cell HQ.out.2.1 1
  simp at c_q_s0 c_q_s1 c_q_s2 c_q_s3 c_q_r0 c_q_r1
  have hmd := (mayS_iff.1 hm).1
  have k_a := fun V b u x y hh => sasked_any b u x y s (pn : Int) V hh
  rw [hne] at k_a
  have k_s := fun V b u hh => seen_any s.disk b u pn V hh hmd (by omega)
  have k_r := fun V v hh => nread_any v (seenD s.disk pn) V hh
  have hE : errSn s (pn : Int) = if errNd (seenD s.disk pn) = 0 then 0 else 8 := by unfold errSn; rw [hne, if_neg (by decide)]
  have hN : nodeS s (pn : Int) = if errSn s (pn : Int) = 0 then readNd (seenD s.disk pn) else ⟨0, []⟩ := rfl
  obtain ⟨SD, hSD⟩ : ∃ x, seenD s.disk (pn : Int) = x := ⟨_, rfl⟩
  rw [hSD] at hE hN
  simp only [hSD] at k_s k_r
  obtain ⟨ER, hER⟩ : ∃ x, errNd SD = x := ⟨_, rfl⟩
  obtain ⟨ND, hND⟩ : ∃ x, readNd SD = x := ⟨_, rfl⟩
  rw [hER] at hE
  rw [hND] at hN
  simp only [hER, hND] at k_r
  obtain ⟨es, hes⟩ : ∃ x, errSn s (pn : Int) = x := ⟨_, rfl⟩
  obtain ⟨ns, hns⟩ : ∃ x, nodeS s (pn : Int) = x := ⟨_, rfl⟩
  rw [hes] at hE hN
  rw [hns] at hN
  simp only [hes, hns]
  have HE := Lib.hid (And.intro hE hN)
  clear hE hN hSD hER hND hes hns hm hne hmd
  have HC := Lib.hid (And.intro k_a (And.intro k_s k_r))
  clear k_a k_s k_r
  go_enter Try.func25, Try.ntmps25
  go_upto_region 1 with (fail)
  clear hV
  go_wp2_with fail
  refine (HC.out.1 _ _ _ _ _ HQ.out.2.2.1.v).mono ?_
  rintro e w1 ⟨rfl, hst⟩
  clear c_q_s0 c_q_s1 c_q_s2 c_q_s3 c_q_r0 c_q_r1
  obtain ⟨q_s, q_r, O_s, hB⟩ := HQ.out
  clear HQ
  have sz_w1 : V.heap.size ≤ w1.heap.size := hst.size
  replace q_s := q_s.step hst
  replace q_r := q_r.step hst
  replace O_s := O_s.step hst
  replace hB := hB.step hst
  clear hst
  have HQ := Lib.hid (And.intro q_s (And.intro q_r (And.intro O_s hB)))
  clear q_s q_r O_s hB
  have c_q_s0 := LK.cell HQ.out.1 0
  have c_q_s1 := LK.cell HQ.out.1 1
  have c_q_s2 := LK.cell HQ.out.1 2
  have c_q_s3 := LK.cell HQ.out.1 3
  have c_q_r0 := LK.cell HQ.out.2.1 0
  have c_q_r1 := LK.cell HQ.out.2.1 1
  simp at c_q_s0 c_q_s1 c_q_s2 c_q_s3 c_q_r0 c_q_r1
  go_wp2_with fail
  refine (HC.out.2.1 _ _ _ HQ.out.2.2.1.d).mono ?_
  rintro e w2 ⟨v1, rfl, hv, hst⟩
  clear c_q_s0 c_q_s1 c_q_s2 c_q_s3 c_q_r0 c_q_r1
  obtain ⟨q_s, q_r, O_s, hB⟩ := HQ.out
  clear HQ
  have B_v := LB.of hv (Nat.le_refl _)
  have sz_w2 : w1.heap.size ≤ w2.heap.size := hst.size
  replace q_s := q_s.step hst
  replace q_r := q_r.step hst
  replace O_s := O_s.step hst
  replace hB := hB.step hst
  clear hst
  have HQ := Lib.hid (And.intro q_s (And.intro q_r (And.intro O_s (And.intro B_v hB))))
  clear q_s q_r O_s B_v hB
  have c_q_s0 := LK.cell HQ.out.1 0
  have c_q_s1 := LK.cell HQ.out.1 1
  have c_q_s2 := LK.cell HQ.out.1 2
  have c_q_s3 := LK.cell HQ.out.1 3
  have c_q_r0 := LK.cell HQ.out.2.1 0
  have c_q_r1 := LK.cell HQ.out.2.1 1
  simp at c_q_s0 c_q_s1 c_q_s2 c_q_s3 c_q_r0 c_q_r1
  go_wp2_with fail
  refine (HC.out.2.2 _ _ HQ.out.2.2.2.1.v).mono ?_
  rintro e w3 ⟨u, rfl, hm⟩
  clear c_q_s0 c_q_s1 c_q_s2 c_q_s3 c_q_r0 c_q_r1
  obtain ⟨q_s, q_r, O_s, B_v, hB⟩ := HQ.out
  clear HQ
  have hst := hm.below
  have S_u := LS.of hm.items (Nat.le_refl _)
  obtain ⟨au2, cu2, rfl, -, -⟩ := hm.items
  clear hm
  have sz_w3 : w2.heap.size ≤ w3.heap.size := hst.size
  replace q_s := q_s.step hst
  replace q_r := q_r.step hst
  replace O_s := O_s.step hst
  replace B_v := B_v.step hst
  replace hB := hB.step hst
  clear hst
  have HQ := Lib.hid (And.intro q_s (And.intro q_r (And.intro O_s (And.intro B_v (And.intro S_u hB)))))
  clear q_s q_r O_s B_v S_u hB
  have c_q_s0 := LK.cell HQ.out.1 0
  have c_q_s1 := LK.cell HQ.out.1 1
  have c_q_s2 := LK.cell HQ.out.1 2
  have c_q_s3 := LK.cell HQ.out.1 3
  have c_q_r0 := LK.cell HQ.out.2.1 0
  have c_q_r1 := LK.cell HQ.out.2.1 1
  have z_q_r0 := LK.frozen HQ.out.2.1 0
  have z_q_r1 := LK.frozen HQ.out.2.1 1
  simp at c_q_s0 c_q_s1 c_q_s2 c_q_s3 c_q_r0 c_q_r1
  go_upto_region 5 with (fail)
  clear z_q_r0 z_q_r1 c_q_s0 c_q_s1 c_q_s2 c_q_s3 c_q_r0 c_q_r1
  obtain ⟨q_s, q_r, O_s, B_v, S_u, hB⟩ := HQ.out
  clear HQ
  have hst := (Below.refl w3.heap.size w3).alloc (Nat.le_refl _) (.cells #[.int .i64 ND.level, .slice au2 ND.items.length cu2] 50)
  have hlt : w3.heap.size < (w3.alloc (.cells #[.int .i64 ND.level, .slice au2 ND.items.length cu2] 50)).heap.size := by simp
  have q_n := LK.new w3 (.cells #[.int .i64 ND.level, .slice au2 ND.items.length cu2] 50)
  replace q_s := q_s.step hst
  replace q_r := q_r.step hst
  replace O_s := O_s.step hst
  replace B_v := B_v.step hst
  replace S_u := S_u.step hst
  replace hB := hB.step hst
  obtain ⟨w4, hw⟩ : ∃ v, w3.alloc (.cells #[.int .i64 ND.level, .slice au2 ND.items.length cu2] 50) = v := ⟨_, rfl⟩
  rw [hw] at hlt q_n q_s q_r O_s B_v S_u hB ⊢
  clear hw hst
  have sz_w4 := hlt
  clear hlt
  have HQ := Lib.hid (And.intro q_s (And.intro q_r (And.intro O_s (And.intro B_v (And.intro S_u (And.intro q_n hB))))))
  clear q_s q_r O_s B_v S_u q_n hB
  have c_q_s0 := LK.cell HQ.out.1 0
  have c_q_s1 := LK.cell HQ.out.1 1
  have c_q_s2 := LK.cell HQ.out.1 2
  have c_q_s3 := LK.cell HQ.out.1 3
  have c_q_r0 := LK.cell HQ.out.2.1 0
  have c_q_r1 := LK.cell HQ.out.2.1 1
  have c_q_n0 := LK.cell HQ.out.2.2.2.2.2.1 0
  have c_q_n1 := LK.cell HQ.out.2.2.2.2.2.1 1
  simp at c_q_s0 c_q_s1 c_q_s2 c_q_s3 c_q_r0 c_q_r1 c_q_n0 c_q_n1
  have y0 := LK.frozen HQ.out.2.1 0
  have y1 := LK.frozen HQ.out.2.1 1
  by_cases hz : ER = 0
  · subst hz
    have hE := HE.out.1
    rw [if_pos rfl] at hE
    have hN := HE.out.2
    rw [if_pos hE] at hN
    subst hE hN
    go_wp2
    refine bodyPost_ret (v := .tuple #[.agg #[.int .i64 ns.level, .slice au2 ns.items.length cu2], .int .i64 0]) (by simp [results, Try.results25, go_sem, c_q_r0, c_q_r1]) rfl ⟨_, rfl, ?_, ?_⟩
    · have hfr : ∀ x, x < w4.heap.size → (x < w.heap.size + 1 ∨ w.heap.size + 2 ≤ x) → ((w4.setCell ⟨w.heap.size + 1, 0, none⟩ (.int .i64 ns.level)).setCell ⟨w.heap.size + 1, 1, none⟩ (.slice au2 ns.items.length cu2)).heap[x]? = w4.heap[x]? := fun x _ h => (set_other _ _ _ _ _ (by omega)).trans (set_other _ _ _ _ _ (by omega))
      have hS := LS.out HQ.out.2.2.2.2.1 (by simp only [World.size_setCell]; exact Nat.le_refl _) hfr (.inr (by omega))
      exact Sl.more (Lv.get hS) (by omega) (Lv.hi_le hS)
    · exact (Below.setCell HQ.out.2.2.2.2.2.2 (p := ⟨w.heap.size + 1, 0, none⟩) (Nat.le_succ _) _).setCell (p := ⟨w.heap.size + 1, 1, none⟩) (Nat.le_succ _) _
  · have i1 : (ER == 0) = false := by simp [hz]
    have i2 : (ER != 0) = true := by simp [hz]
    have hE := HE.out.1
    rw [if_neg hz] at hE
    have hN := HE.out.2
    rw [if_neg (by rw [hE]; decide)] at hN
    subst hE hN
    go_wp2
    refine bodyPost_ret (v := .tuple #[.agg #[.int .i64 0, .slice none 0 0], .int .i64 8]) (by simp [results, Try.results25, go_sem, c_q_r0, c_q_r1]) rfl ⟨_, rfl, ?_, ?_⟩
    · exact Sl.nil_ _ _ _
    · exact (Below.setCell HQ.out.2.2.2.2.2.2 (p := ⟨w.heap.size + 1, 0, none⟩) (Nat.le_succ _) _).setCell (p := ⟨w.heap.size + 1, 1, none⟩) (Nat.le_succ _) _

end Go.Proofs.Ytbddbadmfhplmaa

namespace Go.Proofs.Ytbddbadmfhplmaa
open Go.RowKit

/-- What Great sums, of the first k items. -/
def smI (its : List ItemL) (k : Nat) : Nat := ((its.take k).map fun x => min x.val.length 100000).sum
theorem smI_succ (its : List ItemL) (k : Nat) (h : k < its.length) : smI its (k + 1) = smI its k + min (its.getD k nokI).val.length 100000 := by
  unfold smI
  rw [List.take_add_one, List.map_append, List.sum_append, List.getElem?_eq_getElem h, List.getD_eq_getElem?_getD, List.getElem?_eq_getElem h]
  simp
theorem smI_all (its : List ItemL) (h : smI its its.length ≤ 50000) : ∀ x ∈ its, x.val.length ≤ 50000 := by
  unfold smI at h
  rw [List.take_length] at h
  induction its with
  | nil => intro x hx; cases hx
  | cons a l ih =>
    rw [List.map_cons, List.sum_cons] at h
    intro x hx
    rcases List.mem_cons.1 hx with rfl | hx
    · omega
    · exact ih (by omega) x hx
/-- Items that Great does not call great. -/
def FewI (its : List ItemL) : Prop := its.length ≤ 1000 ∧ ∀ x ∈ its, x.val.length ≤ 50000

set_option maxRecDepth 100000 in
set_option maxHeartbeats 1000000 in
theorem great6_any (v : Value) (its : List ItemL) (w : World) (h : Sl rItem w 0 w.heap.size v its) :
    Calls Try.prog 38 #[v] w fun e w' => ∃ g, e = .returned (.bool g) ∧ Below w.heap.size w w' ∧ (g = false → FewI its) := by
  obtain ⟨a, c, rfl, g1, g2, -, -⟩ := id h
  unfold maxLen at g2
  have HQ := Lib.hid h
  clear h
  go_enter Try.func38, Try.ntmps38
  go_wp2_with fail
  go_loopw [3, 4] (fun v i wr => ∃ k m : Nat, k ≤ its.length ∧ k ≤ 2000 ∧ m ≤ k * 100000 ∧ m = smI its k ∧ i = .int .i64 k ∧ v = .int .i64 m ∧ wr = w) (fun _ i _ => its.length - (intOf i).toNat)
  case atStart => exact ⟨0, 0, Nat.zero_le _, Nat.zero_le _, Nat.zero_le _, rfl, rfl, rfl, rfl⟩
  case round =>
  obtain ⟨k, m, hk, hk2, hm, hms, rfl, rfl, rfl⟩ := hrel
  by_cases hlt : k < its.length ∧ k < 2000
  · obtain ⟨hl1, hl2⟩ := hlt
    obtain ⟨bb, bo, cb', e', -, z1, z2, z3, hbe⟩ := HQ.out.at_ (by omega)
    injection e' with ea _ ec
    subst ea ec
    obtain ⟨-, -, -, -, -, u, hv, hvb⟩ := hbe k (its.getD k nokI) (get_l _ _ _ hl1)
    obtain ⟨av, cv, rfl, -, hcv⟩ := hvb.form rfl
    unfold maxLen at hcv z3
    have hn5 : rItem.n = 5 := rfl
    rw [hn5] at hv
    have i1 : (k : Int) < its.length := by omega
    have i2 : (k : Int) < 2000 := by omega
    obtain ⟨cy, hcy⟩ : ∃ cy : Nat, cy = min (its.getD k nokI).val.length 100000 := ⟨_, rfl⟩
    have hcl : cy ≤ 100000 := by omega
    have hsc := smI_succ its k hl1
    rw [← hcy, ← hms] at hsc
    have HSC := Lib.hid hsc
    clear hsc hms
    have hmin : min ((its.getD k nokI).val.length : Int) 100000 = (cy : Int) := by omega
    clear hvb hbe hcy hn5 z1 z2
    generalize (its.getD k nokI).val.length = y at *
    go_wp2
    go_roundw
    case rel => exact ⟨k + 1, m + cy, by omega, by omega, by omega, HSC.out.symm, by go_num, by go_num, trivial⟩
    case measure => simp [intOf]; omega
  · have hcase : (decide ((k : Int) < its.length) = false ∧ ¬ k < its.length) ∨ ((k : Int) < its.length ∧ decide ((k : Int) < 2000) = false) := by
      by_cases h : k < its.length
      · exact .inr ⟨by omega, by simp; omega⟩
      · exact .inl ⟨by simp; omega, h⟩
    have HMS := Lib.hid (And.intro hms hlt)
    clear hms hlt
    by_cases hg : 1000 < its.length
    · have i9 : (1000 : Int) < its.length := by omega
      rcases hcase with ⟨d3, d3n⟩ | ⟨i3, d4⟩
      · go_wp2
        go_ret
        exact ⟨true, rfl, Below.refl _ _, fun h => by cases h⟩
      · go_wp2
        go_ret
        exact ⟨true, rfl, Below.refl _ _, fun h => by cases h⟩
    · have d9 : decide ((1000 : Int) < its.length) = false := by simp; omega
      have hkk : k = its.length := by have := HMS.out.2; omega
      rcases hcase with ⟨d3, d3n⟩ | ⟨i3, d4⟩
      · by_cases h5 : 50000 < m
        · have i5 : (50000 : Int) < m := by omega
          go_wp2
          go_ret
          exact ⟨true, rfl, Below.refl _ _, fun h => by cases h⟩
        · have d5 : decide ((50000 : Int) < m) = false := by simp; omega
          have hm5 : m ≤ 50000 := by omega
          have HM5 := Lib.hid hm5
          clear h5 hm5
          go_wp2
          go_ret
          exact ⟨false, rfl, Below.refl _ _, fun _ => ⟨by omega, smI_all its (by rw [← hkk, ← HMS.out.1]; exact HM5.out)⟩⟩
      · omega
end Go.Proofs.Ytbddbadmfhplmaa

namespace Go.Proofs.Ytbddbadmfhplmaa
open Go.RowKit

theorem cntR_pos {its : List ItemL} {y : ItemL} (hy : y ∈ its) (h0 : y.ref ≠ 0) : 0 < cntR its y.ref.toNat := by
  unfold cntR
  exact List.length_pos_of_mem (List.mem_filter.2 ⟨hy, by simp [h0]⟩)
end Go.Proofs.Ytbddbadmfhplmaa

