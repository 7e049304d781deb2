/- NodeUnlike: the words and contracts, part 18. -/
import Derived.Test.YtfdogefoodljaaaNodeUnlikeQ1
import Derived.Test.YtfdogefoodljaaaNodeUnlikeQ2
import Derived.Test.YtfdogefoodljaaaNodeUnlikeQ3
import Derived.Test.YtfdogefoodljaaaNodeUnlikeQ4
import Derived.Test.YtfdogefoodljaaaNodeUnlikeQ5
import Derived.Test.YtfdogefoodljaaaNodeUnlikeQ6
import Derived.Test.YtfdogefoodljaaaNodeUnlikeQ7
import Derived.Test.YtfdogefoodljaaaNodeUnlikeQ8
import Derived.Test.YtfdogefoodljaaaNodeUnlikeQ9
import Derived.Test.YtfdogefoodljaaaNodeUnlikeQ10
import Derived.Test.YtfdogefoodljaaaNodeUnlikeQ11
import Derived.Test.YtfdogefoodljaaaNodeUnlikeQ12
import Derived.Test.YtfdogefoodljaaaNodeUnlikeQ13
import Derived.Test.YtfdogefoodljaaaNodeUnlikeQ14
import Derived.Test.YtfdogefoodljaaaNodeUnlikeQ15
import Derived.Test.YtfdogefoodljaaaNodeUnlikeQ16
import Derived.Test.YtfdogefoodljaaaNodeUnlikeQ17
import Derived.WalkKit
import Derived.WalkLawsBesides
import Derived.WalkSpells
import Derived.Lib.Hide
import Derived.Laws.Rows
import Derived.Laws.AppendOwnNone
import Derived.Maps.AppendAt
import Derived.ProofKit
import Derived.Deep.Slices
import Derived.WideShapes
import Derived.RangeFuncNested
import Derived.RangeFuncBound
import Derived.RangeFuncCalls
import Derived.RangeFuncLeaves
import Derived.RangeFuncBox
import Derived.Shelf.Abstract
import Derived.Shelf.RegionOpen
import Derived.OwnWalkIn
import Derived.TacticsInMore
import Derived.LoopNIn
import Derived.LoopIn
import Derived.Lib.AppendZerosOnto
import Derived.Lib.SliceRun
import Derived.Lib.Walk
import Derived.Deep.LoopGhost
import Derived.Laws.CopyOwn
import Derived.Laws.CopyRow
import Derived.OrdersHeld
import Derived.Deep.QuietTactic
import Derived.BigQuiet
import Derived.StillTailTactics
import Derived.OpenShut
import Derived.Deep.DeepCutAuto
import Derived.Deep.RegionHeld
import Derived.Laws.MakeOwn
import Derived.KernelRfl
import Derived.BigFrameIn
namespace Go.Proofs.Ytfdogefoodljaaa
open Go.RowKit

set_option maxRecDepth 100000 in
set_option maxHeartbeats 2000000 in
/-- node.Twin. -/
theorem ntwin_any (n : NodeL) (v : Value) (w : World) (h : Sl rItem w 0 w.heap.size v n.items) (hf : FewI n.items) :
    Calls Try.prog 48 #[.agg #[.int .i64 n.level, v]] w fun e w' => ∃ u, e = .returned (.agg #[.int .i64 n.level, u]) ∧ MadeN w w' u n.items := by
  obtain ⟨lv, L⟩ := n
  simp only at h hf ⊢
  obtain ⟨av, cv, rfl, g1, g2, -, -⟩ := id h
  unfold maxLen at g2
  obtain ⟨hl3, hval⟩ := hf
  have HVAL := Lib.hid hval
  clear hval
  have hst := ((Below.refl w.heap.size w).alloc (Nat.le_refl _) (.cells #[.int .i64 lv, .slice av L.length cv] 62)).alloc (by simp) (.cells #[.int .i64 0, .slice none 0 0] 62)
  have hq := two_new w (.cells #[.int .i64 lv, .slice av L.length cv] 62) (.cells #[.int .i64 0, .slice none 0 0] 62)
  have qn := LK.of hq.1
  have qr := LK.of hq.2
  have hB : LW w _ := hst
  have hS := (LS.of h (Nat.le_refl _)).step hst
  have sz_V : w.heap.size + 1 < ((w.alloc (.cells #[.int .i64 lv, .slice av L.length cv] 62)).alloc (.cells #[.int .i64 0, .slice none 0 0] 62)).heap.size := by simp
  obtain ⟨V, hV⟩ : ∃ V, (w.alloc (.cells #[.int .i64 lv, .slice av L.length cv] 62)).alloc (.cells #[.int .i64 0, .slice none 0 0] 62) = V := ⟨_, rfl⟩
  rw [hV] at hB hS qn qr sz_V
  clear h hst hq
  have HQ := Lib.hid (And.intro qr (And.intro qn (And.intro hS hB)))
  clear qr qn hS hB
  have c_qn0 := LK.cell HQ.out.2.1 0
  have c_qn1 := LK.cell HQ.out.2.1 1
  simp at c_qn0 c_qn1
  go_enter Try.func48, Try.ntmps48
  go_upto_region 1 with (fail)
  clear hV
  go_upto_region 2 with (fail)
  clear c_qn0 c_qn1
  obtain ⟨qr, qn, hS, hB⟩ := HQ.out
  clear HQ
  have hst := (Below.refl V.heap.size V).alloc (Nat.le_refl _) (.cells #[.int .i64 lv, .slice none 0 0] 62)
  have hlt : V.heap.size < (V.alloc (.cells #[.int .i64 lv, .slice none 0 0] 62)).heap.size := by simp
  have qo := LK.new V (.cells #[.int .i64 lv, .slice none 0 0] 62)
  replace qr := qr.step hst
  replace qn := qn.step hst
  replace hS := hS.step hst
  replace hB := hB.step hst
  obtain ⟨w1, hw⟩ : ∃ v, V.alloc (.cells #[.int .i64 lv, .slice none 0 0] 62) = v := ⟨_, rfl⟩
  rw [hw] at hlt qo qr qn hS hB ⊢
  clear hw hst
  have sz_w1 := hlt
  clear hlt
  have HQ := Lib.hid (And.intro qr (And.intro qn (And.intro hS (And.intro qo hB))))
  clear qr qn hS qo hB
  have c_qn0 := LK.cell HQ.out.2.1 0
  have c_qn1 := LK.cell HQ.out.2.1 1
  simp at c_qn0 c_qn1
  go_wp2_with fail
  go_loopw [12] (fun i wr => ∃ (j : Nat) (its : List ItemL) (ar : Option Addr) (cr : Nat), j ≤ L.length ∧ i = .int .i64 j ∧ its = L.take j ∧ wr.heap[V.heap.size]? = some (.cells #[.int .i64 lv, .slice ar its.length cr] 62 (0, 0)) ∧ OwnR rItemT w1.heap.size 73 w1.heap.size (boxS V.heap.size 1) wr (.slice ar its.length cr) its ∧ Below V.heap.size w1 wr) (fun i _ => L.length - (intOf i).toNat)
  case atStart => exact ⟨0, [], none, 0, Nat.zero_le _, rfl, rfl, (LK.blk HQ.out.2.2.2.1), OwnR.nil_ _ _ _ _ _ _, Below.refl _ _⟩
  case round =>
  obtain ⟨j, its, ar, cr, hj, rfl, hits, qbox, hown, hBr⟩ := hrel
  clear c_qn0 c_qn1
  have hlj : its.length = j := by rw [hits, List.length_take]; omega
  have HLJ := Lib.hid hlj
  clear hlj
  have szr := hBr.size
  by_cases hlt : j < L.length
  · obtain ⟨bb, bo, cb, e1, -, zb, -, zc, hcell⟩ := (Lv.get HQ.out.2.2.1).at_ (by omega)
    injection e1 with e1 _ e2
    subst e1 e2
    obtain ⟨f0, f1, f2, f3, f3w, vx, f4, hvx⟩ := hcell j (L.getD j nokI) (get_l _ _ _ hlt)
    have hvl := HVAL.out (L.getD j nokI) (List.mem_of_getElem? (get_l _ _ _ hlt))
    have htk : L.take (j + 1) = L.take j ++ [L.getD j nokI] := by rw [List.take_succ_eq_append_getElem hlt]; simp [hlt]
    obtain ⟨x, hx⟩ : ∃ x, L.getD j nokI = x := ⟨_, rfl⟩
    rw [hx] at f0 f1 f2 f3 f3w hvx hvl htk
    obtain ⟨xn, hxn⟩ : ∃ xn, x.val.length = xn := ⟨_, rfl⟩
    obtain ⟨ax, cx, rfl, -, -⟩ := hvx.form hxn
    simp only [bV, wV, Nat.add_zero] at f0 f1 f2 f3 f4
    have hn5 : rItem.n = 5 := rfl
    rw [hn5] at f0 f1 f2 f3 f4
    unfold maxLen at zc
    have zbV : bb < V.heap.size := by omega
    replace f0 := (hBr.cell (p := ⟨bb, bo + j * 5, none⟩) zbV).trans f0
    replace f1 := (hBr.cell (p := ⟨bb, bo + j * 5 + 1, none⟩) zbV).trans f1
    replace f2 := (hBr.cell (p := ⟨bb, bo + j * 5 + 2, none⟩) zbV).trans f2
    replace f3 := (hBr.cell (p := ⟨bb, bo + j * 5 + 3, none⟩) zbV).trans f3
    replace f4 := (hBr.cell (p := ⟨bb, bo + j * 5 + 4, none⟩) zbV).trans f4
    have k_tw := fun W (hW : Below wr.heap.size wr W) => itwin_any x (.slice ax xn cx) W (((hvx.below hBr (by omega)).below hW (by omega)).more (Nat.zero_le _) (by have := hW.size; omega)) (by omega)
    simp only [itemV, bV, wV] at k_tw
    have HP := Lib.hid (And.intro k_tw (And.intro qbox (And.intro hown (And.intro hBr (And.intro htk (And.intro hits (And.intro f3w hxn)))))))
    clear k_tw qbox hown hBr htk hits f3w hvx hx hcell hn5 hvl hxn
    have hi1 : (j : Int) < L.length := by omega
    go_upto_region 5 with (fail)
    have hst2 := (Below.refl wr.heap.size wr).alloc (Nat.le_refl _) (.cells #[.int .u8 (x.key.kind.toNat : Int), .int .u32 (x.key.id.toNat : Int), .int .u32 (x.key.off.toNat : Int), .int .i64 x.ref, .slice ax xn cx] 73)
    have qx := World.alloc_heap_new wr (.cells #[.int .u8 (x.key.kind.toNat : Int), .int .u32 (x.key.id.toNat : Int), .int .u32 (x.key.off.toNat : Int), .int .i64 x.ref, .slice ax xn cx] 73)
    have sz_x : wr.heap.size < (wr.alloc (.cells #[.int .u8 (x.key.kind.toNat : Int), .int .u32 (x.key.id.toNat : Int), .int .u32 (x.key.off.toNat : Int), .int .i64 x.ref, .slice ax xn cx] 73)).heap.size := by simp
    obtain ⟨wx, hwx⟩ : ∃ v, wr.alloc (.cells #[.int .u8 (x.key.kind.toNat : Int), .int .u32 (x.key.id.toNat : Int), .int .u32 (x.key.off.toNat : Int), .int .i64 x.ref, .slice ax xn cx] 73) = v := ⟨_, rfl⟩
    rw [hwx] at hst2 qx sz_x ⊢
    clear hwx f0 f1 f2 f3 f4
    have qn2 := (hst2.block V.heap.size (by omega)).trans HP.out.2.1
    obtain ⟨Pr, hPr⟩ : ∃ Pr : World → Prop, ∀ X, Pr X ↔ (X.heap[V.heap.size]? = wx.heap[V.heap.size]? ∧ X.heap[wr.heap.size]? = wx.heap[wr.heap.size]?) := ⟨_, fun _ => Iff.rfl⟩
    have hp0 : Pr wx.drew := (hPr _).2 ⟨rfl, rfl⟩
    have y1 := fun X => blk_cell (((hPr _).1 (selW_pr hp0 X)).1.trans qn2) 1
    have wa := fun X => blk_cell (((hPr _).1 (selW_pr hp0 X)).2.trans qx) 0
    have wb := fun X => blk_cell (((hPr _).1 (selW_pr hp0 X)).2.trans qx) 1
    have wc := fun X => blk_cell (((hPr _).1 (selW_pr hp0 X)).2.trans qx) 2
    have wd := fun X => blk_cell (((hPr _).1 (selW_pr hp0 X)).2.trans qx) 3
    have we := fun X => blk_cell (((hPr _).1 (selW_pr hp0 X)).2.trans qx) 4
    simp at y1 wa wb wc wd we
    have hrl := HP.out.2.2.1.lt
    have HZ := Lib.hid (And.intro hst2 (And.intro qn2 (And.intro qx hrl)))
    clear hst2 qn2 qx hrl
    refine wp_region_L (S := Kl Pr wx.drew) 7 (by kernel_rfl) (Kl.of hp0) (fun hCl => ?_)
    refine wpAnyL_seg (fuel := 5) (by kernel_rfl) (fun _ d _ _ _ h => by cases d <;> exact h) hCl [0, 1, 2] _ _ _ (by kernel_rfl) (by kernel_rfl) (by kernel_rfl) (by kernel_rfl) ?_
    simp only [opsOf_cons, opsOf_nil, consOp_some, List.getElem?_toArray, List.getElem?_cons_succ, List.getElem?_cons_zero]
    repeat (first | go_big_quiet_step (fail) | quiet_step (fail))
    refine wpQuiet_nil ?_
    refine wpAnyL_each (fuel := 4) [3] (by kernel_rfl) (by simp) (by kernel_rfl) ?_
    refine EachL.cons _ rfl (fun K' hK => ?_) EachL.nil
    go_simp
    refine (HP.out.1 _ HZ.out.1.drew).mono ?_
    rintro e z ⟨u, rfl, hm⟩
    obtain ⟨au, cu, rfl, -, -⟩ := hm.bytes.form HP.out.2.2.2.2.2.2.2
    have sz_z : wx.heap.size ≤ z.heap.size := hm.below.size
    have hst : Pr z := (hPr _).2 ⟨hm.below.block _ (by show V.heap.size < wx.heap.size; omega), hm.below.block _ (by show wr.heap.size < wx.heap.size; omega)⟩
    have hS0 : ∀ q, wx.drew.heap.size ≤ q → (boxS V.heap.size 1) q = false := fun q hq => boxS_no (by have h9 : wx.heap.size ≤ q := hq; omega)
    obtain ⟨hra, hrb⟩ := row_item1 (x := x) (HP.out.2.2.1.step rItemT_ck HZ.out.1.drew) hS0 hm.below z (Below.refl _ z) hm.bytes hm.thawed (show w1.heap.size ≤ wx.heap.size by omega) HP.out.2.2.2.2.2.2.1 73
    simp only [bV, wV] at hra hrb
    have HR := Lib.hid (And.intro hra (And.intro hrb (And.intro hm.below ((hPr _).1 hst))))
    clear hra hrb hm hS0
    have hCl : Kl Pr wx.drew _ := Kl.of hst
    refine hK.out (.inr hCl) ?_
    clear hK K'
    refine wpAnyL_each (fuel := 3) [4] (by kernel_rfl) (by simp) (by kernel_rfl) ?_
    refine EachL.cons _ rfl (fun K' hK => ?_) EachL.nil
    go_simp
    have hst : Pr (z.alloc (.cells #[.int .u8 (x.key.kind.toNat : Int), .int .u32 (x.key.id.toNat : Int), .int .u32 (x.key.off.toNat : Int), .int .i64 x.ref, .slice au xn cu] 73)) := (hPr _).2 ⟨(Below.heap_alloc z _ _ (by omega)).trans HR.out.2.2.2.1, (Below.heap_alloc z _ _ (by omega)).trans HR.out.2.2.2.2⟩
    have HST := Lib.hid hst
    have hCl : Kl Pr wx.drew _ := Kl.of hst
    refine hK.out (.inr hCl) ?_
    clear hK K'
    refine wpAnyL_each (fuel := 2) [5] (by kernel_rfl) (by simp) (by kernel_rfl) ?_
    refine EachL.cons _ rfl (fun K' hK => ?_) EachL.nil
    refine if_yes (by kernel_rfl) ?_
    have hSS : ∀ q, (z.alloc (.cells #[.int .u8 (x.key.kind.toNat : Int), .int .u32 (x.key.id.toNat : Int), .int .u32 (x.key.off.toNat : Int), .int .i64 x.ref, .slice au xn cu] 73)).heap.size ≤ q → (boxS V.heap.size 1) q = false := fun q hq => boxS_no (by rw [World.size_alloc] at hq; omega)
    refine wp_appR rItemT_ck (.tmp 17) (.tmp 20) 60 rfl 73 (.agg #[.int .u8 0, .int .u32 0, .int .u32 0, .int .i64 0, .slice none 0 0]) 48 Try.underlying60 (by kernel_rfl) rfl (by decide) w1.heap.size w1.heap.size (boxS V.heap.size 1) (.slice ar its.length cr) its [x] rfl HR.out.1 hSS ⟨z.heap.size, 0, none⟩ 1 [.int .u8 (x.key.kind.toNat : Int), .int .u32 (x.key.id.toNat : Int), .int .u32 (x.key.off.toNat : Int), .int .i64 x.ref, .slice au xn cu] rfl rfl (news_one #[.int .u8 (x.key.kind.toNat : Int), .int .u32 (x.key.id.toNat : Int), .int .u32 (x.key.off.toNat : Int), .int .i64 x.ref, .slice au xn cu] 73) (by intro u hu; simp at hu; rcases hu with rfl | rfl | rfl | rfl | rfl <;> rfl) HR.out.2.1 (by have := HLJ.out; show its.length + 1 ≤ 1000000; omega) (by decide) (by rw [World.size_alloc]; omega) ?_
    intro a4 c4 z4 hown4 hB4 hf4
    have hal1 : V.heap.size < (z.alloc (.cells #[.int .u8 (x.key.kind.toNat : Int), .int .u32 (x.key.id.toNat : Int), .int .u32 (x.key.off.toNat : Int), .int .i64 x.ref, .slice au xn cu] 73)).heap.size := by rw [World.size_alloc]; omega
    have hal2 : wr.heap.size < (z.alloc (.cells #[.int .u8 (x.key.kind.toNat : Int), .int .u32 (x.key.id.toNat : Int), .int .u32 (x.key.off.toNat : Int), .int .i64 x.ref, .slice au xn cu] 73)).heap.size := by rw [World.size_alloc]; omega
    have hst : Pr z4 := (hPr _).2 ⟨(hf4 _ hal1 (fun e => by have := (HZ.out.2.2.2 _ e).1; omega)).trans ((hPr _).1 HST.out).1, (hf4 _ hal2 (fun e => by have := (HZ.out.2.2.2 _ e).2; omega)).trans ((hPr _).1 HST.out).2⟩
    rw [show (its ++ [x]).length = its.length + 1 by simp] at hown4 ⊢
    have k5 := (((hPr _).1 hst).1).trans HZ.out.2.1
    have j1 := blk_cell k5 1
    have jf := blk_frozen k5 1
    simp at j1
    have HO := Lib.hid (And.intro hown4 (And.intro hB4 k5))
    clear hown4 hB4 k5 hf4 hal1 hal2
    have hCl : Kl Pr wx.drew _ := Kl.of hst
    refine hK.out (.inr hCl) ?_
    clear hK K'
    refine wpAnyL_seg (fuel := 1) (by kernel_rfl) (fun _ d _ _ _ h => by cases d <;> exact h) hCl [6] _ _ _ (by kernel_rfl) (by kernel_rfl) (by kernel_rfl) (by kernel_rfl) ?_
    simp only [opsOf_cons, opsOf_nil, consOp_some, List.getElem?_toArray, List.getElem?_cons_succ, List.getElem?_cons_zero]
    repeat (first | go_big_quiet_step (fail) | quiet_step (fail))
    refine wpQuiet_nil ?_
    refine wpAnyL_each (fuel := 0) [7] (by kernel_rfl) (by simp) (by kernel_rfl) ?_
    refine EachL.cons _ rfl (fun K' hK => ?_) EachL.nil
    go_simp
    refine hK.out (.inl rfl) ?_
    clear hK K'
    refine wpAnyL_done (by kernel_rfl) ?_ _
    go_wp2
    go_roundw
    case rel =>
      obtain ⟨hown4, hB4, k5⟩ := HO.out
      have hBa : Below V.heap.size wr wx.drew := HZ.out.1.drew.mono (by omega)
      have hBb : Below V.heap.size wr z := hBa.trans (HR.out.2.2.1.mono (by show V.heap.size ≤ wx.heap.size; omega))
      have hBc : Below V.heap.size wr (z.alloc (.cells #[.int .u8 (x.key.kind.toNat : Int), .int .u32 (x.key.id.toNat : Int), .int .u32 (x.key.off.toNat : Int), .int .i64 x.ref, .slice au xn cu] 73)) := hBb.alloc (by omega) _
      have hBd : Below V.heap.size wr z4 := hBc.trans (hB4.mono (by omega))
      have hBn : Below V.heap.size wr (z4.setCell ⟨V.heap.size, 1, none⟩ (.slice a4 (its.length + 1) c4)) := hBd.setCell (p := ⟨V.heap.size, 1, none⟩) (Nat.le_refl _) _
      have hls : (its ++ [x]).length = its.length + 1 := by simp
      refine ⟨j + 1, its ++ [x], a4, c4, by omega, by go_num, ?_, ?_, ?_, HP.out.2.2.2.1.trans hBn⟩
      · rw [HP.out.2.2.2.2.1, ← HP.out.2.2.2.2.2.1]
      · rw [hls]
        exact set_block k5 1 _
      · rw [hls]
        exact hown4.setS rItemT_ck ⟨V.heap.size, 1, none⟩ _ (boxS_yes (Nat.le_refl _) (by show V.heap.size < V.heap.size + 1; omega))
    case measure => simp [intOf]; omega
  obtain rfl : j = L.length := by omega
  have hits2 : its = L := by rw [hits, List.take_length]
  clear hits
  have qres := (hBr.block (w.heap.size + 1) (by omega)).trans (LK.blk HQ.out.1)
  have hBw := Below.trans HQ.out.2.2.2.2 (hBr.mono (by omega))
  have hsl := hown.sl rItemT_ck (lo' := w1.heap.size) (Nat.le_refl _) (Nat.le_refl _)
  have hthw := fun g o hg => And.intro (hown.thaw g o hg) (hown.lt g hg).1
  obtain ⟨N, hN⟩ : ∃ N, its.length = N := ⟨_, rfl⟩
  rw [hN] at hsl hthw qbox
  rw [hits2] at hsl
  have c_qr0 := blk_cell qres 0
  have c_qr1 := blk_cell qres 1
  have c_n0 := blk_cell qbox 0
  have c_n1 := blk_cell qbox 1
  simp at c_qr0 c_qr1 c_n0 c_n1
  have z_qr0 := blk_frozen qres 0
  have z_qr1 := blk_frozen qres 1
  have HF := Lib.hid (And.intro hsl (And.intro hthw hBw))
  clear hsl hthw hBw hown hBr qres qbox hN hits2
  go_wp2
  refine bodyPost_ret (v := .agg #[.int .i64 lv, .slice ar N cr]) (by simp [results, Try.results48, go_sem, c_qr0, c_qr1]) rfl ⟨_, rfl, ?_⟩
  have hk2 : ∀ lo hi, w.heap.size + 2 ≤ lo → Kp lo hi wr ((wr.setCell ⟨w.heap.size + 1, 0, none⟩ (.int .i64 lv)).setCell ⟨w.heap.size + 1, 1, none⟩ (.slice ar N cr)) := fun lo hi h b o h1 _ => ⟨heap_cell ((set_other _ _ _ _ b (by omega)).trans (set_other wr _ _ _ b (by omega))) o, heap_frozen ((set_other _ _ _ _ b (by omega)).trans (set_other wr _ _ _ b (by omega))) o⟩
  obtain ⟨hsl, hthw, hBw⟩ := HF.out
  refine ⟨(hsl.keep (hk2 _ _ (by omega))).more (by omega) (by rw [World.size_setCell, World.size_setCell]; omega), fun g o hg => ?_, (Below.setCell hBw (p := ⟨w.heap.size + 1, 0, none⟩) (Nat.le_succ _) _).setCell (p := ⟨w.heap.size + 1, 1, none⟩) (Nat.le_succ _) _⟩
  rw [World.frozen?_setCell, World.frozen?_setCell]
  exact (hthw g o hg).1
end Go.Proofs.Ytfdogefoodljaaa

namespace Go.Proofs.Ytfdogefoodljaaa
open Go.RowKit

def KeepC (n₀ Bs : Nat) (A B : World) : Prop := Below n₀ A B ∧ B.cell? ⟨Bs, 0, none⟩ = A.cell? ⟨Bs, 0, none⟩ ∧ B.cell? ⟨Bs + 1, 0, none⟩ = A.cell? ⟨Bs + 1, 0, none⟩
theorem KeepC.refl (n₀ Bs : Nat) (A : World) : KeepC n₀ Bs A A := ⟨Below.refl _ _, rfl, rfl⟩
theorem KeepC.trans {n₀ Bs : Nat} {A B C : World} (h : KeepC n₀ Bs A B) (k : KeepC n₀ Bs B C) : KeepC n₀ Bs A C := ⟨h.1.trans k.1, k.2.1.trans h.2.1, k.2.2.trans h.2.2⟩
end Go.Proofs.Ytfdogefoodljaaa

namespace Go.Proofs.Ytfdogefoodljaaa
open Go.RowKit

theorem maxL_zero (l : List UInt8) : maxL l = 0 ↔ ∀ x ∈ l, x = 0 := by
  have h : ∀ (l : List UInt8) (m : Nat), l.foldl (fun m x => max m x.toNat) m = 0 ↔ m = 0 ∧ ∀ x ∈ l, x = 0 := by
    intro l
    induction l with
    | nil => intro m; simp
    | cons y l ih =>
      intro m
      rw [List.foldl_cons, ih]
      constructor
      · rintro ⟨h1, h2⟩
        have h3 : y.toNat = 0 := by omega
        have h4 : y = 0 := UInt8.toNat_inj.1 (by rw [h3]; rfl)
        exact ⟨by omega, fun x hx => by rcases List.mem_cons.1 hx with e | hx; (exact e.trans h4); (exact h2 x hx)⟩
      · rintro ⟨h1, h2⟩
        have h4 := h2 y (List.mem_cons_self ..)
        subst h4
        exact ⟨by subst h1; rfl, fun x hx => h2 x (List.mem_cons_of_mem _ hx)⟩
  have := h l 0
  unfold maxL
  rw [this]
  exact ⟨fun h => h.2, fun h => ⟨rfl, h⟩⟩
end Go.Proofs.Ytfdogefoodljaaa

namespace Go.Proofs.Ytfdogefoodljaaa
open Go.RowKit

theorem open_sealN (b : List UInt8) (h : b.length ≤ 124) : openE (sealL b) = 0 ∧ openL (sealL b) = padL b := by
  have hl := sealL_length b h
  have ht : (sealL b).take 4 = fourL (crc (padL b)).toNat := by simp [sealL, fourL]
  have hd : (sealL b).drop 4 = padL b := by simp [sealL, fourL]
  have ho : opensL (sealL b) = true := by
    simp only [opensL, beq_iff_eq, getN_zero (sealL b) (by omega), ht, hd]
    exact numOf_fourL (crc (padL b)).toNat (by have := (crc (padL b)).isLt; omega)
  have h1 : openE (sealL b) = 0 := by
    unfold openE
    rw [if_pos hl, if_pos ho]
  exact ⟨h1, by unfold openL; rw [if_pos h1, hd]⟩
theorem bodyN_cons (x : ItemL) (l : List ItemL) : bodyN (x :: l) = itemB x ++ bodyN l := by simp [bodyN]
theorem rdS_body (its : List ItemL) (z : List UInt8) (hm : ∀ x ∈ its, mayI x = true) : ∀ k, k ≤ its.length → rdS (bodyN its ++ z) k = some (its.take k, bodyN (its.drop k) ++ z)
  | 0, _ => rfl
  | k + 1, hk => by
    have hx : k < its.length := hk
    have hd : its.drop k = its[k] :: its.drop (k + 1) := List.drop_eq_getElem_cons hx
    obtain ⟨h1, h2, h3⟩ := read_item its[k] (hm _ (List.getElem_mem hx)) (bodyN (its.drop (k + 1)) ++ z)
    rw [rdS, rdS_body its z hm k (by omega)]
    simp only
    rw [hd, bodyN_cons, List.append_assoc, if_pos h1, h2, h3, List.drop_left, List.take_succ_eq_append_getElem hx]
theorem back1 {n : NodeL} (h : mayN n = true) : errNd (blockN n) = 0 ∧ readNd (blockN n) = n ∧ (blockN n).length = 128 := by
  have hlen := bytesN_len h
  have hb : blockN n = sealL (bytesN n) := by unfold blockN; rw [if_pos h]
  obtain ⟨o1, o2⟩ := open_sealN (bytesN n) hlen
  obtain ⟨⟨l0, l6⟩, l5, -, -⟩ := mayN_all h
  obtain ⟨lv, its⟩ := n
  obtain ⟨lv, rfl⟩ := Int.eq_ofNat_of_zero_le l0
  simp only at l6 l5
  have e : padL (bytesN ⟨(lv : Int), its⟩) = 78 :: UInt8.ofNat lv :: UInt8.ofNat its.length :: (bodyN its ++ List.replicate (124 - (bytesN ⟨(lv : Int), its⟩).length) 0) := by
    simp [padL, bytesN, headN]
  rw [e] at o2
  have hr := rdS_body its (List.replicate (124 - (bytesN ⟨(lv : Int), its⟩).length) 0) (mayN_items h) its.length (Nat.le_refl _)
  rw [List.take_length, List.drop_length] at hr
  have n1 : (UInt8.ofNat lv).toNat = lv := by rw [UInt8.toNat_ofNat']; omega
  have n2 : (UInt8.ofNat its.length).toNat = its.length := by rw [UInt8.toNat_ofNat']; omega
  have ha : rdAll (sealL (bytesN ⟨(lv : Int), its⟩)) = some (its, List.replicate (124 - (bytesN ⟨(lv : Int), its⟩).length) 0) := by
    unfold rdAll
    rw [o2]
    simp only [List.drop_succ_cons, List.drop_zero, List.getD_cons_succ, List.getD_cons_zero, n2]
    exact hr
  have hz : maxL (List.replicate (124 - (bytesN ⟨(lv : Int), its⟩).length) (0 : UInt8)) = 0 := (maxL_zero _).2 fun x hx => (List.mem_replicate.1 hx).2
  have hk : okRd (sealL (bytesN ⟨(lv : Int), its⟩)) = true := by
    unfold okRd
    rw [ha, o2]
    simp only [List.getD_cons_succ, List.getD_cons_zero, n1, n2, h, hz]
    simp [l5]
  have he : errNd (sealL (bytesN ⟨(lv : Int), its⟩)) = 0 := by
    unfold errNd
    rw [if_pos o1, if_pos hk]
  refine ⟨by rw [hb]; exact he, ?_, by rw [hb]; exact sealL_length _ hlen⟩
  rw [hb]
  unfold readNd
  rw [if_pos he, ha, o2]
  simp only [List.getD_cons_succ, List.getD_cons_zero, n1, Option.getD_some]
end Go.Proofs.Ytfdogefoodljaaa

