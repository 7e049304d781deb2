/- NodeCodes: the words and contracts, part 19. -/
import Derived.Test.YthealkfpflkipaaNodeCodesQ1
import Derived.Test.YthealkfpflkipaaNodeCodesQ2
import Derived.Test.YthealkfpflkipaaNodeCodesQ3
import Derived.Test.YthealkfpflkipaaNodeCodesQ4
import Derived.Test.YthealkfpflkipaaNodeCodesQ5
import Derived.Test.YthealkfpflkipaaNodeCodesQ6
import Derived.Test.YthealkfpflkipaaNodeCodesQ7
import Derived.Test.YthealkfpflkipaaNodeCodesQ8
import Derived.Test.YthealkfpflkipaaNodeCodesQ9
import Derived.Test.YthealkfpflkipaaNodeCodesQ10
import Derived.Test.YthealkfpflkipaaNodeCodesQ11
import Derived.Test.YthealkfpflkipaaNodeCodesQ12
import Derived.Test.YthealkfpflkipaaNodeCodesQ16
import Derived.WalkKit
import Derived.WalkLawsBesides
import Derived.WalkSpells
import Derived.Lib.Hide
import Derived.Laws.Rows
import Derived.Laws.AppendOwnNone
import Derived.Maps.AppendAt
import Derived.ProofKit
import Derived.Deep.Slices
import Derived.WideShapes
import Derived.RangeFuncNested
import Derived.RangeFuncBound
import Derived.RangeFuncCalls
import Derived.RangeFuncLeaves
import Derived.RangeFuncBox
import Derived.Shelf.Abstract
import Derived.Shelf.RegionOpen
import Derived.OwnWalkIn
import Derived.TacticsInMore
import Derived.LoopNIn
import Derived.LoopIn
import Derived.Lib.AppendZerosOnto
import Derived.Lib.SliceRun
import Derived.Lib.Walk
import Derived.Deep.LoopGhost
import Derived.Laws.CopyOwn
import Derived.Laws.CopyRow
import Derived.OrdersHeld
import Derived.Deep.QuietTactic
import Derived.BigQuiet
import Derived.StillTailTactics
import Derived.OpenShut
import Derived.Deep.DeepCutAuto
import Derived.Deep.RegionHeld
import Derived.Laws.MakeOwn
import Derived.KernelRfl
namespace Go.Proofs.Ythealkfpflkipaa
open Go.RowKit

set_option maxRecDepth 100000 in
set_option maxHeartbeats 2000000 in
/-- node.Twin. -/
theorem ntwin_any (n : NodeL) (v : Value) (w : World) (h : Sl rItem w 0 w.heap.size v n.items) (hf : FewI n.items) :
    Calls Try.prog 33 #[.agg #[.int .i64 n.level, v]] w fun e w' => ∃ u, e = .returned (.agg #[.int .i64 n.level, u]) ∧ MadeN w w' u n.items := by
  obtain ⟨lv, L⟩ := n
  simp only at h hf ⊢
  obtain ⟨av, cv, rfl, g1, g2, -, -⟩ := id h
  unfold maxLen at g2
  obtain ⟨hl3, hval⟩ := hf
  have HVAL := Lib.hid hval
  clear hval
  have hst := ((Below.refl w.heap.size w).alloc (Nat.le_refl _) (.cells #[.int .i64 lv, .slice av L.length cv] 54)).alloc (by simp) (.cells #[.int .i64 0, .slice none 0 0] 54)
  have hq := two_new w (.cells #[.int .i64 lv, .slice av L.length cv] 54) (.cells #[.int .i64 0, .slice none 0 0] 54)
  have qn := LK.of hq.1
  have qr := LK.of hq.2
  have hB : LW w _ := hst
  have hS := (LS.of h (Nat.le_refl _)).step hst
  have sz_V : w.heap.size + 1 < ((w.alloc (.cells #[.int .i64 lv, .slice av L.length cv] 54)).alloc (.cells #[.int .i64 0, .slice none 0 0] 54)).heap.size := by simp
  obtain ⟨V, hV⟩ : ∃ V, (w.alloc (.cells #[.int .i64 lv, .slice av L.length cv] 54)).alloc (.cells #[.int .i64 0, .slice none 0 0] 54) = V := ⟨_, rfl⟩
  rw [hV] at hB hS qn qr sz_V
  clear h hst hq
  have HQ := Lib.hid (And.intro qr (And.intro qn (And.intro hS hB)))
  clear qr qn hS hB
  have c_qn0 := LK.cell HQ.out.2.1 0
  have c_qn1 := LK.cell HQ.out.2.1 1
  simp at c_qn0 c_qn1
  go_enter Try.func33, Try.ntmps33
  go_upto_region 1 with (fail)
  clear hV
  go_upto_region 2 with (fail)
  clear c_qn0 c_qn1
  obtain ⟨qr, qn, hS, hB⟩ := HQ.out
  clear HQ
  have hst := (Below.refl V.heap.size V).alloc (Nat.le_refl _) (.cells #[.int .i64 lv, .slice none 0 0] 54)
  have hlt : V.heap.size < (V.alloc (.cells #[.int .i64 lv, .slice none 0 0] 54)).heap.size := by simp
  have qo := LK.new V (.cells #[.int .i64 lv, .slice none 0 0] 54)
  replace qr := qr.step hst
  replace qn := qn.step hst
  replace hS := hS.step hst
  replace hB := hB.step hst
  obtain ⟨w1, hw⟩ : ∃ v, V.alloc (.cells #[.int .i64 lv, .slice none 0 0] 54) = v := ⟨_, rfl⟩
  rw [hw] at hlt qo qr qn hS hB ⊢
  clear hw hst
  have sz_w1 := hlt
  clear hlt
  have HQ := Lib.hid (And.intro qr (And.intro qn (And.intro hS (And.intro qo hB))))
  clear qr qn hS qo hB
  have c_qn0 := LK.cell HQ.out.2.1 0
  have c_qn1 := LK.cell HQ.out.2.1 1
  simp at c_qn0 c_qn1
  go_wp2_with fail
  go_loopw [12] (fun i wr => ∃ (j : Nat) (its : List ItemL) (ar : Option Addr) (cr : Nat), j ≤ L.length ∧ i = .int .i64 j ∧ its = L.take j ∧ wr.heap[V.heap.size]? = some (.cells #[.int .i64 lv, .slice ar its.length cr] 54 (0, 0)) ∧ OwnR rItemT w1.heap.size 85 w1.heap.size (boxS V.heap.size 1) wr (.slice ar its.length cr) its ∧ Below V.heap.size w1 wr) (fun i _ => L.length - (intOf i).toNat)
  case atStart => exact ⟨0, [], none, 0, Nat.zero_le _, rfl, rfl, (LK.blk HQ.out.2.2.2.1), OwnR.nil_ _ _ _ _ _ _, Below.refl _ _⟩
  case round =>
  obtain ⟨j, its, ar, cr, hj, rfl, hits, qbox, hown, hBr⟩ := hrel
  clear c_qn0 c_qn1
  have hlj : its.length = j := by rw [hits, List.length_take]; omega
  have HLJ := Lib.hid hlj
  clear hlj
  have szr := hBr.size
  by_cases hlt : j < L.length
  · obtain ⟨bb, bo, cb, e1, -, zb, -, zc, hcell⟩ := (Lv.get HQ.out.2.2.1).at_ (by omega)
    injection e1 with e1 _ e2
    subst e1 e2
    obtain ⟨f0, f1, f2, f3, f3w, vx, f4, hvx⟩ := hcell j (L.getD j nokI) (get_l _ _ _ hlt)
    have hvl := HVAL.out (L.getD j nokI) (List.mem_of_getElem? (get_l _ _ _ hlt))
    have htk : L.take (j + 1) = L.take j ++ [L.getD j nokI] := by rw [List.take_succ_eq_append_getElem hlt]; simp [hlt]
    obtain ⟨x, hx⟩ : ∃ x, L.getD j nokI = x := ⟨_, rfl⟩
    rw [hx] at f0 f1 f2 f3 f3w hvx hvl htk
    obtain ⟨xn, hxn⟩ : ∃ xn, x.val.length = xn := ⟨_, rfl⟩
    obtain ⟨ax, cx, rfl, -, -⟩ := hvx.form hxn
    simp only [bV, wV, Nat.add_zero] at f0 f1 f2 f3 f4
    have hn5 : rItem.n = 5 := rfl
    rw [hn5] at f0 f1 f2 f3 f4
    unfold maxLen at zc
    have zbV : bb < V.heap.size := by omega
    replace f0 := (hBr.cell (p := ⟨bb, bo + j * 5, none⟩) zbV).trans f0
    replace f1 := (hBr.cell (p := ⟨bb, bo + j * 5 + 1, none⟩) zbV).trans f1
    replace f2 := (hBr.cell (p := ⟨bb, bo + j * 5 + 2, none⟩) zbV).trans f2
    replace f3 := (hBr.cell (p := ⟨bb, bo + j * 5 + 3, none⟩) zbV).trans f3
    replace f4 := (hBr.cell (p := ⟨bb, bo + j * 5 + 4, none⟩) zbV).trans f4
    have k_tw := fun W (hW : Below wr.heap.size wr W) => itwin_any x (.slice ax xn cx) W (((hvx.below hBr (by omega)).below hW (by omega)).more (Nat.zero_le _) (by have := hW.size; omega)) (by omega)
    simp only [itemV, bV, wV] at k_tw
    have HP := Lib.hid (And.intro k_tw (And.intro qbox (And.intro hown (And.intro hBr (And.intro htk (And.intro hits (And.intro f3w hxn)))))))
    clear k_tw qbox hown hBr htk hits f3w hvx hx hcell hn5 hvl hxn
    have hi1 : (j : Int) < L.length := by omega
    go_upto_region 5 with (fail)
    have hst2 := (Below.refl wr.heap.size wr).alloc (Nat.le_refl _) (.cells #[.int .u8 (x.key.kind.toNat : Int), .int .u32 (x.key.id.toNat : Int), .int .u32 (x.key.off.toNat : Int), .int .i64 x.ref, .slice ax xn cx] 85)
    have qx := World.alloc_heap_new wr (.cells #[.int .u8 (x.key.kind.toNat : Int), .int .u32 (x.key.id.toNat : Int), .int .u32 (x.key.off.toNat : Int), .int .i64 x.ref, .slice ax xn cx] 85)
    have sz_x : wr.heap.size < (wr.alloc (.cells #[.int .u8 (x.key.kind.toNat : Int), .int .u32 (x.key.id.toNat : Int), .int .u32 (x.key.off.toNat : Int), .int .i64 x.ref, .slice ax xn cx] 85)).heap.size := by simp
    obtain ⟨wx, hwx⟩ : ∃ v, wr.alloc (.cells #[.int .u8 (x.key.kind.toNat : Int), .int .u32 (x.key.id.toNat : Int), .int .u32 (x.key.off.toNat : Int), .int .i64 x.ref, .slice ax xn cx] 85) = v := ⟨_, rfl⟩
    rw [hwx] at hst2 qx sz_x ⊢
    clear hwx f0 f1 f2 f3 f4
    have qn2 := (hst2.block V.heap.size (by omega)).trans HP.out.2.1
    obtain ⟨Pr, hPr⟩ : ∃ Pr : World → Prop, ∀ X, Pr X ↔ (X.heap[V.heap.size]? = wx.heap[V.heap.size]? ∧ X.heap[wr.heap.size]? = wx.heap[wr.heap.size]?) := ⟨_, fun _ => Iff.rfl⟩
    have hp0 : Pr wx.drew := (hPr _).2 ⟨rfl, rfl⟩
    have y1 := fun X => blk_cell (((hPr _).1 (selW_pr hp0 X)).1.trans qn2) 1
    have wa := fun X => blk_cell (((hPr _).1 (selW_pr hp0 X)).2.trans qx) 0
    have wb := fun X => blk_cell (((hPr _).1 (selW_pr hp0 X)).2.trans qx) 1
    have wc := fun X => blk_cell (((hPr _).1 (selW_pr hp0 X)).2.trans qx) 2
    have wd := fun X => blk_cell (((hPr _).1 (selW_pr hp0 X)).2.trans qx) 3
    have we := fun X => blk_cell (((hPr _).1 (selW_pr hp0 X)).2.trans qx) 4
    simp at y1 wa wb wc wd we
    have hrl := HP.out.2.2.1.lt
    have HZ := Lib.hid (And.intro hst2 (And.intro qn2 (And.intro qx hrl)))
    clear hst2 qn2 qx hrl
    refine wp_region_L (S := Kl Pr wx.drew) 7 (by kernel_rfl) (Kl.of hp0) (fun hCl => ?_)
    refine wpAnyL_seg (fuel := 5) (by kernel_rfl) (fun _ d _ _ _ h => by cases d <;> exact h) hCl [0, 1, 2] _ _ _ (by kernel_rfl) (by kernel_rfl) (by kernel_rfl) (by kernel_rfl) ?_
    simp only [opsOf_cons, opsOf_nil, consOp_some, List.getElem?_toArray, List.getElem?_cons_succ, List.getElem?_cons_zero]
    repeat (first | go_big_quiet_step (fail) | quiet_step (fail))
    refine wpQuiet_nil ?_
    refine wpAnyL_each (fuel := 4) [3] (by kernel_rfl) (by simp) (by kernel_rfl) ?_
    refine EachL.cons _ rfl (fun K' hK => ?_) EachL.nil
    go_simp
    refine (HP.out.1 _ HZ.out.1.drew).mono ?_
    rintro e z ⟨u, rfl, hm⟩
    obtain ⟨au, cu, rfl, -, -⟩ := hm.bytes.form HP.out.2.2.2.2.2.2.2
    have sz_z : wx.heap.size ≤ z.heap.size := hm.below.size
    have hst : Pr z := (hPr _).2 ⟨hm.below.block _ (by show V.heap.size < wx.heap.size; omega), hm.below.block _ (by show wr.heap.size < wx.heap.size; omega)⟩
    have hS0 : ∀ q, wx.drew.heap.size ≤ q → (boxS V.heap.size 1) q = false := fun q hq => boxS_no (by have h9 : wx.heap.size ≤ q := hq; omega)
    obtain ⟨hra, hrb⟩ := row_item1 (x := x) (HP.out.2.2.1.step rItemT_ck HZ.out.1.drew) hS0 hm.below z (Below.refl _ z) hm.bytes hm.thawed (show w1.heap.size ≤ wx.heap.size by omega) HP.out.2.2.2.2.2.2.1 85
    simp only [bV, wV] at hra hrb
    have HR := Lib.hid (And.intro hra (And.intro hrb (And.intro hm.below ((hPr _).1 hst))))
    clear hra hrb hm hS0
    have hCl : Kl Pr wx.drew _ := Kl.of hst
    refine hK.out (.inr hCl) ?_
    clear hK K'
    refine wpAnyL_each (fuel := 3) [4] (by kernel_rfl) (by simp) (by kernel_rfl) ?_
    refine EachL.cons _ rfl (fun K' hK => ?_) EachL.nil
    go_simp
    have hst : Pr (z.alloc (.cells #[.int .u8 (x.key.kind.toNat : Int), .int .u32 (x.key.id.toNat : Int), .int .u32 (x.key.off.toNat : Int), .int .i64 x.ref, .slice au xn cu] 85)) := (hPr _).2 ⟨(Below.heap_alloc z _ _ (by omega)).trans HR.out.2.2.2.1, (Below.heap_alloc z _ _ (by omega)).trans HR.out.2.2.2.2⟩
    have HST := Lib.hid hst
    have hCl : Kl Pr wx.drew _ := Kl.of hst
    refine hK.out (.inr hCl) ?_
    clear hK K'
    refine wpAnyL_each (fuel := 2) [5] (by kernel_rfl) (by simp) (by kernel_rfl) ?_
    refine EachL.cons _ rfl (fun K' hK => ?_) EachL.nil
    refine if_yes (by kernel_rfl) ?_
    have hSS : ∀ q, (z.alloc (.cells #[.int .u8 (x.key.kind.toNat : Int), .int .u32 (x.key.id.toNat : Int), .int .u32 (x.key.off.toNat : Int), .int .i64 x.ref, .slice au xn cu] 85)).heap.size ≤ q → (boxS V.heap.size 1) q = false := fun q hq => boxS_no (by rw [World.size_alloc] at hq; omega)
    refine wp_appR rItemT_ck (.tmp 17) (.tmp 20) 52 rfl 85 (.agg #[.int .u8 0, .int .u32 0, .int .u32 0, .int .i64 0, .slice none 0 0]) 48 Try.underlying52 (by kernel_rfl) rfl (by decide) w1.heap.size w1.heap.size (boxS V.heap.size 1) (.slice ar its.length cr) its [x] rfl HR.out.1 hSS ⟨z.heap.size, 0, none⟩ 1 [.int .u8 (x.key.kind.toNat : Int), .int .u32 (x.key.id.toNat : Int), .int .u32 (x.key.off.toNat : Int), .int .i64 x.ref, .slice au xn cu] rfl rfl (news_one #[.int .u8 (x.key.kind.toNat : Int), .int .u32 (x.key.id.toNat : Int), .int .u32 (x.key.off.toNat : Int), .int .i64 x.ref, .slice au xn cu] 85) (by intro u hu; simp at hu; rcases hu with rfl | rfl | rfl | rfl | rfl <;> rfl) HR.out.2.1 (by have := HLJ.out; show its.length + 1 ≤ 1000000; omega) (by decide) (by rw [World.size_alloc]; omega) ?_
    intro a4 c4 z4 hown4 hB4 hf4
    have hal1 : V.heap.size < (z.alloc (.cells #[.int .u8 (x.key.kind.toNat : Int), .int .u32 (x.key.id.toNat : Int), .int .u32 (x.key.off.toNat : Int), .int .i64 x.ref, .slice au xn cu] 85)).heap.size := by rw [World.size_alloc]; omega
    have hal2 : wr.heap.size < (z.alloc (.cells #[.int .u8 (x.key.kind.toNat : Int), .int .u32 (x.key.id.toNat : Int), .int .u32 (x.key.off.toNat : Int), .int .i64 x.ref, .slice au xn cu] 85)).heap.size := by rw [World.size_alloc]; omega
    have hst : Pr z4 := (hPr _).2 ⟨(hf4 _ hal1 (fun e => by have := (HZ.out.2.2.2 _ e).1; omega)).trans ((hPr _).1 HST.out).1, (hf4 _ hal2 (fun e => by have := (HZ.out.2.2.2 _ e).2; omega)).trans ((hPr _).1 HST.out).2⟩
    rw [show (its ++ [x]).length = its.length + 1 by simp] at hown4 ⊢
    have k5 := (((hPr _).1 hst).1).trans HZ.out.2.1
    have j1 := blk_cell k5 1
    have jf := blk_frozen k5 1
    simp at j1
    have HO := Lib.hid (And.intro hown4 (And.intro hB4 k5))
    clear hown4 hB4 k5 hf4 hal1 hal2
    have hCl : Kl Pr wx.drew _ := Kl.of hst
    refine hK.out (.inr hCl) ?_
    clear hK K'
    refine wpAnyL_seg (fuel := 1) (by kernel_rfl) (fun _ d _ _ _ h => by cases d <;> exact h) hCl [6] _ _ _ (by kernel_rfl) (by kernel_rfl) (by kernel_rfl) (by kernel_rfl) ?_
    simp only [opsOf_cons, opsOf_nil, consOp_some, List.getElem?_toArray, List.getElem?_cons_succ, List.getElem?_cons_zero]
    repeat (first | go_big_quiet_step (fail) | quiet_step (fail))
    refine wpQuiet_nil ?_
    refine wpAnyL_each (fuel := 0) [7] (by kernel_rfl) (by simp) (by kernel_rfl) ?_
    refine EachL.cons _ rfl (fun K' hK => ?_) EachL.nil
    go_simp
    refine hK.out (.inl rfl) ?_
    clear hK K'
    refine wpAnyL_done (by kernel_rfl) ?_ _
    go_wp2
    go_roundw
    case rel =>
      obtain ⟨hown4, hB4, k5⟩ := HO.out
      have hBa : Below V.heap.size wr wx.drew := HZ.out.1.drew.mono (by omega)
      have hBb : Below V.heap.size wr z := hBa.trans (HR.out.2.2.1.mono (by show V.heap.size ≤ wx.heap.size; omega))
      have hBc : Below V.heap.size wr (z.alloc (.cells #[.int .u8 (x.key.kind.toNat : Int), .int .u32 (x.key.id.toNat : Int), .int .u32 (x.key.off.toNat : Int), .int .i64 x.ref, .slice au xn cu] 85)) := hBb.alloc (by omega) _
      have hBd : Below V.heap.size wr z4 := hBc.trans (hB4.mono (by omega))
      have hBn : Below V.heap.size wr (z4.setCell ⟨V.heap.size, 1, none⟩ (.slice a4 (its.length + 1) c4)) := hBd.setCell (p := ⟨V.heap.size, 1, none⟩) (Nat.le_refl _) _
      have hls : (its ++ [x]).length = its.length + 1 := by simp
      refine ⟨j + 1, its ++ [x], a4, c4, by omega, by go_num, ?_, ?_, ?_, HP.out.2.2.2.1.trans hBn⟩
      · rw [HP.out.2.2.2.2.1, ← HP.out.2.2.2.2.2.1]
      · rw [hls]
        exact set_block k5 1 _
      · rw [hls]
        exact hown4.setS rItemT_ck ⟨V.heap.size, 1, none⟩ _ (boxS_yes (Nat.le_refl _) (by show V.heap.size < V.heap.size + 1; omega))
    case measure => simp [intOf]; omega
  obtain rfl : j = L.length := by omega
  have hits2 : its = L := by rw [hits, List.take_length]
  clear hits
  have qres := (hBr.block (w.heap.size + 1) (by omega)).trans (LK.blk HQ.out.1)
  have hBw := Below.trans HQ.out.2.2.2.2 (hBr.mono (by omega))
  have hsl := hown.sl rItemT_ck (lo' := w1.heap.size) (Nat.le_refl _) (Nat.le_refl _)
  have hthw := fun g o hg => And.intro (hown.thaw g o hg) (hown.lt g hg).1
  obtain ⟨N, hN⟩ : ∃ N, its.length = N := ⟨_, rfl⟩
  rw [hN] at hsl hthw qbox
  rw [hits2] at hsl
  have c_qr0 := blk_cell qres 0
  have c_qr1 := blk_cell qres 1
  have c_n0 := blk_cell qbox 0
  have c_n1 := blk_cell qbox 1
  simp at c_qr0 c_qr1 c_n0 c_n1
  have z_qr0 := blk_frozen qres 0
  have z_qr1 := blk_frozen qres 1
  have HF := Lib.hid (And.intro hsl (And.intro hthw hBw))
  clear hsl hthw hBw hown hBr qres qbox hN hits2
  go_wp2
  refine bodyPost_ret (v := .agg #[.int .i64 lv, .slice ar N cr]) (by simp [results, Try.results33, go_sem, c_qr0, c_qr1]) rfl ⟨_, rfl, ?_⟩
  have hk2 : ∀ lo hi, w.heap.size + 2 ≤ lo → Kp lo hi wr ((wr.setCell ⟨w.heap.size + 1, 0, none⟩ (.int .i64 lv)).setCell ⟨w.heap.size + 1, 1, none⟩ (.slice ar N cr)) := fun lo hi h b o h1 _ => ⟨heap_cell ((set_other _ _ _ _ b (by omega)).trans (set_other wr _ _ _ b (by omega))) o, heap_frozen ((set_other _ _ _ _ b (by omega)).trans (set_other wr _ _ _ b (by omega))) o⟩
  obtain ⟨hsl, hthw, hBw⟩ := HF.out
  refine ⟨(hsl.keep (hk2 _ _ (by omega))).more (by omega) (by rw [World.size_setCell, World.size_setCell]; omega), fun g o hg => ?_, (Below.setCell hBw (p := ⟨w.heap.size + 1, 0, none⟩) (Nat.le_succ _) _).setCell (p := ⟨w.heap.size + 1, 1, none⟩) (Nat.le_succ _) _⟩
  rw [World.frozen?_setCell, World.frozen?_setCell]
  exact (hthw g o hg).1
end Go.Proofs.Ythealkfpflkipaa

