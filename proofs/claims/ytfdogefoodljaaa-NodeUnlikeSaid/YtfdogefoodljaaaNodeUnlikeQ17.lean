/- NodeUnlike: the words and contracts, part 17. -/
import Derived.Test.YtfdogefoodljaaaNodeUnlikeQ1
import Derived.Test.YtfdogefoodljaaaNodeUnlikeQ2
import Derived.Test.YtfdogefoodljaaaNodeUnlikeQ3
import Derived.Test.YtfdogefoodljaaaNodeUnlikeQ4
import Derived.Test.YtfdogefoodljaaaNodeUnlikeQ5
import Derived.Test.YtfdogefoodljaaaNodeUnlikeQ6
import Derived.Test.YtfdogefoodljaaaNodeUnlikeQ7
import Derived.Test.YtfdogefoodljaaaNodeUnlikeQ8
import Derived.Test.YtfdogefoodljaaaNodeUnlikeQ9
import Derived.Test.YtfdogefoodljaaaNodeUnlikeQ10
import Derived.Test.YtfdogefoodljaaaNodeUnlikeQ11
import Derived.Test.YtfdogefoodljaaaNodeUnlikeQ12
import Derived.Test.YtfdogefoodljaaaNodeUnlikeQ13
import Derived.Test.YtfdogefoodljaaaNodeUnlikeQ14
import Derived.Test.YtfdogefoodljaaaNodeUnlikeQ15
import Derived.Test.YtfdogefoodljaaaNodeUnlikeQ16
import Derived.WalkKit
import Derived.WalkLawsBesides
import Derived.WalkSpells
import Derived.Lib.Hide
import Derived.Laws.Rows
import Derived.Laws.AppendOwnNone
import Derived.Maps.AppendAt
import Derived.ProofKit
import Derived.Deep.Slices
import Derived.WideShapes
import Derived.RangeFuncNested
import Derived.RangeFuncBound
import Derived.RangeFuncCalls
import Derived.RangeFuncLeaves
import Derived.RangeFuncBox
import Derived.Shelf.Abstract
import Derived.Shelf.RegionOpen
import Derived.OwnWalkIn
import Derived.TacticsInMore
import Derived.LoopNIn
import Derived.LoopIn
import Derived.Lib.AppendZerosOnto
import Derived.Lib.SliceRun
import Derived.Lib.Walk
import Derived.Deep.LoopGhost
import Derived.Laws.CopyOwn
import Derived.Laws.CopyRow
import Derived.OrdersHeld
import Derived.Deep.QuietTactic
import Derived.BigQuiet
import Derived.StillTailTactics
import Derived.OpenShut
import Derived.Deep.DeepCutAuto
import Derived.Deep.RegionHeld
import Derived.Laws.MakeOwn
import Derived.KernelRfl
namespace Go.Proofs.Ytfdogefoodljaaa
open Go.RowKit

/-- The item of one of leaf's keys. -/
def leafI (x : UInt32) : ItemL := ⟨⟨2, 0, x⟩, 0, []⟩

set_option maxRecDepth 100000 in
set_option maxHeartbeats 2000000 in
/-- leaf: a node of some keys' Offs. -/
theorem leaf_any (b o n : Nat) (l : List UInt32) (w : World) (hn : l.length = n) (h5 : n ≤ 5) (hb : b < w.heap.size) (hc : ∀ i x, l[i]? = some x → w.cell? ⟨b, o + i, none⟩ = some (wV x)) :
    Calls Try.prog 35 #[.slice (some ⟨b, o, none⟩) n n] w fun e w' => ∃ u, e = .returned (.agg #[.int .i64 0, u]) ∧ MadeN w w' u (l.map leafI) := by
  have hst := (Below.refl w.heap.size w).alloc (Nat.le_refl _) (.cells #[.int .i64 0, .slice none 0 0] 62)
  have qr := LK.new w (.cells #[.int .i64 0, .slice none 0 0] 62)
  have hB : LW w _ := hst
  have sz_V : w.heap.size < (w.alloc (.cells #[.int .i64 0, .slice none 0 0] 62)).heap.size := by simp
  obtain ⟨V, hV⟩ : ∃ V, w.alloc (.cells #[.int .i64 0, .slice none 0 0] 62) = V := ⟨_, rfl⟩
  rw [hV] at hB qr sz_V
  clear hst
  have HQ := Lib.hid (And.intro qr hB)
  clear qr hB
  have HCE := Lib.hid hc
  clear hc
  go_enter Try.func35, Try.ntmps35
  go_upto_region 1 with (fail)
  clear hV
  go_upto_region 2 with (fail)
  obtain ⟨qr, hB⟩ := HQ.out
  clear HQ
  have hst := (Below.refl V.heap.size V).alloc (Nat.le_refl _) (.cells #[.int .i64 0, .slice none 0 0] 62)
  have hlt : V.heap.size < (V.alloc (.cells #[.int .i64 0, .slice none 0 0] 62)).heap.size := by simp
  have qn := LK.new V (.cells #[.int .i64 0, .slice none 0 0] 62)
  replace qr := qr.step hst
  replace hB := hB.step hst
  obtain ⟨w1, hw⟩ : ∃ v, V.alloc (.cells #[.int .i64 0, .slice none 0 0] 62) = v := ⟨_, rfl⟩
  rw [hw] at hlt qn qr hB ⊢
  clear hw hst
  have sz_w1 := hlt
  clear hlt
  have HQ := Lib.hid (And.intro qr (And.intro qn hB))
  clear qr qn hB
  go_wp2_with fail
  go_loopw [4] (fun i wr => ∃ (j : Nat) (its : List ItemL) (ar : Option Addr) (cr : Nat), j ≤ n ∧ i = .int .i64 j ∧ its = (l.take j).map leafI ∧ wr.heap[V.heap.size]? = some (.cells #[.int .i64 0, .slice ar its.length cr] 62 (0, 0)) ∧ OwnR rItemT w1.heap.size 73 w1.heap.size (boxS V.heap.size 1) wr (.slice ar its.length cr) its ∧ Below V.heap.size w1 wr) (fun i _ => n - (intOf i).toNat)
  case atStart => exact ⟨0, [], none, 0, Nat.zero_le _, rfl, rfl, (LK.blk HQ.out.2.1), OwnR.nil_ _ _ _ _ _ _, Below.refl _ _⟩
  case round =>
  obtain ⟨j, its, ar, cr, hj, rfl, hits, qbox, hown, hBr⟩ := hrel
  have hlj : its.length = j := by rw [hits, List.length_map, List.length_take]; omega
  have HLJ := Lib.hid hlj
  clear hlj
  have szr := hBr.size
  by_cases hlt : j < n
  · obtain ⟨x, hx⟩ : ∃ x, l[j]? = some x := ⟨l[j], List.getElem?_eq_getElem (by omega)⟩
    have hcl := ((Below.trans HQ.out.2.2 (hBr.mono (by omega))).cell (p := ⟨b, o + j, none⟩) hb).trans (HCE.out j x hx)
    simp only [wV] at hcl
    have ga : (b == V.heap.size) = false := by simp; omega
    obtain ⟨Pr, hPr⟩ : ∃ Pr : World → Prop, ∀ X, Pr X ↔ (X.heap[V.heap.size]? = wr.heap[V.heap.size]? ∧ X.cell? ⟨b, o + j, none⟩ = wr.cell? ⟨b, o + j, none⟩) := ⟨_, fun _ => Iff.rfl⟩
    have hp0 : Pr wr.drew := (hPr _).2 ⟨rfl, rfl⟩
    have y1 := fun X => blk_cell (((hPr _).1 (selW_pr hp0 X)).1.trans qbox) 1
    have y2 := fun X => (((hPr _).1 (selW_pr hp0 X)).2).trans hcl
    simp at y1 y2
    have hS0 : ∀ q, wr.heap.size ≤ q → (boxS V.heap.size 1) q = false := fun q hq => boxS_no (by omega)
    obtain ⟨hra, hrb⟩ := row_item1 (x := leafI x) hown hS0 (Below.refl _ wr) wr.drew (Below.refl _ wr).drew (Bytes.nil_ _ _ _) (fun _ _ _ _ e => (by cases e)) szr rfl 73
    simp only [bV, wV, leafI] at hra hrb
    have hra2 : OwnR rItemT w1.heap.size 73 w1.heap.size (boxS V.heap.size 1) (wr.drew.alloc (.cells #[.int .u8 2, .int .u32 0, .int .u32 (x.toNat : Int), .int .i64 0, .slice none 0 0] 73)) (.slice ar its.length cr) its := hra
    have hrl := hown.lt
    have HZ := Lib.hid (And.intro hra2 (And.intro hrb (And.intro qbox (And.intro hrl (And.intro hits (And.intro HLJ.out (And.intro hBr (And.intro hx hcl))))))))
    clear hra hrb hra2 qbox hrl hits hBr hx hcl hown hS0
    go_wp2_with fail
    refine wp_region_L (S := Kl Pr wr.drew) 11 (by kernel_rfl) (Kl.of hp0) (fun hCl => ?_)
    refine wpAnyL_seg (fuel := 6) (by kernel_rfl) (fun _ d _ _ _ h => by cases d <;> exact h) hCl [0, 1, 2, 3, 4, 5] _ _ _ (by kernel_rfl) (by kernel_rfl) (by kernel_rfl) (by kernel_rfl) ?_
    simp only [opsOf_cons, opsOf_nil, consOp_some, List.getElem?_toArray, List.getElem?_cons_succ, List.getElem?_cons_zero]
    repeat (first | go_big_quiet_step (fail) | quiet_step (fail))
    refine wpQuiet_nil ?_
    refine wpAnyL_each (fuel := 5) [6] (by kernel_rfl) (by simp) (by kernel_rfl) ?_
    refine EachL.cons _ rfl (fun K' hK => ?_) EachL.nil
    go_simp
    have hst := hp0
    have hCl : Kl Pr wr.drew _ := Kl.of hst
    refine hK.out (.inr hCl) ?_
    clear hK K'
    refine wpAnyL_each (fuel := 4) [7] (by kernel_rfl) (by simp) (by kernel_rfl) ?_
    refine EachL.cons _ rfl (fun K' hK => ?_) EachL.nil
    go_simp
    have hst := hp0
    have hCl : Kl Pr wr.drew _ := Kl.of hst
    refine hK.out (.inr hCl) ?_
    clear hK K'
    refine wpAnyL_each (fuel := 3) [8] (by kernel_rfl) (by simp) (by kernel_rfl) ?_
    refine EachL.cons _ rfl (fun K' hK => ?_) EachL.nil
    go_simp
    have hst : Pr (wr.drew.alloc (.cells #[.int .u8 2, .int .u32 0, .int .u32 (x.toNat : Int), .int .i64 0, .slice none 0 0] 73)) := (hPr _).2 ⟨Below.heap_alloc wr.drew _ _ (by show V.heap.size < wr.heap.size; omega), heap_cell (Below.heap_alloc wr.drew _ _ (by show b < wr.heap.size; omega)) _⟩
    have HST := Lib.hid hst
    have hCl : Kl Pr wr.drew _ := Kl.of hst
    refine hK.out (.inr hCl) ?_
    clear hK K'
    refine wpAnyL_each (fuel := 2) [9] (by kernel_rfl) (by simp) (by kernel_rfl) ?_
    refine EachL.cons _ rfl (fun K' hK => ?_) EachL.nil
    refine if_yes (by kernel_rfl) ?_
    have hSS : ∀ q, (wr.drew.alloc (.cells #[.int .u8 2, .int .u32 0, .int .u32 (x.toNat : Int), .int .i64 0, .slice none 0 0] 73)).heap.size ≤ q → (boxS V.heap.size 1) q = false := fun q hq => boxS_no (by rw [World.size_alloc] at hq; have h9 : wr.heap.size + 1 ≤ q := hq; omega)
    refine wp_appR rItemT_ck (.tmp 12) (.tmp 19) 60 rfl 73 (.agg #[.int .u8 0, .int .u32 0, .int .u32 0, .int .i64 0, .slice none 0 0]) 48 Try.underlying60 (by kernel_rfl) rfl (by decide) w1.heap.size w1.heap.size (boxS V.heap.size 1) (.slice ar its.length cr) its [leafI x] rfl HZ.out.1 hSS ⟨wr.heap.size, 0, none⟩ 1 [.int .u8 2, .int .u32 0, .int .u32 (x.toNat : Int), .int .i64 0, .slice none 0 0] rfl rfl (news_one #[.int .u8 2, .int .u32 0, .int .u32 (x.toNat : Int), .int .i64 0, .slice none 0 0] 73) (by intro u hu; simp at hu; rcases hu with rfl | rfl | rfl | rfl | rfl <;> rfl) HZ.out.2.1 (by have := HZ.out.2.2.2.2.2.1; show its.length + 1 ≤ 1000000; omega) (by decide) (by show w1.heap.size ≤ (wr.alloc (.cells #[.int .u8 2, .int .u32 0, .int .u32 (x.toNat : Int), .int .i64 0, .slice none 0 0] 73)).heap.size; rw [World.size_alloc]; omega) ?_
    intro a4 c4 z4 hown4 hB4 hf4
    have hal1 : V.heap.size < (wr.drew.alloc (.cells #[.int .u8 2, .int .u32 0, .int .u32 (x.toNat : Int), .int .i64 0, .slice none 0 0] 73)).heap.size := by rw [World.size_alloc]; show V.heap.size < wr.heap.size + 1; omega
    have hal2 : b < (wr.drew.alloc (.cells #[.int .u8 2, .int .u32 0, .int .u32 (x.toNat : Int), .int .i64 0, .slice none 0 0] 73)).heap.size := by rw [World.size_alloc]; show b < wr.heap.size + 1; omega
    have hn4 := hf4 _ hal1 (fun e => by have := (HZ.out.2.2.2.1 _ e).1; omega)
    have hst : Pr z4 := (hPr _).2 ⟨hn4.trans ((hPr _).1 HST.out).1, (heap_cell (hf4 _ hal2 (fun e => by have := (HZ.out.2.2.2.1 _ e).1; omega)) _).trans ((hPr _).1 HST.out).2⟩
    rw [show (its ++ [leafI x]).length = its.length + 1 by simp] at hown4 ⊢
    have k5 := (((hPr _).1 hst).1).trans HZ.out.2.2.1
    have j1 := blk_cell k5 1
    have jf := blk_frozen k5 1
    simp at j1
    have HO := Lib.hid (And.intro hown4 (And.intro hB4 k5))
    clear hown4 hB4 k5 hf4 hal1 hal2 hn4
    have hCl : Kl Pr wr.drew _ := Kl.of hst
    refine hK.out (.inr hCl) ?_
    clear hK K'
    refine wpAnyL_seg (fuel := 1) (by kernel_rfl) (fun _ d _ _ _ h => by cases d <;> exact h) hCl [10] _ _ _ (by kernel_rfl) (by kernel_rfl) (by kernel_rfl) (by kernel_rfl) ?_
    simp only [opsOf_cons, opsOf_nil, consOp_some, List.getElem?_toArray, List.getElem?_cons_succ, List.getElem?_cons_zero]
    repeat (first | go_big_quiet_step (fail) | quiet_step (fail))
    refine wpQuiet_nil ?_
    refine wpAnyL_each (fuel := 0) [11] (by kernel_rfl) (by simp) (by kernel_rfl) ?_
    refine EachL.cons _ rfl (fun K' hK => ?_) EachL.nil
    go_simp
    refine hK.out (.inl rfl) ?_
    clear hK K'
    refine wpAnyL_done (by kernel_rfl) ?_ _
    go_wp2
    go_roundw
    case rel =>
      obtain ⟨hown4, hB4, k5⟩ := HO.out
      have hBc : Below V.heap.size wr (wr.drew.alloc (.cells #[.int .u8 2, .int .u32 0, .int .u32 (x.toNat : Int), .int .i64 0, .slice none 0 0] 73)) := (Below.refl _ wr).drew.alloc (by show V.heap.size ≤ wr.heap.size; omega) _
      have hBd : Below V.heap.size wr z4 := hBc.trans (hB4.mono (by omega))
      have hBn : Below V.heap.size wr (z4.setCell ⟨V.heap.size, 1, none⟩ (.slice a4 (its.length + 1) c4)) := hBd.setCell (p := ⟨V.heap.size, 1, none⟩) (Nat.le_refl _) _
      have hls : (its ++ [leafI x]).length = its.length + 1 := by simp
      refine ⟨j + 1, its ++ [leafI x], a4, c4, by omega, by go_num, ?_, ?_, ?_, HZ.out.2.2.2.2.2.2.1.trans hBn⟩
      · rw [List.take_add_one, HZ.out.2.2.2.2.2.2.2.1, List.map_append, ← HZ.out.2.2.2.2.1]; rfl
      · rw [hls]
        exact set_block k5 1 _
      · rw [hls]
        exact hown4.setS rItemT_ck ⟨V.heap.size, 1, none⟩ _ (boxS_yes (Nat.le_refl _) (by show V.heap.size < V.heap.size + 1; omega))
    case measure => simp [intOf]; omega
  obtain rfl : j = n := by omega
  have hits2 : its = l.map leafI := by rw [hits, List.take_of_length_le (by omega)]
  clear hits
  have qres := (hBr.block w.heap.size (by omega)).trans (LK.blk HQ.out.1)
  have hBw := Below.trans HQ.out.2.2 (hBr.mono (by omega))
  have hsl := hown.sl rItemT_ck (lo' := w1.heap.size) (Nat.le_refl _) (Nat.le_refl _)
  have hthw := fun g o hg => And.intro (hown.thaw g o hg) (hown.lt g hg).1
  obtain ⟨N, hN⟩ : ∃ N, its.length = N := ⟨_, rfl⟩
  rw [hN] at hsl hthw qbox
  rw [hits2] at hsl
  have c_qr0 := blk_cell qres 0
  have c_qr1 := blk_cell qres 1
  have c_n0 := blk_cell qbox 0
  have c_n1 := blk_cell qbox 1
  simp at c_qr0 c_qr1 c_n0 c_n1
  have z_qr0 := blk_frozen qres 0
  have z_qr1 := blk_frozen qres 1
  have HF := Lib.hid (And.intro hsl (And.intro hthw hBw))
  clear hsl hthw hBw hown hBr qres qbox hN hits2
  go_wp2
  refine bodyPost_ret (v := .agg #[.int .i64 0, .slice ar N cr]) (by simp [results, Try.results35, go_sem, c_qr0, c_qr1]) rfl ⟨_, rfl, ?_⟩
  have hk2 : ∀ lo hi, w.heap.size + 1 ≤ lo → Kp lo hi wr ((wr.setCell ⟨w.heap.size, 0, none⟩ (.int .i64 0)).setCell ⟨w.heap.size, 1, none⟩ (.slice ar N cr)) := fun lo hi h b o h1 _ => ⟨heap_cell ((set_other _ _ _ _ b (by omega)).trans (set_other wr _ _ _ b (by omega))) o, heap_frozen ((set_other _ _ _ _ b (by omega)).trans (set_other wr _ _ _ b (by omega))) o⟩
  obtain ⟨hsl, hthw, hBw⟩ := HF.out
  refine ⟨(hsl.keep (hk2 _ _ (by omega))).more (by omega) (by rw [World.size_setCell, World.size_setCell]; omega), fun g o hg => ?_, (Below.setCell hBw (p := ⟨w.heap.size, 0, none⟩) (Nat.le_refl _) _).setCell (p := ⟨w.heap.size, 1, none⟩) (Nat.le_refl _) _⟩
  rw [World.frozen?_setCell, World.frozen?_setCell]
  exact (hthw g o hg).1
end Go.Proofs.Ytfdogefoodljaaa

namespace Go.Proofs.Ytfdogefoodljaaa
open Go.RowKit

theorem leaf_new (w : World) (l : List UInt32) (n : Nat) (cs : Array Value) (T : TypeId) (h5 : n ≤ 5) (hn : l.length = n) (hcs : (l.map wV).toArray = cs) :
    Calls Try.prog 35 #[.slice (some ⟨w.heap.size, 0, none⟩) n n] (w.alloc (.cells cs T)) fun e w' => ∃ u, e = .returned (.agg #[.int .i64 0, u]) ∧ LS rItem w.heap.size w'.heap.size u (l.map leafI) w' ∧ Below w.heap.size w w' := by
  subst hcs
  refine (leaf_any w.heap.size 0 n l _ hn h5 (by simp) (fun i x hx => ?_)).mono ?_
  · rw [blk_cell (World.alloc_heap_new _ _), Nat.zero_add, List.getElem?_toArray, List.getElem?_map, hx]
    rfl
  · rintro e w' ⟨u, rfl, hm⟩
    exact ⟨u, rfl, LS.of ((sl_itemT hm.items).more (by simp) (Nat.le_refl _)) (Nat.le_refl _), below_step (Below.refl _ w) (Nat.le_refl _) ((Below.alloc (Below.refl _ w) (Nat.le_refl _) _).trans (hm.below.mono (by simp)))⟩

theorem alive6_words : (cntN [leafI 2, leafI 4, leafI 6] ⟨2, 0, 4⟩ = 1 ∧ isN [leafI 2, leafI 4, leafI 6] ⟨2, 0, 4⟩ = true) ∧ mayN ⟨0, [leafI 2, leafI 4]⟩ = true ∧ errNd (blockN ⟨0, [leafI 2, leafI 4]⟩) = 0 ∧ readNd (blockN ⟨0, [leafI 2, leafI 4]⟩) = ⟨0, [leafI 2, leafI 4]⟩ := by
  refine ⟨by decide +kernel, by decide +kernel, by decide +kernel, by decide +kernel⟩

set_option maxRecDepth 100000 in
set_option maxHeartbeats 2000000 in
theorem alive6  (w : World)  :
    Calls Try.prog 38 #[] w fun e w' => e = .returned (.bool true) ∧ Below w.heap.size w w' := by
  have hB : LW w w := Below.refl _ _
  have HQ := Lib.hid (hB)
  clear hB
  obtain ⟨L2, hL2⟩ : ∃ L, L = [leafI 2, leafI 4] := ⟨_, rfl⟩
  obtain ⟨L3, hL3⟩ : ∃ L, L = [leafI 2, leafI 4, leafI 6] := ⟨_, rfl⟩
  obtain ⟨B2, hB2⟩ : ∃ L, L = blockN ⟨0, [leafI 2, leafI 4]⟩ := ⟨_, rfl⟩
  obtain ⟨⟨n1, n2⟩, n3, n4, n5⟩ := alive6_words
  rw [← hL3] at n1 n2
  rw [← hL2] at hB2 n3 n4 n5
  rw [← hB2] at n4 n5
  have hk : keyV ⟨2, 0, 4⟩ = .agg #[.int .u8 2, .int .u32 0, .int .u32 4] := rfl
  have k_l3 := fun V => leaf_new V [2, 4, 6] 3 #[.int .u32 2, .int .u32 4, .int .u32 6] 42 (by decide) rfl rfl
  rw [show [2, 4, 6].map leafI = L3 from hL3.symm] at k_l3
  have k_l2 := fun V => leaf_new V [2, 4] 2 #[.int .u32 2, .int .u32 4] 42 (by decide) rfl rfl
  rw [show [2, 4].map leafI = L2 from hL2.symm] at k_l2
  have k_pl := fun V u hh => nplace_any 0 L3 u ⟨2, 0, 4⟩ V hh
  rw [n1, n2, hk, show ((1 : Nat) : Int) = 1 from rfl] at k_pl
  have k_wr := fun V u hh => nwrite_any ⟨0, L2⟩ u V hh
  rw [n3, ← hB2, show mayE true = 0 from rfl] at k_wr
  have k_rd := fun V u hh => nread_any u B2 V hh
  rw [n4, n5] at k_rd
  have hLl := congrArg List.length hL2
  have hx1 : L2[1]? = some (leafI 4) := by rw [hL2]; rfl
  have HLL := Lib.hid (And.intro hLl hx1)
  clear n1 n2 n3 n4 n5 hk hL2 hL3 hB2 hLl hx1
  have HC := Lib.hid (And.intro k_l3 (And.intro k_l2 (And.intro k_pl (And.intro k_wr k_rd))))
  clear k_l3 k_l2 k_pl k_wr k_rd
  go_enter Try.func38, Try.ntmps38
  go_wp2_with fail
  refine (HC.out.1 _).mono ?_
  rintro e w1 ⟨u_a, rfl, hls, hst⟩
  have hB := HQ.out
  clear HQ
  have S_a := hls
  clear hls
  have sz_w1 : w.heap.size ≤ w1.heap.size := hst.size
  replace hB := hB.step hst
  clear hst
  have HQ := Lib.hid (And.intro S_a hB)
  clear S_a hB
  go_wp2_with fail
  refine (HC.out.2.2.1 _ _ HQ.out.1.v).mono ?_
  rintro e w2 ⟨rfl, hst⟩
  obtain ⟨S_a, hB⟩ := HQ.out
  clear HQ
  clear S_a
  have sz_w2 : w1.heap.size ≤ w2.heap.size := hst.size
  replace hB := hB.step hst
  clear hst
  have HQ := Lib.hid (hB)
  clear hB
  go_wp2_with fail
  refine (HC.out.2.1 _).mono ?_
  rintro e w3 ⟨u_b, rfl, hls, hst⟩
  have hB := HQ.out
  clear HQ
  have S_b := hls
  clear hls
  have sz_w3 : w2.heap.size ≤ w3.heap.size := hst.size
  replace hB := hB.step hst
  clear hst
  have HQ := Lib.hid (And.intro S_b hB)
  clear S_b hB
  go_wp2_with fail
  refine (HC.out.2.2.2.1 _ _ HQ.out.1.v).mono ?_
  rintro e w4 ⟨v_b, rfl, hm⟩
  obtain ⟨S_b, hB⟩ := HQ.out
  clear HQ
  have B_b := LM.of hm
  have hst := hm.below
  clear hm
  clear S_b
  have sz_w4 : w3.heap.size ≤ w4.heap.size := hst.size
  replace hB := hB.step hst
  clear hst
  have HQ := Lib.hid (And.intro B_b hB)
  clear B_b hB
  go_wp2_with fail
  refine (HC.out.2.2.2.2 _ _ HQ.out.1.v).mono ?_
  rintro e w5 ⟨u_n, rfl, hm⟩
  obtain ⟨B_b, hB⟩ := HQ.out
  clear HQ
  have S_n := LS.of (sl_itemT hm.items) (Nat.le_refl _)
  have hst := hm.below
  obtain ⟨g_n, o_n, c_n, rfl, -, -, -, gm_n, -⟩ := (LS.v S_n).at_ (by show 0 < L2.length; rw [HLL.out.1]; decide)
  unfold maxLen at gm_n
  clear hm
  clear B_b
  have sz_w5 : w4.heap.size ≤ w5.heap.size := hst.size
  replace hB := hB.step hst
  clear hst
  have HQ := Lib.hid (And.intro S_n hB)
  clear S_n hB
  have hl2 : L2.length = 2 := HLL.out.1
  rw [hl2]
  go_upto_region 4 with (fail)
  obtain ⟨S_n, hB⟩ := HQ.out
  clear HQ
  have hst := (Below.refl w5.heap.size w5).alloc (Nat.le_refl _) (.cells #[.int .i64 0, .slice (some ⟨g_n, o_n, none⟩) 2 c_n] 62)
  have hlt : w5.heap.size < (w5.alloc (.cells #[.int .i64 0, .slice (some ⟨g_n, o_n, none⟩) 2 c_n] 62)).heap.size := by simp
  have q_n := LK.new w5 (.cells #[.int .i64 0, .slice (some ⟨g_n, o_n, none⟩) 2 c_n] 62)
  replace S_n := S_n.step hst
  replace hB := hB.step hst
  obtain ⟨w6, hw⟩ : ∃ v, w5.alloc (.cells #[.int .i64 0, .slice (some ⟨g_n, o_n, none⟩) 2 c_n] 62) = v := ⟨_, rfl⟩
  rw [hw] at hlt q_n S_n hB ⊢
  clear hw hst
  have sz_w6 := hlt
  clear hlt
  have HQ := Lib.hid (And.intro S_n (And.intro q_n hB))
  clear S_n q_n hB
  have c_q_n0 := LK.cell HQ.out.2.1 0
  have c_q_n1 := LK.cell HQ.out.2.1 1
  simp at c_q_n0 c_q_n1
  obtain ⟨bb, bo, cb, e1, -, -, -, zc, hcell⟩ := HQ.out.1.v.at_ (by show 0 < L2.length; rw [HLL.out.1]; decide)
  injection e1 with e1 _ e2
  injection e1 with e1
  injection e1 with e1 e3
  subst e1 e2 e3
  obtain ⟨-, -, f2, -⟩ := hcell 1 _ HLL.out.2
  clear hcell
  have hn5 : rItem.n = 5 := rfl
  rw [hn5] at f2
  simp only [wV, leafI] at f2
  have f2a : w6.cell? ⟨g_n, o_n + 5 + 2, none⟩ = some (.int .u32 4) := f2
  clear f2 hn5 zc
  go_wp2
  go_ret
  exact ⟨rfl, HQ.out.2.2⟩
end Go.Proofs.Ytfdogefoodljaaa

namespace Go.Proofs.Ytfdogefoodljaaa
open Go.RowKit

/-- What Great sums, of the first k items. -/
def smI (its : List ItemL) (k : Nat) : Nat := ((its.take k).map fun x => min x.val.length 100000).sum
theorem smI_succ (its : List ItemL) (k : Nat) (h : k < its.length) : smI its (k + 1) = smI its k + min (its.getD k nokI).val.length 100000 := by
  unfold smI
  rw [List.take_add_one, List.map_append, List.sum_append, List.getElem?_eq_getElem h, List.getD_eq_getElem?_getD, List.getElem?_eq_getElem h]
  simp
theorem smI_all (its : List ItemL) (h : smI its its.length ≤ 50000) : ∀ x ∈ its, x.val.length ≤ 50000 := by
  unfold smI at h
  rw [List.take_length] at h
  induction its with
  | nil => intro x hx; cases hx
  | cons a l ih =>
    rw [List.map_cons, List.sum_cons] at h
    intro x hx
    rcases List.mem_cons.1 hx with rfl | hx
    · omega
    · exact ih (by omega) x hx
/-- Items that Great does not call great. -/
def FewI (its : List ItemL) : Prop := its.length ≤ 1000 ∧ ∀ x ∈ its, x.val.length ≤ 50000

set_option maxRecDepth 100000 in
set_option maxHeartbeats 1000000 in
theorem great6_any (v : Value) (its : List ItemL) (w : World) (h : Sl rItem w 0 w.heap.size v its) :
    Calls Try.prog 40 #[v] w fun e w' => ∃ g, e = .returned (.bool g) ∧ Below w.heap.size w w' ∧ (g = false → FewI its) := by
  obtain ⟨a, c, rfl, g1, g2, -, -⟩ := id h
  unfold maxLen at g2
  have HQ := Lib.hid h
  clear h
  go_enter Try.func40, Try.ntmps40
  go_wp2_with fail
  go_loopw [3, 4] (fun v i wr => ∃ k m : Nat, k ≤ its.length ∧ k ≤ 2000 ∧ m ≤ k * 100000 ∧ m = smI its k ∧ i = .int .i64 k ∧ v = .int .i64 m ∧ wr = w) (fun _ i _ => its.length - (intOf i).toNat)
  case atStart => exact ⟨0, 0, Nat.zero_le _, Nat.zero_le _, Nat.zero_le _, rfl, rfl, rfl, rfl⟩
  case round =>
  obtain ⟨k, m, hk, hk2, hm, hms, rfl, rfl, rfl⟩ := hrel
  by_cases hlt : k < its.length ∧ k < 2000
  · obtain ⟨hl1, hl2⟩ := hlt
    obtain ⟨bb, bo, cb', e', -, z1, z2, z3, hbe⟩ := HQ.out.at_ (by omega)
    injection e' with ea _ ec
    subst ea ec
    obtain ⟨-, -, -, -, -, u, hv, hvb⟩ := hbe k (its.getD k nokI) (get_l _ _ _ hl1)
    obtain ⟨av, cv, rfl, -, hcv⟩ := hvb.form rfl
    unfold maxLen at hcv z3
    have hn5 : rItem.n = 5 := rfl
    rw [hn5] at hv
    have i1 : (k : Int) < its.length := by omega
    have i2 : (k : Int) < 2000 := by omega
    obtain ⟨cy, hcy⟩ : ∃ cy : Nat, cy = min (its.getD k nokI).val.length 100000 := ⟨_, rfl⟩
    have hcl : cy ≤ 100000 := by omega
    have hsc := smI_succ its k hl1
    rw [← hcy, ← hms] at hsc
    have HSC := Lib.hid hsc
    clear hsc hms
    have hmin : min ((its.getD k nokI).val.length : Int) 100000 = (cy : Int) := by omega
    clear hvb hbe hcy hn5 z1 z2
    generalize (its.getD k nokI).val.length = y at *
    go_wp2
    go_roundw
    case rel => exact ⟨k + 1, m + cy, by omega, by omega, by omega, HSC.out.symm, by go_num, by go_num, trivial⟩
    case measure => simp [intOf]; omega
  · have hcase : (decide ((k : Int) < its.length) = false ∧ ¬ k < its.length) ∨ ((k : Int) < its.length ∧ decide ((k : Int) < 2000) = false) := by
      by_cases h : k < its.length
      · exact .inr ⟨by omega, by simp; omega⟩
      · exact .inl ⟨by simp; omega, h⟩
    have HMS := Lib.hid (And.intro hms hlt)
    clear hms hlt
    by_cases hg : 1000 < its.length
    · have i9 : (1000 : Int) < its.length := by omega
      rcases hcase with ⟨d3, d3n⟩ | ⟨i3, d4⟩
      · go_wp2
        go_ret
        exact ⟨true, rfl, Below.refl _ _, fun h => by cases h⟩
      · go_wp2
        go_ret
        exact ⟨true, rfl, Below.refl _ _, fun h => by cases h⟩
    · have d9 : decide ((1000 : Int) < its.length) = false := by simp; omega
      have hkk : k = its.length := by have := HMS.out.2; omega
      rcases hcase with ⟨d3, d3n⟩ | ⟨i3, d4⟩
      · by_cases h5 : 50000 < m
        · have i5 : (50000 : Int) < m := by omega
          go_wp2
          go_ret
          exact ⟨true, rfl, Below.refl _ _, fun h => by cases h⟩
        · have d5 : decide ((50000 : Int) < m) = false := by simp; omega
          have hm5 : m ≤ 50000 := by omega
          have HM5 := Lib.hid hm5
          clear h5 hm5
          go_wp2
          go_ret
          exact ⟨false, rfl, Below.refl _ _, fun _ => ⟨by omega, smI_all its (by rw [← hkk, ← HMS.out.1]; exact HM5.out)⟩⟩
      · omega
end Go.Proofs.Ytfdogefoodljaaa

