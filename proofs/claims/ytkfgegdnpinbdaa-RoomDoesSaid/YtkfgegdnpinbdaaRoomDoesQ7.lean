/- RoomDoes: the words and contracts, part 7. -/
import Derived.Test.YtkfgegdnpinbdaaRoomDoesQ1
import Derived.Test.YtkfgegdnpinbdaaRoomDoesQ2
import Derived.Test.YtkfgegdnpinbdaaRoomDoesQ3
import Derived.Test.YtkfgegdnpinbdaaRoomDoesQ4
import Derived.Test.YtkfgegdnpinbdaaRoomDoesQ5
import Derived.Test.YtkfgegdnpinbdaaRoomDoesQ6
import Derived.WalkKit
import Derived.WalkLawsBesides
import Derived.WalkSpells
import Derived.Lib.Hide
import Derived.Laws.Rows
import Derived.Laws.AppendOwnNone
import Derived.Maps.AppendAt
import Derived.RangeFuncNested
import Derived.RangeFuncBound
import Derived.RangeFuncCalls
import Derived.RangeFuncLeaves
import Derived.RangeFuncBox
import Derived.Shelf.Abstract
import Derived.Shelf.RegionOpen
import Derived.OwnWalkIn
import Derived.TacticsInMore
import Derived.LoopNIn
import Derived.LoopIn
import Derived.ProofKit
import Derived.Deep.Slices
import Derived.WideShapes
import Derived.OrdersHeld
import Derived.Deep.QuietTactic
import Derived.BigQuiet
import Derived.StillTailTactics
import Derived.OpenShut
import Derived.Lib.SliceRun
import Derived.Lib.AppendZerosOnto
import Derived.Lib.Walk
import Derived.Deep.LoopGhost
import Derived.Laws.CopyOwn
import Derived.Deep.DeepCutAuto
import Derived.Laws.CopyRow
import Derived.Laws.MakeOwn
import Derived.Deep.RegionHeld
import Derived.KernelRfl
import Derived.BigFrameIn
namespace Go.Proofs.Ytkfgegdnpinbdaa
open Go.RowKit

set_option maxRecDepth 100000 in
set_option maxHeartbeats 2000000 in
/-- The reference's Twin, of a disk that is not great. -/
theorem rdtwin_new (b u : Value) (d : DiskL) (w : World) (h : DiskV w 0 w.heap.size b u d) (hn1 : d.blocks.length ≤ 100000) (hn2 : d.waits.length ≤ 100000) (hT : (datD d).flatten.length ≤ 100000000) :
    Calls Try.prog 34 #[.agg #[b, u]] w fun e w' => ∃ b' u', e = .returned (.agg #[b', u']) ∧ DiskV w' w.heap.size w'.heap.size b' u' d ∧ Below w.heap.size w w' := by
  obtain ⟨ab, cb, rfl, g1, g2, -, -⟩ := h.1
  obtain ⟨au, cu, rfl, g3, g4, -, -⟩ := h.2
  have hB : Below w.heap.size w (((w.alloc (.cells #[.slice ab d.blocks.length cb, .slice au d.waits.length cu] 25)).alloc (.cells #[.slice none 0 0, .slice none 0 0] 25)).alloc (.cells #[.slice none 0 0, .slice none 0 0] 25)) := (((Below.refl w.heap.size w).alloc (Nat.le_refl _) _).alloc (by simp) _).alloc (by simp; omega) _
  have hq := three_new w (.cells #[.slice ab d.blocks.length cb, .slice au d.waits.length cu] 25) (.cells #[.slice none 0 0, .slice none 0 0] 25) (.cells #[.slice none 0 0, .slice none 0 0] 25)
  have hsW : (((w.alloc (.cells #[.slice ab d.blocks.length cb, .slice au d.waits.length cu] 25)).alloc (.cells #[.slice none 0 0, .slice none 0 0] 25)).alloc (.cells #[.slice none 0 0, .slice none 0 0] 25)).heap.size = w.heap.size + 3 := by simp
  have hdl := Lib.hid (fun x hx => Nat.le_trans (dat_len d x hx) hT)
  have HD := Lib.hid h
  unfold maxLen at g2 g4
  clear h hT
  obtain ⟨W, hW⟩ : ∃ W, ((w.alloc (.cells #[.slice ab d.blocks.length cb, .slice au d.waits.length cu] 25)).alloc (.cells #[.slice none 0 0, .slice none 0 0] 25)).alloc (.cells #[.slice none 0 0, .slice none 0 0] 25) = W := ⟨_, rfl⟩
  rw [hW] at hB hq hsW
  have HWS := Lib.hid hsW
  have HQ := Lib.hid (And.intro hB hq)
  have HWE := Lib.hid hW
  clear hB hq hW hsW
  go_enter Try.func34, Try.ntmps34
  go_upto_region 2 with (fail)
  rw [HWE.out]
  clear HWE
  go_wp2_with fail
  go_loopw [4] (fun i wr => ∃ (k : Nat) (a5 : Option Addr) (c5 : Nat), k ≤ d.blocks.length ∧ i = .int .i64 k ∧ wr.heap[w.heap.size + 2]? = some (.cells #[.slice a5 (d.blocks.take k).length c5, .slice none 0 0] 25 (0, 0)) ∧
    OwnR rBytes W.heap.size 26 W.heap.size (boxS w.heap.size 3) wr (.slice a5 (d.blocks.take k).length c5) (d.blocks.take k) ∧ (∀ j, j < W.heap.size → j ≠ w.heap.size + 2 → wr.heap[j]? = W.heap[j]?) ∧ W.heap.size ≤ wr.heap.size ∧ Below w.heap.size w wr) (fun i _ => d.blocks.length - (intOf i).toNat)
  case atStart => exact ⟨0, none, 0, Nat.zero_le _, rfl, HQ.out.2.2.2, OwnR.nil_ _ _ _ _ _ _, fun _ _ _ => rfl, Nat.le_refl _, HQ.out.1⟩
  case round =>
  obtain ⟨k, a5, c5, hk, rfl, q5, hown, hsame, hsz, hBw⟩ := hrel
  have qd := (hsame w.heap.size (by have := HWS.out; omega) (by omega)).trans HQ.out.2.1
  obtain ⟨kl, hkl⟩ : ∃ kl, d.blocks.take k = kl := ⟨_, rfl⟩
  rw [hkl] at q5 hown
  have n0 := blk_cell qd 0
  have n1 := blk_cell qd 1
  have m0 := blk_cell q5 0
  have m1 := blk_cell q5 1
  simp at n0 n1 m0 m1
  by_cases hlt : k < d.blocks.length
  · obtain ⟨bb, bo, cb', e', -, z1, z2, z3, hbe⟩ := HD.out.1.at_ (by omega)
    injection e' with ea _ ec
    subst ea ec
    obtain ⟨x, e2, e3⟩ := hbe k (d.blocks.getD k []) (get_l _ _ _ hlt)
    obtain ⟨ya, yc, rfl, -, hyc⟩ := e3.form rfl
    have hdk := hdl.out (d.blocks.getD k []) (List.mem_append_left _ (List.mem_of_getElem? (get_l _ _ _ hlt)))
    have hkt := snoc_take d.blocks k [] hlt
    obtain ⟨dt, hdt⟩ : ∃ y, d.blocks.getD k [] = y := ⟨_, rfl⟩
    rw [hdt] at e2 e3 hdk hkt
    clear hdt hbe
    simp [rBytes] at e2
    have hkll : (d.blocks.take k).length ≤ 100000 := Nat.le_trans (List.length_take_le _ _) (by omega)
    rw [hkl] at hkt hkll
    unfold maxLen at z3 hyc
    have e2r : wr.cell? ⟨bb, bo + k, none⟩ = some (.slice ya dt.length yc) := (hBw.cell (p := ⟨bb, bo + k, none⟩) z1).trans e2
    have e3r : Bytes wr 0 w.heap.size (.slice ya dt.length yc) dt := e3.below hBw (Nat.le_refl _)
    have z1w : bb < W.heap.size := Nat.lt_of_lt_of_le z1 HQ.out.1.size
    obtain ⟨Pr, hPr⟩ : ∃ Pr : World → Prop, ∀ X, Pr X ↔ ∀ j, j < W.heap.size → X.heap[j]? = wr.heap[j]? := ⟨_, fun _ => Iff.rfl⟩
    have hp0 : Pr wr.drew := (hPr _).2 (fun _ _ => rfl)
    have hS0 : ∀ k, wr.heap.size ≤ k → boxS w.heap.size 3 k = false := fun k hk => boxS_no (by have := HWS.out; omega)
    have x1 := fun X => (blk_cell (((hPr _).1 (selW_pr hp0 X) (w.heap.size + 2) (by have := HWS.out; omega)).trans q5) 0)
    have x2 := fun X => (blk_cell (((hPr _).1 (selW_pr hp0 X) w.heap.size (by have := HWS.out; omega)).trans qd) 0)
    have x3 := fun X => (heap_cell ((hPr _).1 (selW_pr hp0 X) bb z1w) (bo + k)).trans e2r
    simp at x1 x2
    have HP := Lib.hid (And.intro q5 (And.intro hsame (And.intro hsz (And.intro hBw (And.intro hkt (And.intro hkl (And.intro hown (And.intro e3r hS0))))))))
    clear q5 hown hsame hsz hBw hkt hkl e2 e3 e2r e3r hS0 qd
    go_wp2_with fail
    refine wp_region_L (S := Kl Pr wr.drew) 11 (by kernel_rfl) (Kl.of hp0) (fun hCl => ?_)
    refine wpAnyL_seg (fuel := 5) (by kernel_rfl) (fun _ d _ _ _ h => by cases d <;> exact h) hCl [0, 1, 2, 3, 4, 5, 6] _ _ _ (by kernel_rfl) (by kernel_rfl) (by kernel_rfl) (by kernel_rfl) ?_
    simp only [opsOf_cons, opsOf_nil, consOp_some, List.getElem?_toArray, List.getElem?_cons_succ, List.getElem?_cons_zero]
    repeat (first | go_big_quiet_step (fail) | quiet_step (fail))
    refine wpQuiet_nil ?_
    refine wpAnyL_each (fuel := 4) [7] (by kernel_rfl) (by simp) (by kernel_rfl) ?_
    refine EachL.cons _ rfl (fun K' hK => ?_) EachL.nil
    refine if_yes (by kernel_rfl) ?_
    refine wp_appB (.const (.slice none 0 0)) (.tmp 19) 26 rfl 5 Try.underlying26 info_u8 wr.heap.size (.slice none 0 0) [] rfl (OwnB.nil_ _ _ _) 0 w.heap.size (.slice ya dt.length yc) dt rfl HP.out.2.2.2.2.2.2.2.1 (by show 0 + dt.length ≤ _; omega) (Nat.le_refl _) ?_
    intro v1 v1w hown1 hB1 _hf1
    have hst : Pr v1w := (hPr _).2 (fun j hj => hB1.block j (Nat.lt_of_lt_of_le hj HP.out.2.2.1))
    obtain ⟨a1, c1, hv1⟩ := own_form hown1
    rw [List.nil_append] at hv1 hown1
    subst hv1
    have HO1 := Lib.hid (And.intro hown1 hB1)
    have HST1 := Lib.hid hst
    clear hown1 hB1 _hf1
    have hCl : Kl Pr wr.drew _ := Kl.of hst
    refine hK.out (.inr hCl) ?_
    clear hK K'
    refine wpAnyL_each (fuel := 3) [8] (by kernel_rfl) (by simp) (by kernel_rfl) ?_
    refine EachL.cons _ rfl (fun K' hK => ?_) EachL.nil
    go_simp
    have hst : Pr (v1w.alloc (.cells #[.slice a1 dt.length c1] 26)) := (hPr _).2 (fun j hj => (Below.heap_alloc v1w _ j (Nat.lt_of_lt_of_le hj (Nat.le_trans HP.out.2.2.1 HO1.out.2.size))).trans ((hPr _).1 HST1.out j hj))
    have HST2 := Lib.hid hst
    have hCl : Kl Pr wr.drew _ := Kl.of hst
    refine hK.out (.inr hCl) ?_
    clear hK K'
    refine wpAnyL_each (fuel := 2) [9] (by kernel_rfl) (by simp) (by kernel_rfl) ?_
    refine EachL.cons _ rfl (fun K' hK => ?_) EachL.nil
    refine if_yes (by kernel_rfl) ?_
    obtain ⟨hra, hrb⟩ := row_bytes1 (T2 := 26) HP.out.2.2.2.2.2.2.1 HP.out.2.2.2.2.2.2.2.2 (w0 := wr.drew) rfl HO1.out.2 HO1.out.1.bytes (Nat.le_trans (Nat.le_refl _) HP.out.2.2.1) 
    refine wp_appR rBytes_ck (.tmp 14) (.tmp 21) 22 rfl 26 (.slice none 0 0) 24 Try.underlying22 (by kernel_rfl) rfl (by decide) W.heap.size W.heap.size (boxS w.heap.size 3) _ kl [dt] rfl hra (fun k hk => HP.out.2.2.2.2.2.2.2.2 k (Nat.le_trans HO1.out.2.size (Nat.le_trans (by rw [World.size_alloc]; exact Nat.le_succ _) hk))) ⟨v1w.heap.size, 0, none⟩ 1 [.slice a1 dt.length c1] rfl rfl (news_one #[.slice a1 dt.length c1] 26) (by intro u hu; simp at hu; rcases hu with rfl; rfl) hrb (by show kl.length + 1 ≤ 1000000; omega) (by decide) (Nat.le_trans HP.out.2.2.1 (Nat.le_trans HO1.out.2.size (by rw [World.size_alloc]; exact Nat.le_succ _))) ?_
    intro a4 c4 z2 hown4 hB4 _hf4
    have hst : Pr z2 := (hPr _).2 (fun j hj => (hB4.block j hj).trans ((hPr _).1 HST2.out j hj))
    rw [show (kl ++ [(dt)]).length = kl.length + 1 by simp] at hown4 ⊢
    have k5 := ((hPr _).1 hst (w.heap.size + 2) (by have := HWS.out; omega)).trans HP.out.1
    have j1 := blk_cell k5 0
    have jf := blk_frozen k5 0
    simp at j1
    have HO := Lib.hid (And.intro hown4 (And.intro hB4 (And.intro HO1.out.2 k5)))
    clear hown4 hB4 k5 hra hrb _hf4
    have hCl : Kl Pr wr.drew _ := Kl.of hst
    refine hK.out (.inr hCl) ?_
    clear hK K'
    refine wpAnyL_seg (fuel := 1) (by kernel_rfl) (fun _ d _ _ _ h => by cases d <;> exact h) hCl [10] _ _ _ (by kernel_rfl) (by kernel_rfl) (by kernel_rfl) (by kernel_rfl) ?_
    simp only [opsOf_cons, opsOf_nil, consOp_some, List.getElem?_toArray, List.getElem?_cons_succ, List.getElem?_cons_zero]
    repeat (first | go_big_quiet_step (fail) | quiet_step (fail))
    refine wpQuiet_nil ?_
    refine wpAnyL_each (fuel := 0) [11] (by kernel_rfl) (by simp) (by kernel_rfl) ?_
    refine EachL.cons _ rfl (fun K' hK => ?_) EachL.nil
    go_simp
    refine hK.out (.inl rfl) ?_
    clear hK K'
    refine wpAnyL_done (by kernel_rfl) ?_ _
    go_wp2
    go_roundw
    case rel =>
      obtain ⟨hown4, hB4, hb1, k5⟩ := HO.out
      obtain ⟨q5, hsame, hsz, hBw, hkt, hkl, hown, e3r, hS0⟩ := HP.out
      have hs := set_other z2 (w.heap.size + 2) 0 (.slice a4 (kl.length + 1) c4)
      have hst2 := (hPr _).1 hst
      have hl : (kl ++ [dt]).length = kl.length + 1 := by simp
      refine ⟨k + 1, a4, c4, by omega, by go_num, ?_, ?_, fun j h1 h2 => (hs j h2).trans ((hst2 j h1).trans (hsame j h1 h2)), ?_, ?_⟩
      · rw [hkt, hl]
        exact set_block k5 0 _
      · rw [hkt, hl]
        exact hown4.setS rBytes_ck ⟨w.heap.size + 2, 0, none⟩ _ (boxS_yes (by show w.heap.size ≤ w.heap.size + 2; omega) (by show w.heap.size + 2 < w.heap.size + 3; omega))
      · rw [World.size_setCell]
        exact Nat.le_trans hsz (Nat.le_trans hb1.size (Nat.le_trans (by rw [World.size_alloc]; exact Nat.le_succ _) hB4.size))
      · exact (((hBw.drew.trans (hb1.mono hBw.size)).alloc (Nat.le_trans hBw.size hb1.size) _).trans (hB4.mono HQ.out.1.size)).setCell (p := ⟨w.heap.size + 2, 0, none⟩) (by show w.heap.size ≤ w.heap.size + 2; omega) _
    case measure => simp [intOf]; omega
  obtain rfl : k = d.blocks.length := by omega
  rw [List.take_length] at hkl
  subst hkl
  have hbl := hown.sl rBytes_ck (lo' := W.heap.size) (Nat.le_refl _) (Nat.le_refl _)
  obtain ⟨wm, hwm⟩ : ∃ wm, wm = wr := ⟨_, rfl⟩
  subst hwm
  have q1 := (hsame (w.heap.size + 1) (by have := HWS.out; omega) (by omega)).trans HQ.out.2.2.1
  have HM := Lib.hid (And.intro q5 (And.intro qd (And.intro q1 (And.intro hbl (And.intro hsz hBw)))))
  clear q5 qd q1 hbl hsz hBw hown hsame hk hlt n1
  go_wp2_with fail
  go_loopw [5] (fun i wr => ∃ (k : Nat) (a6 : Option Addr) (c6 : Nat), k ≤ d.waits.length ∧ i = .int .i64 k ∧ wr.heap[w.heap.size + 2]? = some (.cells #[.slice a5 d.blocks.length c5, .slice a6 (d.waits.take k).length c6] 25 (0, 0)) ∧
    OwnR rWrite wm.heap.size 92 wm.heap.size (boxS w.heap.size 3) wr (.slice a6 (d.waits.take k).length c6) (d.waits.take k) ∧ (∀ j, j < wm.heap.size → j ≠ w.heap.size + 2 → wr.heap[j]? = wm.heap[j]?) ∧ wm.heap.size ≤ wr.heap.size ∧ Below w.heap.size w wr) (fun i _ => d.waits.length - (intOf i).toNat)
  case atStart => exact ⟨0, none, 0, Nat.zero_le _, rfl, HM.out.1, OwnR.nil_ _ _ _ _ _ _, fun _ _ _ => rfl, Nat.le_refl _, HM.out.2.2.2.2.2⟩
  case round =>
  obtain ⟨k, a6, c6, hk, rfl, q5, hown, hsame, hsz, hBw⟩ := hrel
  clear m0 m1 n0
  have hwmS : w.heap.size + 3 ≤ wm.heap.size := by have := HWS.out; have := HM.out.2.2.2.2.1; omega
  have qd := (hsame w.heap.size (by omega) (by omega)).trans HM.out.2.1
  obtain ⟨kl, hkl⟩ : ∃ kl, d.waits.take k = kl := ⟨_, rfl⟩
  rw [hkl] at q5 hown
  have n0 := blk_cell qd 0
  have n1 := blk_cell qd 1
  have m0 := blk_cell q5 0
  have m1 := blk_cell q5 1
  simp at n0 n1 m0 m1
  by_cases hlt : k < d.waits.length
  · obtain ⟨bb, bo, cb', e', -, z1, z2, z3, hbe⟩ := HD.out.2.at_ (by omega)
    injection e' with ea _ ec
    subst ea ec
    obtain ⟨e0, e1, x, e2, e3⟩ := hbe k (d.waits.getD k ⟨0, []⟩) (get_l _ _ _ hlt)
    obtain ⟨ya, yc, rfl, -, hyc⟩ := e3.form rfl
    have hdk := hdl.out (d.waits.getD k ⟨0, []⟩).data (List.mem_append_right _ (List.mem_map_of_mem (List.mem_of_getElem? (get_l _ _ _ hlt))))
    have hkt := snoc_take d.waits k ⟨0, []⟩ hlt
    obtain ⟨y, hy⟩ : ∃ y, d.waits.getD k ⟨0, []⟩ = y := ⟨_, rfl⟩
    rw [hy] at e0 e1 e2 e3 hdk hkt
    clear hy hbe
    obtain ⟨at0, dt⟩ := y
    simp [rWrite] at e0 e2
    simp only at e1 e3 hdk
    have hkll : (d.waits.take k).length ≤ 100000 := Nat.le_trans (List.length_take_le _ _) (by omega)
    rw [hkl] at hkt hkll
    unfold maxLen at z3 hyc
    have e0r : wr.cell? ⟨bb, bo + k * 2, none⟩ = some (.int .i64 at0) := (hBw.cell (p := ⟨bb, bo + k * 2, none⟩) z1).trans e0
    have e2r : wr.cell? ⟨bb, bo + k * 2 + 1, none⟩ = some (.slice ya dt.length yc) := (hBw.cell (p := ⟨bb, bo + k * 2 + 1, none⟩) z1).trans e2
    have e3r : Bytes wr 0 w.heap.size (.slice ya dt.length yc) dt := e3.below hBw (Nat.le_refl _)
    have z1w : bb < wm.heap.size := by omega
    obtain ⟨Pr, hPr⟩ : ∃ Pr : World → Prop, ∀ X, Pr X ↔ ∀ j, j < wm.heap.size → X.heap[j]? = wr.heap[j]? := ⟨_, fun _ => Iff.rfl⟩
    have hp0 : Pr wr.drew := (hPr _).2 (fun _ _ => rfl)
    have hS0 : ∀ k, wr.heap.size ≤ k → boxS w.heap.size 3 k = false := fun k hk => boxS_no (by omega)
    have x1 := fun X => (blk_cell (((hPr _).1 (selW_pr hp0 X) (w.heap.size + 2) (by omega)).trans q5) 1)
    have x2 := fun X => (blk_cell (((hPr _).1 (selW_pr hp0 X) w.heap.size (by omega)).trans qd) 1)
    have x3 := fun X => (heap_cell ((hPr _).1 (selW_pr hp0 X) bb z1w) (bo + k * 2)).trans e0r
    have x4 := fun X => (heap_cell ((hPr _).1 (selW_pr hp0 X) bb z1w) (bo + k * 2 + 1)).trans e2r
    simp at x1 x2
    have HP := Lib.hid (And.intro q5 (And.intro hsame (And.intro hsz (And.intro hBw (And.intro hkt (And.intro hkl (And.intro hown (And.intro e3r (And.intro e1 hS0)))))))))
    clear q5 hown hsame hsz hBw hkt hkl e0 e1 e2 e3 e0r e2r e3r hS0 qd
    go_wp2_with fail
    refine wp_region_L (S := Kl Pr wr.drew) 19 (by kernel_rfl) (Kl.of hp0) (fun hCl => ?_)
    refine wpAnyL_seg (fuel := 6) (by kernel_rfl) (fun _ d _ _ _ h => by cases d <;> exact h) hCl [0, 1, 2, 3, 4, 5, 6, 7, 8, 9, 10, 11, 12, 13] _ _ _ (by kernel_rfl) (by kernel_rfl) (by kernel_rfl) (by kernel_rfl) ?_
    simp only [opsOf_cons, opsOf_nil, consOp_some, List.getElem?_toArray, List.getElem?_cons_succ, List.getElem?_cons_zero]
    repeat (first | go_big_quiet_step (fail) | quiet_step (fail))
    refine wpQuiet_nil ?_
    refine wpAnyL_each (fuel := 5) [14] (by kernel_rfl) (by simp) (by kernel_rfl) ?_
    refine EachL.cons _ rfl (fun K' hK => ?_) EachL.nil
    refine if_yes (by kernel_rfl) ?_
    refine wp_appB (.const (.slice none 0 0)) (.tmp 44) 26 rfl 5 Try.underlying26 info_u8 wr.heap.size (.slice none 0 0) [] rfl (OwnB.nil_ _ _ _) 0 w.heap.size (.slice ya dt.length yc) dt rfl HP.out.2.2.2.2.2.2.2.1 (by show 0 + dt.length ≤ _; omega) (Nat.le_refl _) ?_
    intro v1 v1w hown1 hB1 _hf1
    have hst : Pr v1w := (hPr _).2 (fun j hj => hB1.block j (Nat.lt_of_lt_of_le hj HP.out.2.2.1))
    obtain ⟨a1, c1, hv1⟩ := own_form hown1
    rw [List.nil_append] at hv1 hown1
    subst hv1
    have HO1 := Lib.hid (And.intro hown1 hB1)
    have HST1 := Lib.hid hst
    clear hown1 hB1 _hf1
    have hCl : Kl Pr wr.drew _ := Kl.of hst
    refine hK.out (.inr hCl) ?_
    clear hK K'
    refine wpAnyL_each (fuel := 4) [15] (by kernel_rfl) (by simp) (by kernel_rfl) ?_
    refine EachL.cons _ rfl (fun K' hK => ?_) EachL.nil
    go_simp
    have hst := HST1.out
    have hCl : Kl Pr wr.drew _ := Kl.of hst
    refine hK.out (.inr hCl) ?_
    clear hK K'
    refine wpAnyL_each (fuel := 3) [16] (by kernel_rfl) (by simp) (by kernel_rfl) ?_
    refine EachL.cons _ rfl (fun K' hK => ?_) EachL.nil
    go_simp
    have hst : Pr (v1w.alloc (.cells #[.int .i64 at0, .slice a1 dt.length c1] 92)) := (hPr _).2 (fun j hj => (Below.heap_alloc v1w _ j (Nat.lt_of_lt_of_le hj (Nat.le_trans HP.out.2.2.1 HO1.out.2.size))).trans ((hPr _).1 HST1.out j hj))
    have HST2 := Lib.hid hst
    have hCl : Kl Pr wr.drew _ := Kl.of hst
    refine hK.out (.inr hCl) ?_
    clear hK K'
    refine wpAnyL_each (fuel := 2) [17] (by kernel_rfl) (by simp) (by kernel_rfl) ?_
    refine EachL.cons _ rfl (fun K' hK => ?_) EachL.nil
    refine if_yes (by kernel_rfl) ?_
    obtain ⟨hra, hrb⟩ := row_write1 (T2 := 92) HP.out.2.2.2.2.2.2.1 HP.out.2.2.2.2.2.2.2.2.2 (w0 := wr.drew) rfl HO1.out.2 HO1.out.1.bytes (Nat.le_trans (Nat.le_refl _) HP.out.2.2.1) HP.out.2.2.2.2.2.2.2.2.1
    refine wp_appR rWrite_ck (.tmp 32) (.tmp 47) 23 rfl 92 (.agg #[.int .i64 0, .slice none 0 0]) 32 Try.underlying23 (by kernel_rfl) rfl (by decide) wm.heap.size wm.heap.size (boxS w.heap.size 3) _ kl [(⟨at0, dt⟩ : WrL)] rfl hra (fun k hk => HP.out.2.2.2.2.2.2.2.2.2 k (Nat.le_trans HO1.out.2.size (Nat.le_trans (by rw [World.size_alloc]; exact Nat.le_succ _) hk))) ⟨v1w.heap.size, 0, none⟩ 1 [.int .i64 at0, .slice a1 dt.length c1] rfl rfl (news_one #[.int .i64 at0, .slice a1 dt.length c1] 92) (by intro u hu; simp at hu; rcases hu with rfl | rfl <;> rfl) hrb (by show kl.length + 1 ≤ 1000000; omega) (by decide) (Nat.le_trans HP.out.2.2.1 (Nat.le_trans HO1.out.2.size (by rw [World.size_alloc]; exact Nat.le_succ _))) ?_
    intro a4 c4 z2 hown4 hB4 _hf4
    have hst : Pr z2 := (hPr _).2 (fun j hj => (hB4.block j hj).trans ((hPr _).1 HST2.out j hj))
    rw [show (kl ++ [((⟨at0, dt⟩ : WrL))]).length = kl.length + 1 by simp] at hown4 ⊢
    have k5 := ((hPr _).1 hst (w.heap.size + 2) (by have := HWS.out; omega)).trans HP.out.1
    have j1 := blk_cell k5 1
    have jf := blk_frozen k5 1
    simp at j1
    have HO := Lib.hid (And.intro hown4 (And.intro hB4 (And.intro HO1.out.2 k5)))
    clear hown4 hB4 k5 hra hrb _hf4
    have hCl : Kl Pr wr.drew _ := Kl.of hst
    refine hK.out (.inr hCl) ?_
    clear hK K'
    refine wpAnyL_seg (fuel := 1) (by kernel_rfl) (fun _ d _ _ _ h => by cases d <;> exact h) hCl [18] _ _ _ (by kernel_rfl) (by kernel_rfl) (by kernel_rfl) (by kernel_rfl) ?_
    simp only [opsOf_cons, opsOf_nil, consOp_some, List.getElem?_toArray, List.getElem?_cons_succ, List.getElem?_cons_zero]
    repeat (first | go_big_quiet_step (fail) | quiet_step (fail))
    refine wpQuiet_nil ?_
    refine wpAnyL_each (fuel := 0) [19] (by kernel_rfl) (by simp) (by kernel_rfl) ?_
    refine EachL.cons _ rfl (fun K' hK => ?_) EachL.nil
    go_simp
    refine hK.out (.inl rfl) ?_
    clear hK K'
    refine wpAnyL_done (by kernel_rfl) ?_ _
    go_wp2
    go_roundw
    case rel =>
      obtain ⟨hown4, hB4, hb1, k5⟩ := HO.out
      obtain ⟨q5, hsame, hsz, hBw, hkt, hkl, hown, e3r, e1, hS0⟩ := HP.out
      have hs := set_other z2 (w.heap.size + 2) 1 (.slice a4 (kl.length + 1) c4)
      have hst2 := (hPr _).1 hst
      have hl : (kl ++ [(⟨at0, dt⟩ : WrL)]).length = kl.length + 1 := by simp
      refine ⟨k + 1, a4, c4, by omega, by go_num, ?_, ?_, fun j h1 h2 => (hs j h2).trans ((hst2 j h1).trans (hsame j h1 h2)), ?_, ?_⟩
      · rw [hkt, hl]
        exact set_block k5 1 _
      · rw [hkt, hl]
        exact hown4.setS rWrite_ck ⟨w.heap.size + 2, 1, none⟩ _ (boxS_yes (by show w.heap.size ≤ w.heap.size + 2; omega) (by show w.heap.size + 2 < w.heap.size + 3; omega))
      · rw [World.size_setCell]
        exact Nat.le_trans hsz (Nat.le_trans hb1.size (Nat.le_trans (by rw [World.size_alloc]; exact Nat.le_succ _) hB4.size))
      · exact (((hBw.drew.trans (hb1.mono hBw.size)).alloc (Nat.le_trans hBw.size hb1.size) _).trans (hB4.mono (by omega))).setCell (p := ⟨w.heap.size + 2, 1, none⟩) (by show w.heap.size ≤ w.heap.size + 2; omega) _
    case measure => simp [intOf]; omega
  obtain rfl : k = d.waits.length := by omega
  rw [List.take_length] at hkl
  subst hkl
  have hwl := hown.sl rWrite_ck (lo' := wm.heap.size) (Nat.le_refl _) (Nat.le_refl _)
  have q1 := (hsame (w.heap.size + 1) (by omega) (by omega)).trans HM.out.2.2.1
  have hbl : Sl rBytes wr W.heap.size wm.heap.size (.slice a5 d.blocks.length c5) d.blocks := HM.out.2.2.2.1.keep fun b o h1 h2 => ⟨heap_cell (hsame b h2 (by have := HWS.out; omega)) o, heap_frozen (hsame b h2 (by have := HWS.out; omega)) o⟩
  have r0 := blk_cell q1 0
  have r1 := blk_cell q1 1
  have f0 := blk_frozen q1 0
  have f1 := blk_frozen q1 1
  simp at r0 r1
  have hWs := HWS.out
  have HZ := Lib.hid (And.intro hbl (And.intro hwl (And.intro hsz hBw)))
  clear q5 hown hsame hsz hBw qd q1 hbl hwl hlt hk
  go_wp2
  refine bodyPost_ret (v := .agg #[.slice a5 d.blocks.length c5, .slice a6 d.waits.length c6]) (by simp [results, Try.results34, go_sem, r0, r1]) rfl ?_
  obtain ⟨hbl, hwl, hsz, hBw⟩ := HZ.out
  have hk2 : ∀ lo hi, w.heap.size + 3 ≤ lo → Kp lo hi wr ((wr.setCell ⟨w.heap.size + 1, 0, none⟩ (.slice a5 d.blocks.length c5)).setCell ⟨w.heap.size + 1, 1, none⟩ (.slice a6 d.waits.length c6)) := fun lo hi h => kp_two wr _ _ 1 (by omega)
  refine ⟨_, _, rfl, ⟨⟨(hbl.keep (hk2 _ _ (by omega))).more (by omega) (by rw [World.size_setCell, World.size_setCell]; exact hsz), (hwl.keep (hk2 _ _ (by omega))).more (by omega) (by rw [World.size_setCell, World.size_setCell]; exact Nat.le_refl _)⟩, ?_⟩⟩
  exact (hBw.setCell (p := ⟨w.heap.size + 1, 0, none⟩) (Nat.le_succ _) _).setCell (p := ⟨w.heap.size + 1, 1, none⟩) (Nat.le_succ _) _
end Go.Proofs.Ytkfgegdnpinbdaa

namespace Go.Proofs.Ytkfgegdnpinbdaa
open Go.RowKit

set_option maxHeartbeats 1000000 in
/-- slices.Clone. -/
theorem clone_any (v : Value) (l : List UInt8) (w : World) (hI : Bytes w 0 w.heap.size v l) (hl : l.length ≤ 1000000) :
    Calls Try.prog 101 #[v] w fun e w' => ∃ u, e = .returned u ∧ MadeB w w' u l := by
  obtain ⟨a, c, rfl, g1, g2, g3, g4⟩ := id hI
  have hnil := fun (w : World) (a : Option Addr) (n c n' c' : Nat) => Lib.run_eql_slice_nil (P := Try.prog) w 26 5 a n c n' c' Try.underlying26
  cases a with
  | none =>
    have hc := g4 rfl
    subst hc
    have h0 : l = [] := List.eq_nil_of_length_eq_zero (by omega)
    subst h0
    go_enter Try.func101, Try.ntmps101
    go_wp2
    go_ret
    exact ⟨_, rfl, MadeB.nil_ (Below.refl _ _)⟩
  | some ad =>
    clear g3 g4
    have hown : OwnB w.heap.size 5 (w.alloc (.cells #[] 5)) (.slice (some ⟨w.heap.size, 0, none⟩) 0 0) [] := ⟨by simp, .inr ⟨w.heap.size, 0, #[], rfl, Nat.le_refl _, World.alloc_heap_new w _, Nat.le_refl _, Nat.zero_le _, rfl, rfl⟩⟩
    have hb0 := (Below.refl w.heap.size w).alloc (Nat.le_refl _) (.cells #[] 5)
    have hI1 := hI.step hb0
    go_enter Try.func101, Try.ntmps101
    go_wp2_with (at_builtin; refine wpList_appB rfl _ _ 26 rfl w.heap.size 5 Try.underlying26 info_u8 _ [] rfl hown _ _ _ l rfl hI1 (by simp; omega) (by simp) ?_; intro u w1 hown1 hB1)
    go_ret
    exact ⟨_, rfl, hown1.made (hb0.trans hB1)⟩

end Go.Proofs.Ytkfgegdnpinbdaa

namespace Go.Proofs.Ytkfgegdnpinbdaa
open Go.RowKit

/-- The greatest byte. -/
def maxL (l : List UInt8) : Nat := l.foldl (fun m x => max m x.toNat) 0
theorem maxL_step (l : List UInt8) (k : Nat) (hk : k < l.length) : maxL (l.take (k + 1)) = max (maxL (l.take k)) (l.getD k 0).toNat := by
  unfold maxL
  rw [List.take_succ_eq_append_getElem hk, List.foldl_append]
  simp [hk]
/-- A table may be. -/
def mayT (l : List UInt8) : Bool := l.length == 256 && maxL (l.take 8) == 0
def errT (l : List UInt8) (at_ : Int) (e : UInt8) : Int :=
  if mayT l then (if at_ < 8 ∨ 256 ≤ at_ then 2 else if l.getD at_.toNat 0 = e then 70 else 0) else 8
def outT (l : List UInt8) (at_ : Int) (b e : UInt8) : List UInt8 :=
  if errT l at_ e = 0 then l.set at_.toNat (l.getD at_.toNat 0 + b) else []
theorem mayT_len {l : List UInt8} (h : mayT l = true) : l.length = 256 := by
  unfold mayT at h
  simp at h
  exact h.1
theorem mayT_set (l : List UInt8) (i : Nat) (x : UInt8) (h : 8 ≤ i) : mayT (l.set i x) = mayT l := by
  unfold mayT
  rw [List.length_set, List.take_set_of_le h]

set_option maxHeartbeats 1000000 in
/-- slices.Max. -/
theorem max_any (v : Value) (l : List UInt8) (w : World) (hI : Bytes w 0 w.heap.size v l) (h0 : 0 < l.length) :
    Calls Try.prog 83 #[v] w fun e w' => e = .returned (.int .u8 (maxL l : Nat)) ∧ w' = w := by
  obtain ⟨a, c, rfl, g1, g2, g3, -⟩ := hI
  unfold maxLen at g2
  obtain ⟨b, off, rfl, _, _, hc⟩ := g3 h0
  have hc' : ∀ j, j < l.length → w.cell? ⟨b, off + j, none⟩ = some (.int .u8 ((l.getD j 0).toNat : Int)) := fun j hj => hc j (l.getD j 0) (by simp [hj])
  have hc0 : w.cell? ⟨b, off, none⟩ = some (.int .u8 ((l.getD 0 0).toNat : Int)) := by simpa using hc' 0 h0
  clear hc g3
  go_enter Try.func83, Try.ntmps83
  go_wp2
  go_loopg [3, 4] l.length (fun g m i wr => ∃ k : Nat, 0 < k ∧ k ≤ l.length ∧ l.length - k ≤ g ∧ i = .int .i64 k ∧ m = .int .u8 (maxL (l.take k) : Nat) ∧ wr = w)
  case atStart => exact ⟨1, Nat.one_pos, h0, by omega, rfl, by rw [maxL_step l 0 h0]; simp [maxL, h0], rfl⟩
  case round =>
    obtain ⟨k, hk0, hk, hg, rfl, rfl, rfl⟩ := hrel
    by_cases hlt : k < l.length
    · have ck := hc' k hlt
      have S := Lib.hid (maxL_step l k hlt)
      clear hc' hc0
      generalize maxL (l.take k) = mm at *
      go_wp2
      go_roundg (l.length - (k + 1))
      case measure => omega
      case rel => exact ⟨k + 1, Nat.succ_pos k, by omega, Nat.le_refl _, by go_num, by rw [S.out]; simp [hlt]; omega, rfl⟩
    · have hkl : k = l.length := by omega
      subst hkl
      clear hc' hc0
      rw [List.take_length]
      go_wp2
      go_ret
      exact ⟨rfl, rfl⟩

set_option maxHeartbeats 1000000 in
/-- count.New. -/
theorem cnew_any (w : World) :
    Calls Try.prog 56 #[] w fun e w' => ∃ u, e = .returned u ∧ MadeB w w' u (List.replicate 256 0) := by
  go_enter Try.func56, Try.ntmps56
  go_wp2_with (refine wpList_makeB rfl (.const (.int .i64 256)) (.const (.int .i64 256)) 26 rfl 5 Try.underlying26 info_u8 256 rfl rfl (by omega) ?_; intro w1 hrow hb)
  go_ret
  have h1 := hrow.bytes (by rw [List.length_replicate]; unfold maxLen; omega)
  rw [List.length_replicate] at h1
  exact ⟨_, rfl, h1.more (Nat.le_refl _) (by have := hrow.lt; omega), hrow.thawed _ _, hb⟩

set_option maxHeartbeats 1000000 in
/-- count.Check. -/
theorem ccheck_any (v : Value) (l : List UInt8) (w : World) (hI : Bytes w 0 w.heap.size v l) :
    Calls Try.prog 52 #[v] w fun e w' => e = .returned (.int .i64 (if mayT l then 0 else 8)) ∧ w' = w := by
  by_cases h : l.length = 256
  · obtain ⟨b, off, c, rfl, -, hc2, hc3, hc4, -⟩ := hI.at_n h (by omega)
    unfold maxLen at hc4
    have hm := max_any (.slice (some ⟨b, off, none⟩) 8 c) (l.take 8) w (hI.pre 8 (by omega)) (by simp; omega)
    have hM : mayT l = (maxL (l.take 8) == 0) := by unfold mayT; simp [h]
    rw [hM]
    clear hM
    generalize maxL (l.take 8) = m at *
    go_enter Try.func52, Try.ntmps52
    go_wp2_with fail
    refine hm.mono ?_
    rintro e w1 ⟨rfl, rfl⟩
    by_cases h1 : m = 0
    · subst h1
      go_wp2
      go_ret
      exact ⟨rfl, rfl⟩
    · have h2 : ¬ (m == 0) = true := by simp [h1]
      go_wp2
      go_ret
      exact ⟨rfl, rfl⟩
  · have hM : mayT l = false := by unfold mayT; simp [h]
    obtain ⟨a, c, rfl, g1, g2, -, -⟩ := hI
    rw [hM]
    have h1 : ¬ (l.length : Int) = 256 := by omega
    go_enter Try.func52, Try.ntmps52
    go_wp2
    go_ret
    exact ⟨rfl, rfl⟩

set_option maxHeartbeats 1000000 in
/-- count.turn. -/
theorem cturn_any (v : Value) (l : List UInt8) (p : Int) (b e : UInt8) (w : World) (hI : Bytes w 0 w.heap.size v l) :
    Calls Try.prog 80 #[v, .int .i64 p, bV b, bV e] w fun x w' => ∃ u, x = .returned (.tuple #[u, .int .i64 (errT l p e)]) ∧ MadeB w w' u (outT l p b e) := by
  have hck := ccheck_any v l w hI
  have hcl := clone_any v l w hI
  cases hm : mayT l
  · have h1 : errT l p e = 8 := by unfold errT; simp [hm]
    have h2 : outT l p b e = [] := by unfold outT; simp [h1]
    rw [h1, h2]
    rw [hm, if_neg (by simp)] at hck
    obtain ⟨a, c, rfl, -, -, -, -⟩ := hI
    clear h1 h2 hm hcl
    simp only [bV] at *
    go_enter Try.func80, Try.ntmps80
    go_wp2_with fail
    refine hck.mono ?_
    rintro x w1 ⟨rfl, rfl⟩
    go_wp2
    go_ret2
    exact ⟨_, rfl, MadeB.nil_ (Below.refl _ _)⟩
  · have hl := mayT_len hm
    have h0 : errT l p e = (if p < 8 ∨ 256 ≤ p then 2 else if l.getD p.toNat 0 = e then 70 else 0) := by unfold errT; simp [hm]
    rw [hm, if_pos rfl] at hck
    have hcl' := hcl (by omega)
    obtain ⟨bb, off, c, rfl, -, hc2, hc3, hc4, hcell⟩ := hI.at_n hl (by omega)
    clear hcl
    by_cases h1 : p < 8 ∨ 256 ≤ p
    · have h2 : errT l p e = 2 := by rw [h0]; simp [h1]
      have h3 : outT l p b e = [] := by unfold outT; simp [h2]
      rw [h2, h3]
      clear h0 h2 h3 hcl' hcell
      simp only [bV] at *
      go_enter Try.func80, Try.ntmps80
      go_wp2_with fail
      refine hck.mono ?_
      rintro x w1 ⟨rfl, rfl⟩
      rcases h1 with h1 | h1
      · go_wp2
        go_ret2
        exact ⟨_, rfl, MadeB.nil_ (Below.refl _ _)⟩
      · have h4 : ¬ p < 8 := by omega
        go_wp2
        go_ret2
        exact ⟨_, rfl, MadeB.nil_ (Below.refl _ _)⟩
    · obtain ⟨q, rfl⟩ : ∃ q : Nat, p = q := ⟨p.toNat, by omega⟩
      have i1 : 8 ≤ q := by omega
      have i2 : q < 256 := by omega
      have hx := hcell q (l.getD q 0) (by simp [hl, i2])
      clear hcell
      by_cases h2 : l.getD q 0 = e
      · have h3 : errT l q e = 70 := by rw [h0, if_neg (by omega), Int.toNat_natCast, if_pos h2]
        have h4 : outT l q b e = [] := by unfold outT; simp [h3]
        rw [h3, h4]
        clear h0 h3 h4 hcl'
        have h5 : ((l.getD q 0).toNat : Int) = e.toNat := by rw [h2]
        clear h2
        simp only [bV] at *
        generalize (l.getD q 0).toNat = m at *
        generalize e.toNat = m2 at *
        obtain rfl : m = m2 := by omega
        go_enter Try.func80, Try.ntmps80
        go_wp2_with fail
        refine hck.mono ?_
        rintro x w1 ⟨rfl, rfl⟩
        go_wp2
        go_ret2
        exact ⟨_, rfl, MadeB.nil_ (Below.refl _ _)⟩
      · have h3 : errT l q e = 0 := by rw [h0, if_neg (by omega), Int.toNat_natCast, if_neg h2]
        have h4 : outT l q b e = l.set q (l.getD q 0 + b) := by unfold outT; simp [h3]
        obtain ⟨z, hz⟩ : ∃ z, l.getD q 0 = z := ⟨_, rfl⟩
        rw [hz] at h2 hx
        have h5 : ¬ (z.toNat : Int) = e.toNat := fun h => h2 (UInt8.toNat_inj.1 (by omega))
        rw [h3, h4, hz]
        clear h0 h3 h4 h2
        have hyn : (z + b).toNat = (z.toNat + b.toNat) % 256 := UInt8.toNat_add _ _
        generalize z + b = y at *
        have HY := Lib.hid (And.intro hyn hz)
        clear hz hyn
        simp only [bV] at *
        go_enter Try.func80, Try.ntmps80
        go_wp2_with fail
        refine hck.mono ?_
        rintro x w1 ⟨rfl, rfl⟩
        go_wp2_with fail
        refine hcl'.mono ?_
        rintro x w2 ⟨u, rfl, hm2⟩
        obtain ⟨b2, off2, c2, rfl, hlo, hhi, hc5, hc6, hcell2⟩ := hm2.bytes.at_n hl (by omega)
        have hx2 := hcell2 q z (by rw [← HY.out.2]; simp [hl, i2])
        have hth := hm2.thawed b2 off2 256 c2 rfl q i2
        have HM := Lib.hid hm2
        clear hcell2 hx hm2
        simp only [bV] at hx2
        go_wp2
        go_ret2
        have hv2 : ((z.toNat : Int) + b.toNat) % 256 = (y.toNat : Nat) := by rw [HY.out.1]; omega
        rw [hv2]
        have hmb := HM.out
        exact ⟨_, rfl, (hmb.bytes.set q y (by omega)).more (Nat.le_refl _) (by rw [World.size_setCell]; exact Nat.le_refl _), hmb.thawed.set _ _, hmb.below.setCell hlo _⟩

set_option maxHeartbeats 1000000 in
/-- count.Up. -/
theorem cup_any (v : Value) (l : List UInt8) (p : Int) (w : World) (hI : Bytes w 0 w.heap.size v l) :
    Calls Try.prog 43 #[v, .int .i64 p] w fun x w' => ∃ u, x = .returned (.tuple #[u, .int .i64 (errT l p 255)]) ∧ MadeB w w' u (outT l p 1 255) := by
  have ht := cturn_any v l p 1 255 w hI
  generalize errT l p 255 = er at *
  generalize outT l p 1 255 = ou at *
  clear hI
  go_enter Try.func43, Try.ntmps43
  go_wp2_with fail
  refine ht.mono ?_
  rintro x w1 ⟨u, rfl, hm⟩
  go_wp2
  go_ret2
  exact ⟨_, rfl, hm⟩

end Go.Proofs.Ytkfgegdnpinbdaa

namespace Go.Proofs.Ytkfgegdnpinbdaa

theorem u8_inj {x y : UInt8} (h : x.toNat = y.toNat) : x = y := UInt8.toNat_inj.1 h
theorem u8_up {x : UInt8} (h : x ≠ 255) : (x + 1).toNat = x.toNat + 1 := by
  have h1 : x.toNat ≠ 255 := fun e => h (u8_inj e)
  have h2 := UInt8.toNat_lt x
  rw [UInt8.toNat_add, show (1 : UInt8).toNat = 1 from rfl]
  omega
theorem u8_up0 {x : UInt8} (h : x ≠ 255) : x + 1 ≠ 0 := fun e => by
  have := u8_up h
  rw [e, show (0 : UInt8).toNat = 0 from rfl] at this
  omega
theorem cgetD_set_self (l : List UInt8) (i : Nat) (x : UInt8) (h : i < l.length) : (l.set i x).getD i 0 = x := by simp [h]
theorem bget_set_ne (l : List UInt8) (i j : Nat) (x : UInt8) (h : i ≠ j) : (l.set i x).getD j 0 = l.getD j 0 := by simp [List.getElem?_set_ne h]
end Go.Proofs.Ytkfgegdnpinbdaa

namespace Go.Proofs.Ytkfgegdnpinbdaa
open Go.RowKit

/-- P holds, wherever the blocks from lo on, below hi, are as they are here. -/
def Lv (lo hi : Nat) (P : World → Prop) (V : World) : Prop := hi ≤ V.heap.size ∧ ∀ V' : World, (∀ k, lo ≤ k → k < hi → V'.heap[k]? = V.heap[k]?) → P V'
section
variable {lo hi : Nat} {P : World → Prop} {V V' : World}
theorem Lv.get (h : Lv lo hi P V) : P V := h.2 V fun _ _ _ => rfl
theorem Lv.hi_le (h : Lv lo hi P V) : hi ≤ V.heap.size := h.1
theorem Lv.step (h : Lv lo hi P V) (hb : Below V.heap.size V V') : Lv lo hi P V' :=
  ⟨Nat.le_trans h.1 hb.size, fun W hW => h.2 W fun k h1 h2 => (hW k h1 h2).trans (hb.block k (Nat.lt_of_lt_of_le h2 h.1))⟩
/-- Blocks from n0 on, below h0, have turned, and no other ones. -/
theorem Lv.out {n0 h0 : Nat} (h : Lv lo hi P V) (hs : V.heap.size ≤ V'.heap.size) (hf : ∀ x, x < V.heap.size → (x < n0 ∨ h0 ≤ x) → V'.heap[x]? = V.heap[x]?) (hd : hi ≤ n0 ∨ h0 ≤ lo) : Lv lo hi P V' :=
  ⟨Nat.le_trans h.1 hs, fun W hW => h.2 W fun k h1 h2 => (hW k h1 h2).trans (hf k (Nat.lt_of_lt_of_le h2 h.1) (by omega))⟩
theorem Lv.mk' (h : hi ≤ V.heap.size) (hk : ∀ V', Kp lo hi V V' → P V') : Lv lo hi P V := ⟨h, fun W hW => hk W fun b o h1 h2 => ⟨heap_cell (hW b h1 h2) o, heap_frozen (hW b h1 h2) o⟩⟩
theorem Lv.imp {Q : World → Prop} (h : Lv lo hi P V) (hi' : ∀ W, P W → Q W) : Lv lo hi Q V := ⟨h.1, fun W hW => hi' W (h.2 W hW)⟩
theorem Lv.and {Q : World → Prop} (h : Lv lo hi P V) (k : Lv lo hi Q V) : Lv lo hi (fun W => P W ∧ Q W) V := ⟨h.1, fun W hW => ⟨h.2 W hW, k.2 W hW⟩⟩
theorem Lv.more {lo' hi' : Nat} (h : Lv lo hi P V) (h1 : lo' ≤ lo) (h2 : hi ≤ hi') (h3 : hi' ≤ V.heap.size) : Lv lo' hi' P V := ⟨h3, fun W hW => h.2 W fun k g1 g2 => hW k (by omega) (by omega)⟩
end
/-- A known block. -/
def LK (g : Nat) (o : Obj) (V : World) : Prop := Lv g (g + 1) (fun W => W.heap[g]? = some o) V
theorem LK.of {V : World} {g : Nat} {o : Obj} (h : V.heap[g]? = some o) : LK g o V := ⟨(Array.getElem?_eq_some_iff.1 h).1, fun _ hW => (hW g (Nat.le_refl _) (Nat.lt_succ_self _)).trans h⟩
theorem LK.new (w : World) (o : Obj) : LK w.heap.size o (w.alloc o) := LK.of (World.alloc_heap_new w o)
theorem LK.blk {V : World} {g : Nat} {o : Obj} (h : LK g o V) : V.heap[g]? = some o := Lv.get h
theorem LK.lt {V : World} {g : Nat} {o : Obj} (h : LK g o V) : g < V.heap.size := Lv.hi_le h
theorem LK.step {V V' : World} {g : Nat} {o : Obj} (h : LK g o V) (hb : Below V.heap.size V V') : LK g o V' := Lv.step h hb
theorem LK.out {V V' : World} {g n0 h0 : Nat} {o : Obj} (h : LK g o V) (hs : V.heap.size ≤ V'.heap.size) (hf : ∀ x, x < V.heap.size → (x < n0 ∨ h0 ≤ x) → V'.heap[x]? = V.heap[x]?) (hd : g < n0 ∨ h0 ≤ g) : LK g o V' := Lv.out h hs hf (by omega)
theorem LK.cell {V : World} {g : Nat} {cs : Array Value} {t : TypeId} {f : Nat × Nat} (h : LK g (.cells cs t f) V) (i : Nat) : V.cell? ⟨g, i, none⟩ = cs[i]? := blk_cell h.blk i
theorem LK.frozen {V : World} {g : Nat} {cs : Array Value} {t : TypeId} (h : LK g (.cells cs t (0, 0)) V) (i : Nat) : V.frozen? ⟨g, i, none⟩ = false := blk_frozen h.blk i
/-- A disk that lies from lo on, below hi. -/
def LD (lo hi : Nat) (b u : Value) (d : DiskL) (V : World) : Prop := Lv lo hi (fun W => DiskV W lo hi b u d) V
theorem LD.of {V : World} {lo hi : Nat} {b u : Value} {d : DiskL} (h : DiskV V lo hi b u d) (hh : hi ≤ V.heap.size) : LD lo hi b u d V := Lv.mk' hh fun _ hk => ⟨Sl.keep h.1 hk, Sl.keep h.2 hk⟩
theorem LD.v {V : World} {lo hi : Nat} {b u : Value} {d : DiskL} (h : LD lo hi b u d V) : DiskV V 0 V.heap.size b u d := DiskV.more (Lv.get h) (Nat.zero_le _) (Lv.hi_le h)
theorem LD.step {V V' : World} {lo hi : Nat} {b u : Value} {d : DiskL} (h : LD lo hi b u d V) (hb : Below V.heap.size V V') : LD lo hi b u d V' := Lv.step h hb
theorem LD.out {V V' : World} {lo hi n0 h0 : Nat} {b u : Value} {d : DiskL} (h : LD lo hi b u d V) (hs : V.heap.size ≤ V'.heap.size) (hf : ∀ x, x < V.heap.size → (x < n0 ∨ h0 ≤ x) → V'.heap[x]? = V.heap[x]?) (hd : hi ≤ n0 ∨ h0 ≤ lo) : LD lo hi b u d V' := Lv.out h hs hf hd
/-- The same, and it may be written. -/
def LT (lo hi : Nat) (b u : Value) (d : DiskL) (V : World) : Prop := Lv lo hi (fun W => DiskT W lo hi b u d) V
theorem DiskT.kept {w w' : World} {lo hi : Nat} {b u : Value} {d : DiskL} (h : DiskT w lo hi b u d) (hk : Kp lo hi w w') : DiskT w' lo hi b u d := ⟨Sl.keep h.1 hk, Sl.keep h.2 hk⟩
theorem LT.of {V V' : World} {b u : Value} {d : DiskL} (h : MadeD V V' b u d) : LT V.heap.size V'.heap.size b u d V' := Lv.mk' (Nat.le_refl _) fun _ hk => h.disk.kept hk
theorem LT.t {V : World} {lo hi : Nat} {b u : Value} {d : DiskL} (h : LT lo hi b u d V) : DiskT V lo hi b u d := Lv.get h
theorem LT.d {V : World} {lo hi : Nat} {b u : Value} {d : DiskL} (h : LT lo hi b u d V) : LD lo hi b u d V := Lv.imp h fun _ k => k.v
theorem LT.v {V : World} {lo hi : Nat} {b u : Value} {d : DiskL} (h : LT lo hi b u d V) : DiskV V 0 V.heap.size b u d := h.d.v
theorem LT.step {V V' : World} {lo hi : Nat} {b u : Value} {d : DiskL} (h : LT lo hi b u d V) (hb : Below V.heap.size V V') : LT lo hi b u d V' := Lv.step h hb
theorem LT.out {V V' : World} {lo hi n0 h0 : Nat} {b u : Value} {d : DiskL} (h : LT lo hi b u d V) (hs : V.heap.size ≤ V'.heap.size) (hf : ∀ x, x < V.heap.size → (x < n0 ∨ h0 ≤ x) → V'.heap[x]? = V.heap[x]?) (hd : hi ≤ n0 ∨ h0 ≤ lo) : LT lo hi b u d V' := Lv.out h hs hf hd
/-- Bytes that lie from lo on, below hi. -/
def LB (lo hi : Nat) (v : Value) (l : List UInt8) (V : World) : Prop := Lv lo hi (fun W => Bytes W lo hi v l) V
theorem LB.of {V : World} {lo hi : Nat} {v : Value} {l : List UInt8} (h : Bytes V lo hi v l) (hh : hi ≤ V.heap.size) : LB lo hi v l V := Lv.mk' hh fun _ hk => h.kept hk
theorem LB.v {V : World} {lo hi : Nat} {v : Value} {l : List UInt8} (h : LB lo hi v l V) : Bytes V 0 V.heap.size v l := Bytes.more (Lv.get h) (Nat.zero_le _) (Lv.hi_le h)
theorem LB.step {V V' : World} {lo hi : Nat} {v : Value} {l : List UInt8} (h : LB lo hi v l V) (hb : Below V.heap.size V V') : LB lo hi v l V' := Lv.step h hb
theorem LB.out {V V' : World} {lo hi n0 h0 : Nat} {v : Value} {l : List UInt8} (h : LB lo hi v l V) (hs : V.heap.size ≤ V'.heap.size) (hf : ∀ x, x < V.heap.size → (x < n0 ∨ h0 ≤ x) → V'.heap[x]? = V.heap[x]?) (hd : hi ≤ n0 ∨ h0 ≤ lo) : LB lo hi v l V' := Lv.out h hs hf hd
/-- The same, and they may be written. -/
def LM (lo hi : Nat) (v : Value) (l : List UInt8) (V : World) : Prop := Lv lo hi (fun W => Bytes W lo hi v l ∧ Thawed W v) V
theorem LM.of {V V' : World} {v : Value} {l : List UInt8} (h : MadeB V V' v l) : LM V.heap.size V'.heap.size v l V' := Lv.mk' (Nat.le_refl _) fun _ hk => ⟨h.bytes.kept hk, thawed_kept h.bytes h.thawed hk⟩
theorem LM.b {V : World} {lo hi : Nat} {v : Value} {l : List UInt8} (h : LM lo hi v l V) : LB lo hi v l V := Lv.imp h fun _ k => k.1
theorem LM.v {V : World} {lo hi : Nat} {v : Value} {l : List UInt8} (h : LM lo hi v l V) : Bytes V 0 V.heap.size v l := h.b.v
theorem LM.m {V : World} {lo hi : Nat} {v : Value} {l : List UInt8} (h : LM lo hi v l V) : Bytes V lo hi v l ∧ Thawed V v := Lv.get h
theorem LM.step {V V' : World} {lo hi : Nat} {v : Value} {l : List UInt8} (h : LM lo hi v l V) (hb : Below V.heap.size V V') : LM lo hi v l V' := Lv.step h hb
theorem LM.out {V V' : World} {lo hi n0 h0 : Nat} {v : Value} {l : List UInt8} (h : LM lo hi v l V) (hs : V.heap.size ≤ V'.heap.size) (hf : ∀ x, x < V.heap.size → (x < n0 ∨ h0 ≤ x) → V'.heap[x]? = V.heap[x]?) (hd : hi ≤ n0 ∨ h0 ≤ lo) : LM lo hi v l V' := Lv.out h hs hf hd
theorem LM.set {V : World} {lo hi b off n c : Nat} {L : List UInt8} (h : LM lo hi (.slice (some ⟨b, off, none⟩) n c) L V) (j : Nat) (x : UInt8) (hj : j < L.length) : LM lo hi (.slice (some ⟨b, off, none⟩) n c) (L.set j x) (V.setCell ⟨b, off + j, none⟩ (bV x)) :=
  Lv.mk' (by rw [World.size_setCell]; exact Lv.hi_le h) fun _ hk => ⟨(h.m.1.set j x hj).kept hk, thawed_kept (h.m.1.set j x hj) (h.m.2.set _ _) hk⟩
/-- A slice that lies from lo on, below hi. -/
def LS {α : Type} (r : Rd α) (lo hi : Nat) (v : Value) (l : List α) (V : World) : Prop := Lv lo hi (fun W => Sl r W lo hi v l) V
theorem LS.of {α : Type} {r : Rd α} {V : World} {lo hi : Nat} {v : Value} {l : List α} (h : Sl r V lo hi v l) (hh : hi ≤ V.heap.size) : LS r lo hi v l V := Lv.mk' hh fun _ hk => h.keep hk
theorem LS.v {α : Type} {r : Rd α} {V : World} {lo hi : Nat} {v : Value} {l : List α} (h : LS r lo hi v l V) : Sl r V 0 V.heap.size v l := Sl.more (Lv.get h) (Nat.zero_le _) (Lv.hi_le h)
theorem LS.step {α : Type} {r : Rd α} {V V' : World} {lo hi : Nat} {v : Value} {l : List α} (h : LS r lo hi v l V) (hb : Below V.heap.size V V') : LS r lo hi v l V' := Lv.step h hb
theorem LS.out {α : Type} {r : Rd α} {V V' : World} {lo hi n0 h0 : Nat} {v : Value} {l : List α} (h : LS r lo hi v l V) (hs : V.heap.size ≤ V'.heap.size) (hf : ∀ x, x < V.heap.size → (x < n0 ∨ h0 ≤ x) → V'.heap[x]? = V.heap[x]?) (hd : hi ≤ n0 ∨ h0 ≤ lo) : LS r lo hi v l V' := Lv.out h hs hf hd
/-- Nothing below w has turned. -/
def LW (w V : World) : Prop := Below w.heap.size w V
theorem LW.step {w V V' : World} (h : LW w V) (hb : Below V.heap.size V V') : LW w V' := below_step h (Below.size h) hb
theorem LW.outB {w V V' : World} {n0 : Nat} (h : LW w V) (hb : Below n0 V V') (hn : w.heap.size ≤ n0) : LW w V' := Below.trans h (hb.mono hn)
end Go.Proofs.Ytkfgegdnpinbdaa

namespace Go.Proofs.Ytkfgegdnpinbdaa

def half (s : BitVec 32) : BitVec 32 := (s >>> 1) ^^^ (if s.getLsbD 0 then 0xedb88320#32 else 0#32)
def halves : Nat → BitVec 32 → BitVec 32
  | 0, s => s
  | n + 1, s => half (halves n s)
theorem halves_add (s : BitVec 32) (n : Nat) : ∀ m, halves (n + m) s = halves m (halves n s)
  | 0 => rfl
  | m + 1 => by rw [← Nat.add_assoc, halves, halves_add s n m, halves]

theorem half_xor (a b : BitVec 32) : half (a ^^^ b) = half a ^^^ half b := by
  unfold half
  rw [BitVec.ushiftRight_xor_distrib, BitVec.getLsbD_xor]
  cases ha : a.getLsbD 0 <;> cases hb : b.getLsbD 0
  · simp
  · simp [BitVec.xor_assoc]
  · simp only [Bool.xor_false, if_true, if_false, Bool.false_eq_true, BitVec.xor_zero]
    ac_rfl
  · simp only [Bool.xor_true, Bool.not_true, if_true, if_false, Bool.false_eq_true, BitVec.xor_zero]
    have e : (a >>> 1 ^^^ 3988292384#32) ^^^ (b >>> 1 ^^^ 3988292384#32) = a >>> 1 ^^^ b >>> 1 ^^^ (3988292384#32 ^^^ 3988292384#32) := by ac_rfl
    rw [e]; simp
theorem halves_xor (a b : BitVec 32) : ∀ n, halves n (a ^^^ b) = halves n a ^^^ halves n b
  | 0 => rfl
  | n + 1 => by rw [halves, halves_xor a b n, half_xor]; rfl
/-- What is even is only moved. -/
theorem halves_even (s : BitVec 32) : ∀ n, (∀ i, i < n → s.getLsbD i = false) → halves n s = s >>> n
  | 0, _ => by simp [halves]
  | n + 1, h => by
    rw [halves, halves_even s n (fun i hi => h i (by omega)), half]
    have h0 : (s >>> n).getLsbD 0 = false := by rw [BitVec.getLsbD_ushiftRight]; simpa using h n (by omega)
    rw [h0]
    simp [BitVec.shiftRight_add]
/-- A table of four bits serves. -/
theorem halves_four (s : BitVec 32) : halves 4 s = (s >>> 4) ^^^ halves 4 (s &&& 15#32) := by
  have e : s = (s &&& 0xfffffff0#32) ^^^ (s &&& 15#32) := by
    apply BitVec.eq_of_getLsbD_eq
    intro i hi
    rw [BitVec.getLsbD_xor, BitVec.getLsbD_and, BitVec.getLsbD_and]
    have hk : ∀ k : Fin 32, ((0xfffffff0#32).getLsbD k.val ^^ (15#32).getLsbD k.val) = true := by decide
    have := hk ⟨i, hi⟩
    cases h1 : (0xfffffff0#32).getLsbD i <;> cases h2 : (15#32).getLsbD i <;> simp_all
  have h1 : halves 4 (s &&& 0xfffffff0#32) = (s &&& 0xfffffff0#32) >>> 4 := by
    apply halves_even
    intro i hi
    rw [BitVec.getLsbD_and]
    have : (0xfffffff0#32).getLsbD i = false := by
      match i, hi with
      | 0, _ => decide
      | 1, _ => decide
      | 2, _ => decide
      | 3, _ => decide
    rw [this]; simp
  have h2 : (s &&& 0xfffffff0#32) >>> 4 = s >>> 4 := by
    apply BitVec.eq_of_getLsbD_eq
    intro i hi
    rw [BitVec.getLsbD_ushiftRight, BitVec.getLsbD_ushiftRight, BitVec.getLsbD_and]
    by_cases h : 4 + i < 32
    · have : (0xfffffff0#32).getLsbD (4 + i) = true := by
        have hk : ∀ k : Fin 28, (0xfffffff0#32).getLsbD (4 + k.val) = true := by decide
        exact hk ⟨i, by omega⟩
      rw [this]; simp
    · rw [BitVec.getLsbD_of_ge s (4 + i) (by omega)]; simp
  conv => lhs; rw [e, halves_xor, h1, h2]

def b32 (x : UInt8) : BitVec 32 := BitVec.ofNat 32 x.toNat
def stepB (s : BitVec 32) (x : UInt8) : BitVec 32 := halves 8 (s ^^^ b32 x)
def crcS (s : BitVec 32) (l : List UInt8) : BitVec 32 := l.foldl stepB s
def crc (l : List UInt8) : BitVec 32 := ~~~ (crcS (BitVec.allOnes 32) l)
theorem crcS_append (s : BitVec 32) (a b : List UInt8) : crcS s (a ++ b) = crcS (crcS s a) b := by simp [crcS]
theorem stepB_four (s : BitVec 32) (x : UInt8) : stepB s x = halves 4 (halves 4 (s ^^^ b32 x)) := halves_add _ 4 4
open Go in
theorem xor_u32 (a b : BitVec 32) : bits .xor .u32 (a.toNat : Int) (b.toNat : Int) = ((a ^^^ b).toNat : Int) := by
  simp only [bits, IntKind.bits]
  rw [BitVec.ofInt_natCast, BitVec.ofInt_natCast, BitVec.ofNat_toNat, BitVec.ofNat_toNat]
  simp only [BitVec.setWidth_eq]
  rw [IntKind.wrap_u32]
  have := (a ^^^ b).isLt
  show ((a ^^^ b).toNat : Int) % 4294967296 = _
  omega
open Go in
theorem and_u32 (a b : BitVec 32) : bits .and .u32 (a.toNat : Int) (b.toNat : Int) = ((a &&& b).toNat : Int) := by
  simp only [bits, IntKind.bits]
  rw [BitVec.ofInt_natCast, BitVec.ofInt_natCast, BitVec.ofNat_toNat, BitVec.ofNat_toNat]
  simp only [BitVec.setWidth_eq]
  rw [IntKind.wrap_u32]
  have := (a &&& b).isLt
  show ((a &&& b).toNat : Int) % 4294967296 = _
  omega
theorem b32_nat (x : UInt8) : (b32 x).toNat = x.toNat := by
  have := x.toNat_lt
  simp only [b32, BitVec.toNat_ofNat]
  omega
theorem shr_nat (a : BitVec 32) (n : Nat) : (a >>> n).toNat = a.toNat / 2 ^ n := by rw [BitVec.toNat_ushiftRight, Nat.shiftRight_eq_div_pow]
end Go.Proofs.Ytkfgegdnpinbdaa

namespace Go.Proofs.Ytkfgegdnpinbdaa
open Go.RowKit

def u32v (s : BitVec 32) : Value := .int .u32 (s.toNat : Int)
def tabV (k : Nat) : Array Value := ((List.range 16).map fun i => if i < k then u32v (halves 4 (BitVec.ofNat 32 i)) else .int .u32 0).toArray
theorem tabV_set (n : Nat) (h : n < 16) (v : Value) (hv : v = u32v (halves 4 (BitVec.ofNat 32 n))) : (tabV n).setIfInBounds n v = tabV (n + 1) := by
  subst hv
  apply Array.ext_getElem?
  intro i
  rw [Array.getElem?_setIfInBounds]
  by_cases hi : n = i
  · subst hi
    simp [tabV, h]
  · rw [if_neg hi]
    have : (i < n + 1) = (i < n) := by apply propext; omega
    by_cases h16 : i < 16
    · simp [tabV, h16, this]
    · simp [tabV, h16]
theorem tabV_at (i : Nat) (h : i < 16) : (tabV 16)[i]? = some (u32v (halves 4 (BitVec.ofNat 32 i))) := by simp [tabV, h]
theorem tabV_zero : tabV 0 = #[.int .u32 0, .int .u32 0, .int .u32 0, .int .u32 0, .int .u32 0, .int .u32 0, .int .u32 0, .int .u32 0, .int .u32 0, .int .u32 0, .int .u32 0, .int .u32 0, .int .u32 0, .int .u32 0, .int .u32 0, .int .u32 0] := rfl
theorem tabV_lit : tabV 16 = #[.int .u32 0, .int .u32 498536548, .int .u32 997073096, .int .u32 651767980, .int .u32 1994146192, .int .u32 1802195444, .int .u32 1303535960, .int .u32 1342533948, .int .u32 3988292384, .int .u32 4027552580, .int .u32 3604390888, .int .u32 3412177804, .int .u32 2607071920, .int .u32 2262029012, .int .u32 2685067896, .int .u32 3183342108] := by kernel_rfl
theorem half_nat (s : BitVec 32) : bits BinOp.xor IntKind.u32 ((s.toNat : Int) / 2) (3988292384 * bits BinOp.and IntKind.u32 (s.toNat : Int) 1 % 4294967296) = ((half s).toNat : Int) := by
  have h1 : ((s.toNat : Int) / (2 : Int)) = ((s >>> 1).toNat : Int) := by rw [shr_nat]; omega
  have h2 := and_u32 s 1#32
  have h3 : (s &&& 1#32) = if s.getLsbD 0 then 1#32 else 0#32 := by
    apply BitVec.eq_of_getLsbD_eq
    intro i hi
    cases i with
    | zero => cases h : s.getLsbD 0 <;> simp [h, -BitVec.getLsbD_eq_getElem]
    | succ i => cases h : s.getLsbD 0 <;> simp [BitVec.getLsbD_one]
  have h4 : (3988292384 * bits BinOp.and IntKind.u32 (s.toNat : Int) 1 % 4294967296) = ((if s.getLsbD 0 then 0xedb88320#32 else 0#32 : BitVec 32).toNat : Int) := by
    rw [show (1 : Int) = ((1#32).toNat : Int) by decide, h2, h3]
    cases s.getLsbD 0 <;> decide
  rw [h1, h4, xor_u32]
  rfl

set_option maxHeartbeats 1000000 in
theorem fold_any (w : World) : Calls Try.prog 123 #[] w fun e w' => e = .returned (.agg (tabV 16)) ∧ Below w.heap.size w w' := by
  go_enter Try.func123, Try.ntmps123
  go_wp2
  go_loopw [3] (fun k wr => ∃ n : Nat, n ≤ 16 ∧ k = .int .i64 n ∧ wr = w.alloc (.cells (tabV n) 164)) (fun k _ => 16 - (intOf k).toNat)
  case atStart => exact ⟨0, by omega, rfl, by rw [tabV_zero]⟩
  case round =>
    obtain ⟨n, hn, rfl, rfl⟩ := hrel
    by_cases h : n < 16
    · have hcell : (tabV n)[n]? = some (.int .u32 0) := by simp [tabV, h]
      have htab := fun v hv => tabV_set n h v hv
      have HT := Lib.hid htab
      clear htab
      go_wp2
      go_loop [2, 8] (fun s k => ∃ j : Nat, j ≤ 4 ∧ k = .int .i64 j ∧ s = u32v (halves j (BitVec.ofNat 32 n))) (fun _ k => 4 - (intOf k).toNat)
      case atStart => exact ⟨0, by omega, rfl, by rw [halves, u32v, BitVec.toNat_ofNat, Nat.mod_eq_of_lt (by omega)]⟩
      case round =>
        obtain ⟨j, hj, rfl, hs⟩ := hrel
        unfold u32v at hs
        subst hs
        have hb := (halves j (BitVec.ofNat 32 n)).isLt
        have hf : j < 4 → half (halves j (BitVec.ofNat 32 n)) = halves (j + 1) (BitVec.ofNat 32 n) := fun _ => rfl
        have HF := Lib.hid hf
        have he : j = 4 → halves j (BitVec.ofNat 32 n) = halves 4 (BitVec.ofNat 32 n) := fun h => by rw [h]
        have HE := Lib.hid he
        clear hf he
        generalize halves j (BitVec.ofNat 32 n) = s at *
        by_cases h4 : j < 4
        · go_wp2
          go_round
          case rel => exact ⟨j + 1, by omega, by go_num, by rw [half_nat, HF.out h4]; rfl⟩
          case measure => simp [intOf]; omega
        · go_wp2
          go_roundw
          case rel => exact ⟨n + 1, by omega, by go_num, by rw [HT.out _ (by rw [HE.out (by omega)]; rfl)]⟩
          case measure => simp [intOf]; omega
    · obtain rfl : n = 16 := by omega
      rw [tabV_lit]
      go_wp2
      exact bodyPost_ret (v := .agg #[.int .u32 0, .int .u32 498536548, .int .u32 997073096, .int .u32 651767980, .int .u32 1994146192, .int .u32 1802195444, .int .u32 1303535960, .int .u32 1342533948, .int .u32 3988292384, .int .u32 4027552580, .int .u32 3604390888, .int .u32 3412177804, .int .u32 2607071920, .int .u32 2262029012, .int .u32 2685067896, .int .u32 3183342108]) (by simp [results, Try.results123, go_sem]) rfl ⟨by rw [tabV_lit], (Below.refl _ _).alloc (Nat.le_refl _) _⟩

theorem four_nat (s : BitVec 32) : bits BinOp.xor IntKind.u32 ((s.toNat : Int) / (16 : Int)) ((halves 4 (s &&& 15#32)).toNat : Int) = ((halves 4 s).toNat : Int) := by
  have h1 : ((s.toNat : Int) / (16 : Int)) = ((s >>> 4).toNat : Int) := by rw [shr_nat]; omega
  rw [h1, xor_u32, ← halves_four]
theorem and15 (s : BitVec 32) : ∃ i : Nat, i < 16 ∧ bits BinOp.and IntKind.u32 (s.toNat : Int) 15 = (i : Int) ∧ halves 4 (BitVec.ofNat 32 i) = halves 4 (s &&& 15#32) := by
  have h := and_u32 s 15#32
  refine ⟨(s &&& 15#32).toNat, ?_, h, by rw [BitVec.ofNat_toNat]; simp⟩
  rw [BitVec.toNat_and]
  exact Nat.lt_of_le_of_lt Nat.and_le_right (by decide)

set_option maxHeartbeats 1000000 in
theorem of_any (v : Value) (l : List UInt8) (w : World) (hI : Bytes w 0 w.heap.size v l) : Calls Try.prog 106 #[v] w fun e w' => e = .returned (u32v (crc l)) ∧ Below w.heap.size w w' := by
  obtain ⟨a, c, rfl, g1, g2, g3, _⟩ := id hI
  unfold maxLen at g2
  have hfold := fold_any
  have HF := Lib.hid hfold
  clear hfold
  go_enter Try.func106, Try.ntmps106
  go_wp2_with fail
  refine (HF.out _).mono ?_
  rw [tabV_lit]
  rintro e w1 ⟨rfl, hB⟩
  have hI1 := hI.step hB
  clear g3 hI HF
  go_wp2
  rw [← tabV_lit]
  have hI2 := hI1.step ((Below.refl w1.heap.size w1).alloc (Nat.le_refl _) (.cells (tabV 16) 164))
  obtain ⟨W, hW⟩ : ∃ W, w1.alloc (.cells (tabV 16) 164) = W := ⟨_, rfl⟩
  have htab : ∀ i : Nat, i < 16 → W.cell? ⟨w1.heap.size, i, none⟩ = some (u32v (halves 4 (BitVec.ofNat 32 i))) := fun i hi => by rw [← hW, World.cell?_alloc_new]; exact tabV_at i hi
  have hBW : Below w.heap.size w W := by rw [← hW]; exact hB.alloc hB.size _
  rw [hW] at hI2 ⊢
  generalize w1.heap.size = tb at *
  have HT := Lib.hid htab
  have HI := Lib.hid hI2
  clear hI1 hB hW htab hI2
  go_loop [4, 10] (fun s i => ∃ k : Nat, k ≤ l.length ∧ i = .int .i64 k ∧ s = u32v (crcS (BitVec.allOnes 32) (l.take k))) (fun _ i => l.length - (intOf i).toNat)
  case atStart => exact ⟨0, Nat.zero_le _, rfl, rfl⟩
  case round =>
    obtain ⟨k, hk, rfl, hs⟩ := hrel
    unfold u32v at hs
    subst hs
    by_cases hlt : k < l.length
    · obtain ⟨b, off, c', he, _, hb, _, _, hc⟩ := HI.out.at_ (by omega)
      cases he
      have hx := hc k l[k] (by simp [hlt])
      have hsn : crcS (BitVec.allOnes 32) (l.take (k + 1)) = stepB (crcS (BitVec.allOnes 32) (l.take k)) l[k] := by rw [List.take_succ_eq_append_getElem hlt, crcS_append]; rfl
      have HS := Lib.hid hsn
      clear hsn hc
      generalize crcS (BitVec.allOnes 32) (l.take k) = s at *
      generalize l[k] = x at *
      unfold bV at hx
      have hxl : (x.toNat : Int) < 256 := by have := x.toNat_lt; omega
      have e1 : bits BinOp.xor IntKind.u32 (s.toNat : Int) (x.toNat : Int) = ((s ^^^ b32 x).toNat : Int) := by rw [← b32_nat, xor_u32]
      have hs1 : stepB s x = halves 4 (halves 4 (s ^^^ b32 x)) := stepB_four s x
      have HS1 := Lib.hid hs1
      clear hs1
      generalize s ^^^ b32 x = s1 at *
      obtain ⟨i1, hi1, e2, e3⟩ := and15 s1
      have t1 := HT.out i1 hi1
      have e4 := four_nat s1
      rw [← e3] at e4
      generalize halves 4 (BitVec.ofNat 32 i1) = y1 at *
      generalize halves 4 s1 = s2 at *
      obtain ⟨i2, hi2, e5, e6⟩ := and15 s2
      have t2 := HT.out i2 hi2
      have e7 := four_nat s2
      rw [← e6] at e7
      generalize halves 4 (BitVec.ofNat 32 i2) = y2 at *
      generalize halves 4 s2 = s3 at *
      unfold u32v at t1 t2
      have b1 := s1.isLt
      have b2 := s2.isLt
      clear e3 e6
      go_wp2
      go_round
      case rel => exact ⟨k + 1, by omega, by go_num, by rw [HS.out, HS1.out]; rfl⟩
      case measure => simp [intOf]; omega
    · obtain rfl : k = l.length := by omega
      rw [List.take_length]
      have hfin : u32v (crc l) = .int .u32 (bits BinOp.xor IntKind.u32 IntKind.u32.max ((crcS (BitVec.allOnes 32) l).toNat : Int)) := by
        rw [show IntKind.u32.max = ((BitVec.allOnes 32).toNat : Int) by decide, xor_u32, BitVec.allOnes_xor]
        rfl
      have HFin := Lib.hid hfin
      have hbd := (crcS (BitVec.allOnes 32) l).isLt
      clear hfin
      generalize crcS (BitVec.allOnes 32) l = s at *
      go_wp2
      go_ret
      exact ⟨by rw [HFin.out]; rfl, hBW⟩
end Go.Proofs.Ytkfgegdnpinbdaa

namespace Go.Proofs.Ytkfgegdnpinbdaa
open Go.RowKit

def KeepC (n₀ Bs : Nat) (A B : World) : Prop := Below n₀ A B ∧ B.cell? ⟨Bs, 0, none⟩ = A.cell? ⟨Bs, 0, none⟩ ∧ B.cell? ⟨Bs + 1, 0, none⟩ = A.cell? ⟨Bs + 1, 0, none⟩
theorem KeepC.refl (n₀ Bs : Nat) (A : World) : KeepC n₀ Bs A A := ⟨Below.refl _ _, rfl, rfl⟩
theorem KeepC.trans {n₀ Bs : Nat} {A B C : World} (h : KeepC n₀ Bs A B) (k : KeepC n₀ Bs B C) : KeepC n₀ Bs A C := ⟨h.1.trans k.1, k.2.1.trans h.2.1, k.2.2.trans h.2.2⟩
end Go.Proofs.Ytkfgegdnpinbdaa

namespace Go.Proofs.Ytkfgegdnpinbdaa
open Go.RowKit Go.Shelf
attribute [local go_sem] Oper.semAt_some

theorem grown_ck {W W' : World} {row : Option Nat} (hg : W.grownBy W' row) (hr : ∀ r, row = some r → ∃ o : Obj, W.heap[r]? = some o ∧ o.isCells = false) : CKc W W' := fun _ _ h => ⟨cell_kept h hg hr, frozen_kept h hg hr⟩
theorem blk_grown {W W' : World} {row : Option Nat} (hg : W.grownBy W' row) (hr : ∀ r, row = some r → ∃ o : Obj, W.heap[r]? = some o ∧ o.isCells = false) {g : Nat} {cs : Array Value} {T : TypeId} {f : Nat × Nat} (h : W.heap[g]? = some (.cells cs T f)) : W'.heap[g]? = some (.cells cs T f) := by
  refine (hg.block g (Array.getElem?_eq_some_iff.1 h).1 (fun e => ?_)).trans h
  obtain ⟨o, ho, hc⟩ := hr g e.symm
  rw [h] at ho
  cases ho
  cases hc
end Go.Proofs.Ytkfgegdnpinbdaa

namespace Go.Proofs.Ytkfgegdnpinbdaa
open Go.RowKit

/-- Does a block open? -/
def opensL (l : List UInt8) : Bool := getN l 0 4 == (crc (l.drop 4)).toNat
def openE (l : List UInt8) : Int := if l.length = 128 then (if opensL l then 0 else 8) else 3
def openL (l : List UInt8) : List UInt8 := if openE l = 0 then l.drop 4 else []

set_option maxHeartbeats 1000000 in
theorem open_any (v : Value) (l : List UInt8) (w : World) (hI : Bytes w 0 w.heap.size v l) :
    Calls Try.prog 81 #[v] w fun e w' => ∃ u, e = .returned (.tuple #[u, .int .i64 (openE l)]) ∧ MadeB w w' u (openL l) := by
  by_cases hl : l.length = 128
  · obtain ⟨b, off, c, rfl, g0, g1, g2, g3, g4⟩ := hI.at_ (by omega)
    clear g4
    rw [hl] at g2 hI ⊢
    unfold maxLen at g3
    have hcut := hI.cut 4 124 (c - 4) (by omega) (by omega) (by unfold maxLen; omega)
    rw [List.take_of_length_le (by simp; omega)] at hcut
    have hdl : (l.drop 4).length = 124 := by simp; omega
    have hget := getFour_any _ l 0 w hI
    have hE0 : getE l 0 4 = 0 := if_pos (by simp; omega)
    have hgl := getN_lt l 0 4
    rw [hE0] at hget
    have hc := of_any _ _ _ hcut
    have hcl := fun w1 h => clone_any _ _ w1 (hcut.step (w' := w1) h) (by omega)
    have hof := fun w1 h => of_any _ _ w1 (hcut.step (w' := w1) h)
    have hrel : opensL l = true ↔ (getN l 0 4 : Int) = ((crc (l.drop 4)).toNat : Int) := by simp only [opensL, beq_iff_eq]; omega
    unfold openL openE
    rw [if_pos hl]
    have hlt := (crc (l.drop 4)).isLt
    clear hcut hc hE0 hI
    unfold u32v at hof
    generalize crc (l.drop 4) = C at *
    generalize C.toNat = cn at *
    generalize getN l 0 4 = gn at *
    generalize l.drop 4 = d at *
    have HH := Lib.hid (And.intro hcl hof)
    clear hcl hof
    by_cases ho : opensL l = true
    · rw [hrel] at ho
      rw [if_pos (hrel.2 ho), if_pos rfl]
      obtain rfl : gn = cn := by omega
      clear hrel ho hdl
      go_enter Try.func81, Try.ntmps81
      go_wp2_with fail
      refine hget.mono ?_
      rintro e w1 ⟨rfl, hb1⟩
      go_wp2_with fail
      refine (HH.out.2 w1 hb1).mono ?_
      rintro e w2 ⟨rfl, hb2⟩
      have hb12 := below_step hb1 hb1.size hb2
      go_wp2_with fail
      refine (HH.out.1 w2 hb12).mono ?_
      rintro e w3 ⟨u, rfl, hm⟩
      go_wp2
      go_ret2
      exact ⟨u, rfl, hm.bytes.more hb12.size (Nat.le_refl _), hm.thawed, below_step hb12 hb12.size hm.below⟩
    · have hne : ¬ ((gn : Int) = (cn : Int)) := fun h => ho (hrel.2 h)
      rw [if_neg ho, if_neg (by decide)]
      clear hrel ho hdl
      go_enter Try.func81, Try.ntmps81
      go_wp2_with fail
      refine hget.mono ?_
      rintro e w1 ⟨rfl, hb1⟩
      go_wp2_with fail
      refine (HH.out.2 w1 hb1).mono ?_
      rintro e w2 ⟨rfl, hb2⟩
      go_wp2
      go_ret2
      exact ⟨_, rfl, MadeB.nil_ (below_step hb1 hb1.size hb2)⟩
  · have e1 : openE l = 3 := by simp [openE, hl]
    have e2 : openL l = [] := by simp [openL, e1]
    rw [e1, e2]
    obtain ⟨a, c, rfl, g1, g2, _, _⟩ := id hI
    clear hI e1 e2
    go_enter Try.func81, Try.ntmps81
    go_wp2
    go_ret2
    exact ⟨_, rfl, MadeB.nil_ (Below.refl _ _)⟩
end Go.Proofs.Ytkfgegdnpinbdaa

