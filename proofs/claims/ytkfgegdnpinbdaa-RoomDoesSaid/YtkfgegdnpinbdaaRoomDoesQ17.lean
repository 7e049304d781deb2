/- RoomDoes: the words and contracts, part 17. -/
import Derived.Test.YtkfgegdnpinbdaaRoomDoesQ1
import Derived.Test.YtkfgegdnpinbdaaRoomDoesQ2
import Derived.Test.YtkfgegdnpinbdaaRoomDoesQ3
import Derived.Test.YtkfgegdnpinbdaaRoomDoesQ4
import Derived.Test.YtkfgegdnpinbdaaRoomDoesQ5
import Derived.Test.YtkfgegdnpinbdaaRoomDoesQ6
import Derived.Test.YtkfgegdnpinbdaaRoomDoesQ7
import Derived.Test.YtkfgegdnpinbdaaRoomDoesQ8
import Derived.Test.YtkfgegdnpinbdaaRoomDoesQ9
import Derived.Test.YtkfgegdnpinbdaaRoomDoesQ10
import Derived.Test.YtkfgegdnpinbdaaRoomDoesQ11
import Derived.Test.YtkfgegdnpinbdaaRoomDoesQ12
import Derived.Test.YtkfgegdnpinbdaaRoomDoesQ13
import Derived.Test.YtkfgegdnpinbdaaRoomDoesQ14
import Derived.Test.YtkfgegdnpinbdaaRoomDoesQ15
import Derived.Test.YtkfgegdnpinbdaaRoomDoesQ16
import Derived.WalkKit
import Derived.WalkLawsBesides
import Derived.WalkSpells
import Derived.Lib.Hide
import Derived.Laws.Rows
import Derived.Laws.AppendOwnNone
import Derived.Maps.AppendAt
import Derived.RangeFuncNested
import Derived.RangeFuncBound
import Derived.RangeFuncCalls
import Derived.RangeFuncLeaves
import Derived.RangeFuncBox
import Derived.Shelf.Abstract
import Derived.Shelf.RegionOpen
import Derived.OwnWalkIn
import Derived.TacticsInMore
import Derived.LoopNIn
import Derived.LoopIn
import Derived.ProofKit
import Derived.Deep.Slices
import Derived.WideShapes
import Derived.OrdersHeld
import Derived.Deep.QuietTactic
import Derived.BigQuiet
import Derived.StillTailTactics
import Derived.OpenShut
import Derived.Lib.SliceRun
import Derived.Lib.AppendZerosOnto
import Derived.Lib.Walk
import Derived.Deep.LoopGhost
import Derived.Laws.CopyOwn
import Derived.Deep.DeepCutAuto
import Derived.Laws.CopyRow
import Derived.Laws.MakeOwn
import Derived.Deep.RegionHeld
import Derived.KernelRfl
import Derived.BigFrameIn
import Derived.OrdersIn
namespace Go.Proofs.Ytkfgegdnpinbdaa
open Go.RowKit

theorem row_bytesB {base : Nat} {T : TypeId} {lo : Nat} {S : Nat → Bool} {wr w0 : World} {v : Value} {kl : List (List UInt8)} {x : List UInt8} (h : OwnR rBytes base T lo S wr v kl) (hS : ∀ k, wr.heap.size ≤ k → S k = false) (h0 : w0.heap = wr.heap)
    (hlo : lo ≤ wr.heap.size) (hx : x.length ≤ maxLen) (n : Nat) (hn : x.length = n) (T1 T2 : TypeId) (cs : Array Value) (hcs : cs = (x.map bV).toArray) :
    OwnR rBytes base T lo S ((w0.alloc (.cells cs T1)).alloc (.cells #[.slice (some ⟨w0.heap.size, 0, none⟩) n n] T2)) v kl ∧ ∀ j y, [x][j]? = some y → rBytes.R (hideW ((w0.alloc (.cells cs T1)).alloc (.cells #[.slice (some ⟨w0.heap.size, 0, none⟩) n n] T2)) (andOwn S v)) lo ((w0.alloc (.cells cs T1)).alloc (.cells #[.slice (some ⟨w0.heap.size, 0, none⟩) n n] T2)).heap.size y (fun i => [(.slice (some ⟨w0.heap.size, 0, none⟩) n n : Value)][j * rBytes.n + i]?) := by
  subst hcs hn
  exact row_bytes1 h hS h0 ((Below.refl _ _).alloc (Nat.le_refl _) _) ((Bytes.new w0 T1 x hx (0, 0)).more (Nat.le_refl _) (by simp)) hlo T2

set_option maxRecDepth 100000 in
set_option maxHeartbeats 2000000 in
/-- The reference's New. -/
theorem rdnew_new (w : World) :
    Calls Try.prog 57 #[] w fun e w' => ∃ b' u', e = .returned (.agg #[b', u']) ∧ DiskV w' w.heap.size w'.heap.size b' u' newD ∧ Below w.heap.size w w' := by
  have hB : Below w.heap.size w ((w.alloc (.cells #[.slice none 0 0, .slice none 0 0] 25)).alloc (.cells #[.slice none 0 0, .slice none 0 0] 25)) := ((Below.refl w.heap.size w).alloc (Nat.le_refl _) _).alloc (by simp) _
  have hq := two_new w (.cells #[.slice none 0 0, .slice none 0 0] 25) (.cells #[.slice none 0 0, .slice none 0 0] 25)
  have hsW : ((w.alloc (.cells #[.slice none 0 0, .slice none 0 0] 25)).alloc (.cells #[.slice none 0 0, .slice none 0 0] 25)).heap.size = w.heap.size + 2 := by simp
  obtain ⟨W, hW⟩ : ∃ W, (w.alloc (.cells #[.slice none 0 0, .slice none 0 0] 25)).alloc (.cells #[.slice none 0 0, .slice none 0 0] 25) = W := ⟨_, rfl⟩
  rw [hW] at hB hq hsW
  have HWS := Lib.hid hsW
  have HQ := Lib.hid (And.intro hB hq)
  have HWE := Lib.hid hW
  clear hB hq hW hsW
  have hmk : ∀ X : World, (Instr.makeSlice 26 (.int .i64 128) (.int .i64 128)).run Try.prog X = .ok (.slice (some ⟨X.heap.size, 0, none⟩) 128 128) (X.alloc (.cells (madeCells #[.int .u8 0] 128) 5)) := fun X => run_makeN (P := Try.prog) 26 5 (.int .u8 0) #[.int .u8 0] 1 1 Try.underlying26 (by kernel_rfl) rfl 128 128 128 rfl (by decide) (by decide) (by decide) X
  have hz : madeCells #[.int .u8 0] 128 = ((List.replicate 128 (0 : UInt8)).map bV).toArray := by kernel_rfl
  obtain ⟨zx, hzx⟩ : ∃ zx : List UInt8, List.replicate 128 0 = zx := ⟨_, rfl⟩
  rw [hzx] at hz
  generalize madeCells #[.int .u8 0] 128 = Z at *
  have HZX := Lib.hid (And.intro hzx (And.intro hz (show zx.length = 128 by rw [← hzx]; simp)))
  clear hz hzx
  go_enter Try.func57, Try.ntmps57
  go_upto_region 2 with (fail)
  rw [HWE.out]
  clear HWE
  go_wp2_with fail
  go_loopw [2] (fun i wr => ∃ (k : Nat) (a5 : Option Addr) (c5 : Nat), k ≤ 256 ∧ i = .int .i64 k ∧ wr.heap[w.heap.size + 1]? = some (.cells #[.slice a5 (List.replicate k zx).length c5, .slice none 0 0] 25 (0, 0)) ∧
    OwnR rBytes W.heap.size 26 W.heap.size (boxS w.heap.size 2) wr (.slice a5 (List.replicate k zx).length c5) (List.replicate k zx) ∧ (∀ j, j < W.heap.size → j ≠ w.heap.size + 1 → wr.heap[j]? = W.heap[j]?) ∧ W.heap.size ≤ wr.heap.size ∧ Below w.heap.size w wr) (fun i _ => 256 - (intOf i).toNat)
  case atStart => exact ⟨0, none, 0, Nat.zero_le _, rfl, HQ.out.2.2, OwnR.nil_ _ _ _ _ _ _, fun _ _ _ => rfl, Nat.le_refl _, HQ.out.1⟩
  case round =>
  obtain ⟨k, a5, c5, hk, rfl, q5, hown, hsame, hsz, hBw⟩ := hrel
  have hkt : List.replicate (k + 1) zx = List.replicate k zx ++ [zx] := List.replicate_succ'
  have hkll : (List.replicate k zx).length ≤ 256 := by rw [List.length_replicate]; exact hk
  obtain ⟨kl, hkl⟩ : ∃ kl, List.replicate k zx = kl := ⟨_, rfl⟩
  rw [hkl] at q5 hown hkt hkll
  have m0 := blk_cell q5 0
  have m1 := blk_cell q5 1
  simp at m0 m1
  by_cases hlt : k < 256
  · obtain ⟨Pr, hPr⟩ : ∃ Pr : World → Prop, ∀ X, Pr X ↔ ∀ j, j < W.heap.size → X.heap[j]? = wr.heap[j]? := ⟨_, fun _ => Iff.rfl⟩
    have hp0 : Pr wr.drew := (hPr _).2 (fun _ _ => rfl)
    have hS0 : ∀ k, wr.heap.size ≤ k → boxS w.heap.size 2 k = false := fun k hk => boxS_no (by have := HWS.out; omega)
    have x1 := fun X => (blk_cell (((hPr _).1 (selW_pr hp0 X) (w.heap.size + 1) (by have := HWS.out; omega)).trans q5) 0)
    simp at x1
    have HP := Lib.hid (And.intro q5 (And.intro hsame (And.intro hsz (And.intro hBw (And.intro hkt (And.intro hkl (And.intro hown hS0)))))))
    clear q5 hown hsame hsz hBw hkt hkl hS0
    go_wp2_with fail
    refine wp_region_L (S := Kl Pr wr.drew) 6 (by kernel_rfl) (Kl.of hp0) (fun hCl => ?_)
    refine wpAnyL_seg (fuel := 5) (by kernel_rfl) (fun _ d _ _ _ h => by cases d <;> exact h) hCl [0, 1] _ _ _ (by kernel_rfl) (by kernel_rfl) (by kernel_rfl) (by kernel_rfl) ?_
    simp only [opsOf_cons, opsOf_nil, consOp_some, List.getElem?_toArray, List.getElem?_cons_succ, List.getElem?_cons_zero]
    repeat (first | go_big_quiet_step (fail) | quiet_step (fail))
    refine wpQuiet_nil ?_
    refine wpAnyL_each (fuel := 4) [2] (by kernel_rfl) (by simp) (by kernel_rfl) ?_
    refine EachL.cons _ rfl (fun K' hK => ?_) EachL.nil
    go_simp
    have hst : Pr (wr.drew.alloc (.cells Z 5)) := (hPr _).2 (fun j hj => Below.heap_alloc wr.drew _ j (Nat.lt_of_lt_of_le hj HP.out.2.2.1))
    have HST1 := Lib.hid hst
    have hCl : Kl Pr wr.drew _ := Kl.of hst
    refine hK.out (.inr hCl) ?_
    clear hK K'
    refine wpAnyL_each (fuel := 3) [3] (by kernel_rfl) (by simp) (by kernel_rfl) ?_
    refine EachL.cons _ rfl (fun K' hK => ?_) EachL.nil
    go_simp
    have hst : Pr ((wr.drew.alloc (.cells Z 5)).alloc (.cells #[.slice (some ⟨wr.heap.size, 0, none⟩) 128 128] 26)) := (hPr _).2 (fun j hj => (Below.heap_alloc _ _ j (by simp; exact Nat.lt_succ_of_lt (Nat.lt_of_lt_of_le hj HP.out.2.2.1))).trans ((hPr _).1 HST1.out j hj))
    have HST2 := Lib.hid hst
    have hCl : Kl Pr wr.drew _ := Kl.of hst
    refine hK.out (.inr hCl) ?_
    clear hK K'
    refine wpAnyL_each (fuel := 2) [4] (by kernel_rfl) (by simp) (by kernel_rfl) ?_
    refine EachL.cons _ rfl (fun K' hK => ?_) EachL.nil
    refine if_yes (by kernel_rfl) ?_
    obtain ⟨hra, hrb⟩ := row_bytesB (w0 := wr.drew) (x := zx) (T1 := 5) (T2 := 26) HP.out.2.2.2.2.2.2.1 HP.out.2.2.2.2.2.2.2 rfl HP.out.2.2.1 (by rw [HZX.out.2.2]; decide) 128 HZX.out.2.2 Z HZX.out.2.1
    refine wp_appR rBytes_ck (.tmp 8) (.tmp 10) 22 rfl 26 (.slice none 0 0) 24 Try.underlying22 (by kernel_rfl) rfl (by decide) W.heap.size W.heap.size (boxS w.heap.size 2) _ kl [zx] rfl hra (fun k hk => HP.out.2.2.2.2.2.2.2 k (Nat.le_trans (by simp; omega) hk)) ⟨wr.heap.size + 1, 0, none⟩ 1 [.slice (some ⟨wr.heap.size, 0, none⟩) 128 128] rfl rfl (fun j u hu => by have := news_one (w := wr.drew.alloc (.cells Z 5)) #[.slice (some ⟨wr.heap.size, 0, none⟩) 128 128] 26 j u hu; rw [World.size_alloc] at this; exact this) (by intro u hu; simp at hu; rcases hu with rfl; rfl) hrb (by show kl.length + 1 ≤ 1000000; omega) (by decide) (Nat.le_trans HP.out.2.2.1 (by simp; omega)) ?_
    intro a4 c4 z2 hown4 hB4 _hf4
    have hst : Pr z2 := (hPr _).2 (fun j hj => (hB4.block j hj).trans ((hPr _).1 HST2.out j hj))
    rw [show (kl ++ [zx]).length = kl.length + 1 by simp] at hown4 ⊢
    have k5 := ((hPr _).1 hst (w.heap.size + 1) (by have := HWS.out; omega)).trans HP.out.1
    have j1 := blk_cell k5 0
    have jf := blk_frozen k5 0
    simp at j1
    have HO := Lib.hid (And.intro hown4 (And.intro hB4 k5))
    clear hown4 hB4 k5 hra hrb _hf4
    have hCl : Kl Pr wr.drew _ := Kl.of hst
    refine hK.out (.inr hCl) ?_
    clear hK K'
    refine wpAnyL_seg (fuel := 1) (by kernel_rfl) (fun _ d _ _ _ h => by cases d <;> exact h) hCl [5] _ _ _ (by kernel_rfl) (by kernel_rfl) (by kernel_rfl) (by kernel_rfl) ?_
    simp only [opsOf_cons, opsOf_nil, consOp_some, List.getElem?_toArray, List.getElem?_cons_succ, List.getElem?_cons_zero]
    repeat (first | go_big_quiet_step (fail) | quiet_step (fail))
    refine wpQuiet_nil ?_
    refine wpAnyL_each (fuel := 0) [6] (by kernel_rfl) (by simp) (by kernel_rfl) ?_
    refine EachL.cons _ rfl (fun K' hK => ?_) EachL.nil
    go_simp
    refine hK.out (.inl rfl) ?_
    clear hK K'
    refine wpAnyL_done (by kernel_rfl) ?_ _
    go_wp2
    go_roundw
    case rel =>
      obtain ⟨hown4, hB4, k5⟩ := HO.out
      obtain ⟨q5, hsame, hsz, hBw, hkt, hkl, hown, hS0⟩ := HP.out
      have hs := set_other z2 (w.heap.size + 1) 0 (.slice a4 (kl.length + 1) c4)
      have hst2 := (hPr _).1 hst
      have hl : (kl ++ [zx]).length = kl.length + 1 := by simp
      refine ⟨k + 1, a4, c4, by omega, by go_num, ?_, ?_, fun j h1 h2 => (hs j h2).trans ((hst2 j h1).trans (hsame j h1 h2)), ?_, ?_⟩
      · rw [hkt, hl]
        exact set_block k5 0 _
      · rw [hkt, hl]
        exact hown4.setS rBytes_ck ⟨w.heap.size + 1, 0, none⟩ _ (boxS_yes (by show w.heap.size ≤ w.heap.size + 1; omega) (by show w.heap.size + 1 < w.heap.size + 2; omega))
      · rw [World.size_setCell]
        exact Nat.le_trans hsz (Nat.le_trans (by simp; omega) hB4.size)
      · exact (((hBw.drew.alloc (by exact hBw.size) _).alloc (by simp; have := hBw.size; omega) _).trans (hB4.mono HQ.out.1.size)).setCell (p := ⟨w.heap.size + 1, 0, none⟩) (by show w.heap.size ≤ w.heap.size + 1; omega) _
    case measure => simp [intOf]; omega
  obtain rfl : k = 256 := by omega
  have hwl := hown.sl rBytes_ck (lo' := W.heap.size) (Nat.le_refl _) (Nat.le_refl _)
  have q1 := (hsame w.heap.size (by have := HWS.out; omega) (by omega)).trans HQ.out.2.1
  have r0 := blk_cell q1 0
  have r1 := blk_cell q1 1
  have f0 := blk_frozen q1 0
  have f1 := blk_frozen q1 1
  simp at r0 r1
  have hWs := HWS.out
  have HZ := Lib.hid (And.intro hwl (And.intro hsz (And.intro hBw hkl)))
  clear q5 hown hsame hsz hBw q1 hwl hlt hk hkt hkl
  go_wp2
  refine bodyPost_ret (v := .agg #[.slice a5 kl.length c5, .slice none 0 0]) (by simp [results, Try.results57, go_sem, r0, r1]) rfl ?_
  obtain ⟨hwl, hsz, hBw, hkl⟩ := HZ.out
  have hd : newD = ⟨kl, []⟩ := by unfold newD; rw [HZX.out.1, hkl]
  have hk2 : ∀ lo hi, w.heap.size + 2 ≤ lo → Kp lo hi wr ((wr.setCell ⟨w.heap.size, 0, none⟩ (.slice a5 kl.length c5)).setCell ⟨w.heap.size, 1, none⟩ (.slice none 0 0)) := fun lo hi h => kp_two wr _ _ 1 (by omega)
  rw [hd]
  refine ⟨_, _, rfl, ⟨(hwl.keep (hk2 _ _ (by omega))).more (by omega) (by rw [World.size_setCell, World.size_setCell]; exact Nat.le_refl _), Sl.nil_ _ _ _⟩, ?_⟩
  exact (hBw.setCell (p := ⟨w.heap.size, 0, none⟩) (Nat.le_refl _) _).setCell (p := ⟨w.heap.size, 1, none⟩) (Nat.le_refl _) _
end Go.Proofs.Ytkfgegdnpinbdaa

namespace Go.Proofs.Ytkfgegdnpinbdaa
open Go.RowKit

set_option linter.unusedSimpArgs false
theorem storeV_nil (w : World) : StoreV w 0 w.heap.size (.slice none 0 0) (.slice none 0 0) (.slice none 0 0) (.slice none 0 0) noS := ⟨⟨Sl.nil_ _ _ _, Sl.nil_ _ _ _⟩, Bytes.nil_ _ _ _, Bytes.nil_ _ _ _⟩
theorem four_frame (z : World) (r : Nat) (a b c d : Value) : ((((z.setCell ⟨r, 0, none⟩ a).setCell ⟨r, 1, none⟩ b).setCell ⟨r, 2, none⟩ c).setCell ⟨r, 3, none⟩ d).heap.size = z.heap.size ∧
    ∀ x, x < z.heap.size → (x < r ∨ r + 1 ≤ x) → ((((z.setCell ⟨r, 0, none⟩ a).setCell ⟨r, 1, none⟩ b).setCell ⟨r, 2, none⟩ c).setCell ⟨r, 3, none⟩ d).heap[x]? = z.heap[x]? :=
  ⟨by simp only [World.size_setCell], fun x _ h => (set_other _ _ _ _ _ (by omega)).trans ((set_other _ _ _ _ _ (by omega)).trans ((set_other _ _ _ _ _ (by omega)).trans (set_other _ _ _ _ _ (by omega))))⟩
/-- Behind a store into the result's box. -/
theorem got_four {w z : World} {lo hi r : Nat} {b u x y : Value} {s : StoreL} (h : LGS w lo hi b u x y s z) (hB : LW w z) (h1 : w.heap.size ≤ r) (h2 : r + 1 ≤ lo) (a1 a2 a3 a4 : Value) :
    StoreV ((((z.setCell ⟨r, 0, none⟩ a1).setCell ⟨r, 1, none⟩ a2).setCell ⟨r, 2, none⟩ a3).setCell ⟨r, 3, none⟩ a4) 0 ((((z.setCell ⟨r, 0, none⟩ a1).setCell ⟨r, 1, none⟩ a2).setCell ⟨r, 2, none⟩ a3).setCell ⟨r, 3, none⟩ a4).heap.size b u x y s ∧
    Below w.heap.size w ((((z.setCell ⟨r, 0, none⟩ a1).setCell ⟨r, 1, none⟩ a2).setCell ⟨r, 2, none⟩ a3).setCell ⟨r, 3, none⟩ a4) := by
  obtain ⟨hs, hf⟩ := four_frame z r a1 a2 a3 a4
  have hb := Below.trans hB (below_four z a1 a2 a3 a4 h1)
  exact ⟨(LGS.out h (Nat.le_of_eq hs.symm) hf (.inr h2)).v (CKc.below hb), hb⟩
theorem nil_four {w z : World} {r : Nat} (hB : LW w z) (h1 : w.heap.size ≤ r) (a1 a2 a3 a4 : Value) :
    StoreV ((((z.setCell ⟨r, 0, none⟩ a1).setCell ⟨r, 1, none⟩ a2).setCell ⟨r, 2, none⟩ a3).setCell ⟨r, 3, none⟩ a4) 0 ((((z.setCell ⟨r, 0, none⟩ a1).setCell ⟨r, 1, none⟩ a2).setCell ⟨r, 2, none⟩ a3).setCell ⟨r, 3, none⟩ a4).heap.size (.slice none 0 0) (.slice none 0 0) (.slice none 0 0) (.slice none 0 0) noS ∧
    Below w.heap.size w ((((z.setCell ⟨r, 0, none⟩ a1).setCell ⟨r, 1, none⟩ a2).setCell ⟨r, 2, none⟩ a3).setCell ⟨r, 3, none⟩ a4) := ⟨storeV_nil _, Below.trans hB (below_four z a1 a2 a3 a4 h1)⟩
set_option maxRecDepth 100000 in
set_option maxHeartbeats 1000000 in
theorem rstake_any (b_s u_s x_s y_s : Value) (s : StoreL) (v_b : Value) (b : List UInt8) (w : World) (h_s : StoreV w 0 w.heap.size b_s u_s x_s y_s s) (h_b : Bytes w 0 w.heap.size v_b b) :
    Calls Try.prog 10 #[.agg #[b_s, u_s, x_s, y_s], v_b] w fun e w' => ∃ b' u' x' y', e = .returned (.tuple #[.agg #[b', u', x', y'], .int .i64 (atTk s b), .int .i64 (errTk s b)]) ∧ StoreV w' 0 w'.heap.size b' u' x' y' (takeS s b) ∧ Below w.heap.size w w' := by
  have HT := Lib.hid (And.intro h_s h_b)
  obtain ⟨ab_s, cb_s, rfl, gb_s, gc_s, -, -⟩ := h_s.1.1
  obtain ⟨au_s, cu_s, rfl, gu_s, gv_s, -, -⟩ := h_s.1.2
  obtain ⟨ax_s, cx_s, rfl, gx_s, gz_s⟩ := h_s.2.1.form rfl
  obtain ⟨ay_s, cy_s, rfl, gy_s, gw_s⟩ := h_s.2.2.form rfl
  unfold maxLen at gc_s gv_s gz_s gw_s
  obtain ⟨a_b, c_b, rfl, g_b, gm_b⟩ := h_b.form rfl
  unfold maxLen at gm_b
  have hst := (((Below.refl w.heap.size w).alloc (Nat.le_refl _) (.cells #[.slice ab_s s.disk.blocks.length cb_s, .slice au_s s.disk.waits.length cu_s, .slice ax_s s.now.length cx_s, .slice ay_s s.last.length cy_s] 28)).alloc (by simp) (.cells #[.slice none 0 0, .slice none 0 0, .slice none 0 0, .slice none 0 0] 28))
  have hq := two_new w (.cells #[.slice ab_s s.disk.blocks.length cb_s, .slice au_s s.disk.waits.length cu_s, .slice ax_s s.now.length cx_s, .slice ay_s s.last.length cy_s] 28) (.cells #[.slice none 0 0, .slice none 0 0, .slice none 0 0, .slice none 0 0] 28)
  have q_s := LK.of hq.1
  have q_r := LK.of hq.2
  have hB : LW w _ := hst
  have O_s := (LO.of h_s (Nat.le_refl _)).step hst
  have B_b := (LB.of h_b (Nat.le_refl _)).step hst
  have sz_V : w.heap.size + 1 < ((w.alloc (.cells #[.slice ab_s s.disk.blocks.length cb_s, .slice au_s s.disk.waits.length cu_s, .slice ax_s s.now.length cx_s, .slice ay_s s.last.length cy_s] 28)).alloc (.cells #[.slice none 0 0, .slice none 0 0, .slice none 0 0, .slice none 0 0] 28)).heap.size := by simp
  obtain ⟨V, hV⟩ : ∃ V, ((w.alloc (.cells #[.slice ab_s s.disk.blocks.length cb_s, .slice au_s s.disk.waits.length cu_s, .slice ax_s s.now.length cx_s, .slice ay_s s.last.length cy_s] 28)).alloc (.cells #[.slice none 0 0, .slice none 0 0, .slice none 0 0, .slice none 0 0] 28)) = V := ⟨_, rfl⟩
  rw [hV] at sz_V q_s q_r O_s B_b hB
  clear hst h_s h_b hq
  have HQ := Lib.hid (And.intro q_s (And.intro q_r (And.intro O_s (And.intro B_b hB))))
  clear q_s q_r O_s B_b hB
  have c_q_s0 := LK.cell HQ.out.1 0
  have c_q_s1 := LK.cell HQ.out.1 1
  have c_q_s2 := LK.cell HQ.out.1 2
  have c_q_s3 := LK.cell HQ.out.1 3
  have c_q_r0 := LK.cell HQ.out.2.1 0
  have c_q_r1 := LK.cell HQ.out.2.1 1
  have c_q_r2 := LK.cell HQ.out.2.1 2
  have c_q_r3 := LK.cell HQ.out.2.1 3
  simp at c_q_s0 c_q_s1 c_q_s2 c_q_s3 c_q_r0 c_q_r1 c_q_r2 c_q_r3
  have hE := take_cases s b
  have hT := tk_is (s := s) (b := b)
  have k_m := fun V b u x y hh => rsmay_any b u x y s V hh
  have k_t := fun V hc hs hm => rstaken_T _ _ _ _ s _ b V w hc hs HT.out.1 HT.out.2 hm
  generalize atR s = ta at *
  generalize tkR s b = ts at *
  generalize takeS s b = sx at *
  generalize atTk s b = at1 at *
  generalize errTk s b = et at *
  generalize mayS s = mb at *
  have HE := Lib.hid (And.intro hE hT)
  clear hE hT
  have HC := Lib.hid (And.intro k_m k_t)
  clear k_m k_t
  go_enter Try.func10, Try.ntmps10
  go_upto_region 1 with (fail)
  clear hV
  go_wp2_with fail
  refine (HC.out.1 _ _ _ _ _ HQ.out.2.2.1.v).mono ?_
  rintro e w1 ⟨rfl, hst⟩
  clear c_q_s0 c_q_s1 c_q_s2 c_q_s3 c_q_r0 c_q_r1 c_q_r2 c_q_r3
  obtain ⟨q_s, q_r, O_s, B_b, hB⟩ := HQ.out
  clear HQ
  have sz_w1 : V.heap.size ≤ w1.heap.size := hst.size
  replace q_s := q_s.step hst
  replace q_r := q_r.step hst
  replace O_s := O_s.step hst
  replace B_b := B_b.step hst
  replace hB := hB.step hst
  clear hst
  have HQ := Lib.hid (And.intro q_s (And.intro q_r (And.intro O_s (And.intro B_b hB))))
  clear q_s q_r O_s B_b hB
  have c_q_s0 := LK.cell HQ.out.1 0
  have c_q_s1 := LK.cell HQ.out.1 1
  have c_q_s2 := LK.cell HQ.out.1 2
  have c_q_s3 := LK.cell HQ.out.1 3
  have c_q_r0 := LK.cell HQ.out.2.1 0
  have c_q_r1 := LK.cell HQ.out.2.1 1
  have c_q_r2 := LK.cell HQ.out.2.1 2
  have c_q_r3 := LK.cell HQ.out.2.1 3
  simp at c_q_s0 c_q_s1 c_q_s2 c_q_s3 c_q_r0 c_q_r1 c_q_r2 c_q_r3
  rcases HE.out.1 with ⟨rfl, rfl, rfl, rfl⟩ | ⟨rfl, hl, rfl, rfl, rfl⟩ | ⟨rfl, hl, -⟩
  · skip
    clear c_q_s0 c_q_s1 c_q_s2 c_q_s3 c_q_r0 c_q_r1 c_q_r2 c_q_r3
    have c_q_s0 := LK.cell HQ.out.1 0
    have c_q_s1 := LK.cell HQ.out.1 1
    have c_q_s2 := LK.cell HQ.out.1 2
    have c_q_s3 := LK.cell HQ.out.1 3
    have c_q_r0 := LK.cell HQ.out.2.1 0
    have c_q_r1 := LK.cell HQ.out.2.1 1
    have c_q_r2 := LK.cell HQ.out.2.1 2
    have c_q_r3 := LK.cell HQ.out.2.1 3
    have z_q_r0 := LK.frozen HQ.out.2.1 0
    have z_q_r1 := LK.frozen HQ.out.2.1 1
    have z_q_r2 := LK.frozen HQ.out.2.1 2
    have z_q_r3 := LK.frozen HQ.out.2.1 3
    simp at c_q_s0 c_q_s1 c_q_s2 c_q_s3 c_q_r0 c_q_r1 c_q_r2 c_q_r3
    have hBf := HQ.out.2.2.2.2
    go_wp2
    refine bodyPost_ret (v := .tuple #[.agg #[.slice none 0 0, .slice none 0 0, .slice none 0 0, .slice none 0 0], .int .i64 0, .int .i64 8]) (by simp [results, Try.results10, go_sem, c_q_r0, c_q_r1, c_q_r2, c_q_r3]) rfl ⟨_, _, _, _, rfl, nil_four hBf (Nat.le_succ _) _ _ _ _⟩
  · have i1 : ¬ (b.length : Int) = 128 := by omega
    clear c_q_s0 c_q_s1 c_q_s2 c_q_s3 c_q_r0 c_q_r1 c_q_r2 c_q_r3
    have c_q_s0 := LK.cell HQ.out.1 0
    have c_q_s1 := LK.cell HQ.out.1 1
    have c_q_s2 := LK.cell HQ.out.1 2
    have c_q_s3 := LK.cell HQ.out.1 3
    have c_q_r0 := LK.cell HQ.out.2.1 0
    have c_q_r1 := LK.cell HQ.out.2.1 1
    have c_q_r2 := LK.cell HQ.out.2.1 2
    have c_q_r3 := LK.cell HQ.out.2.1 3
    have z_q_r0 := LK.frozen HQ.out.2.1 0
    have z_q_r1 := LK.frozen HQ.out.2.1 1
    have z_q_r2 := LK.frozen HQ.out.2.1 2
    have z_q_r3 := LK.frozen HQ.out.2.1 3
    simp at c_q_s0 c_q_s1 c_q_s2 c_q_s3 c_q_r0 c_q_r1 c_q_r2 c_q_r3
    have hBf := HQ.out.2.2.2.2
    go_wp2
    refine bodyPost_ret (v := .tuple #[.agg #[.slice none 0 0, .slice none 0 0, .slice none 0 0, .slice none 0 0], .int .i64 0, .int .i64 3]) (by simp [results, Try.results10, go_sem, c_q_r0, c_q_r1, c_q_r2, c_q_r3]) rfl ⟨_, _, _, _, rfl, nil_four hBf (Nat.le_succ _) _ _ _ _⟩
  have hT := HE.out.2 (by trivial) hl
  have i1 : (b.length : Int) = 128 := by omega
  have HL := Lib.hid hl
  have HTT := Lib.hid hT
  clear hl hT
  go_wp2_with fail
  refine (HC.out.2 _ (CKc.below HQ.out.2.2.2.2) (Below.size HQ.out.2.2.2.2) (by trivial)).mono ?_
  rintro e w2 ⟨b1, u1, x1, y1, rfl, hg⟩
  clear c_q_s0 c_q_s1 c_q_s2 c_q_s3 c_q_r0 c_q_r1 c_q_r2 c_q_r3
  obtain ⟨q_s, q_r, O_s, B_b, hB⟩ := HQ.out
  clear HQ
  have hv := hg.got (CKc.below hB)
  obtain ⟨ab_t, cb_t, rfl, -, -, -, -⟩ := hv.1.1
  obtain ⟨au_t, cu_t, rfl, -, -, -, -⟩ := hv.1.2
  obtain ⟨ax_t, cx_t, rfl, -, -⟩ := hv.2.1.form rfl
  obtain ⟨ay_t, cy_t, rfl, -, -⟩ := hv.2.2.form rfl
  have hst := hg.below
  have G_t := LGS.of hg
  clear hg hv
  have sz_w2 : w1.heap.size ≤ w2.heap.size := hst.size
  replace q_s := q_s.step hst
  replace q_r := q_r.step hst
  replace O_s := O_s.step hst
  replace B_b := B_b.step hst
  replace hB := hB.step hst
  clear hst
  have HQ := Lib.hid (And.intro q_s (And.intro q_r (And.intro O_s (And.intro B_b (And.intro G_t hB)))))
  clear q_s q_r O_s B_b G_t hB
  have c_q_s0 := LK.cell HQ.out.1 0
  have c_q_s1 := LK.cell HQ.out.1 1
  have c_q_s2 := LK.cell HQ.out.1 2
  have c_q_s3 := LK.cell HQ.out.1 3
  have c_q_r0 := LK.cell HQ.out.2.1 0
  have c_q_r1 := LK.cell HQ.out.2.1 1
  have c_q_r2 := LK.cell HQ.out.2.1 2
  have c_q_r3 := LK.cell HQ.out.2.1 3
  simp at c_q_s0 c_q_s1 c_q_s2 c_q_s3 c_q_r0 c_q_r1 c_q_r2 c_q_r3
  go_upto_region 6 with (fail)
  clear c_q_s0 c_q_s1 c_q_s2 c_q_s3 c_q_r0 c_q_r1 c_q_r2 c_q_r3
  obtain ⟨q_s, q_r, O_s, B_b, G_t, hB⟩ := HQ.out
  clear HQ
  have hst := (Below.refl w2.heap.size w2).alloc (Nat.le_refl _) (.cells #[.slice ab_t ts.disk.blocks.length cb_t, .slice au_t ts.disk.waits.length cu_t, .slice ax_t ts.now.length cx_t, .slice ay_t ts.last.length cy_t] 28)
  have hlt : w2.heap.size < (w2.alloc (.cells #[.slice ab_t ts.disk.blocks.length cb_t, .slice au_t ts.disk.waits.length cu_t, .slice ax_t ts.now.length cx_t, .slice ay_t ts.last.length cy_t] 28)).heap.size := by simp
  have q_t := LK.new w2 (.cells #[.slice ab_t ts.disk.blocks.length cb_t, .slice au_t ts.disk.waits.length cu_t, .slice ax_t ts.now.length cx_t, .slice ay_t ts.last.length cy_t] 28)
  replace q_s := q_s.step hst
  replace q_r := q_r.step hst
  replace O_s := O_s.step hst
  replace B_b := B_b.step hst
  replace G_t := G_t.step hst
  replace hB := hB.step hst
  obtain ⟨w3, hw⟩ : ∃ v, w2.alloc (.cells #[.slice ab_t ts.disk.blocks.length cb_t, .slice au_t ts.disk.waits.length cu_t, .slice ax_t ts.now.length cx_t, .slice ay_t ts.last.length cy_t] 28) = v := ⟨_, rfl⟩
  rw [hw] at hlt q_t q_s q_r O_s B_b G_t hB ⊢
  clear hw hst
  have sz_w3 := hlt
  clear hlt
  have HQ := Lib.hid (And.intro q_s (And.intro q_r (And.intro O_s (And.intro B_b (And.intro G_t (And.intro q_t hB))))))
  clear q_s q_r O_s B_b G_t q_t hB
  have c_q_s0 := LK.cell HQ.out.1 0
  have c_q_s1 := LK.cell HQ.out.1 1
  have c_q_s2 := LK.cell HQ.out.1 2
  have c_q_s3 := LK.cell HQ.out.1 3
  have c_q_r0 := LK.cell HQ.out.2.1 0
  have c_q_r1 := LK.cell HQ.out.2.1 1
  have c_q_r2 := LK.cell HQ.out.2.1 2
  have c_q_r3 := LK.cell HQ.out.2.1 3
  have c_q_t0 := LK.cell HQ.out.2.2.2.2.2.1 0
  have c_q_t1 := LK.cell HQ.out.2.2.2.2.2.1 1
  have c_q_t2 := LK.cell HQ.out.2.2.2.2.2.1 2
  have c_q_t3 := LK.cell HQ.out.2.2.2.2.2.1 3
  simp at c_q_s0 c_q_s1 c_q_s2 c_q_s3 c_q_r0 c_q_r1 c_q_r2 c_q_r3 c_q_t0 c_q_t1 c_q_t2 c_q_t3
  rcases HTT.out with ⟨ht, rfl, rfl, rfl⟩ | ⟨ht, rfl, rfl, rfl⟩
  · have i2 : ta < 0 := ht
    clear c_q_s0 c_q_s1 c_q_s2 c_q_s3 c_q_r0 c_q_r1 c_q_r2 c_q_r3 c_q_t0 c_q_t1 c_q_t2 c_q_t3
    have c_q_s0 := LK.cell HQ.out.1 0
    have c_q_s1 := LK.cell HQ.out.1 1
    have c_q_s2 := LK.cell HQ.out.1 2
    have c_q_s3 := LK.cell HQ.out.1 3
    have c_q_r0 := LK.cell HQ.out.2.1 0
    have c_q_r1 := LK.cell HQ.out.2.1 1
    have c_q_r2 := LK.cell HQ.out.2.1 2
    have c_q_r3 := LK.cell HQ.out.2.1 3
    have z_q_r0 := LK.frozen HQ.out.2.1 0
    have z_q_r1 := LK.frozen HQ.out.2.1 1
    have z_q_r2 := LK.frozen HQ.out.2.1 2
    have z_q_r3 := LK.frozen HQ.out.2.1 3
    simp at c_q_s0 c_q_s1 c_q_s2 c_q_s3 c_q_r0 c_q_r1 c_q_r2 c_q_r3
    have hBf := HQ.out.2.2.2.2.2.2
    go_wp2
    refine bodyPost_ret (v := .tuple #[.agg #[.slice none 0 0, .slice none 0 0, .slice none 0 0, .slice none 0 0], .int .i64 0, .int .i64 9]) (by simp [results, Try.results10, go_sem, c_q_r0, c_q_r1, c_q_r2, c_q_r3]) rfl ⟨_, _, _, _, rfl, nil_four hBf (Nat.le_succ _) _ _ _ _⟩
  have i2 : ¬ at1 < 0 := by omega
  clear ht
  clear c_q_s0 c_q_s1 c_q_s2 c_q_s3 c_q_r0 c_q_r1 c_q_r2 c_q_r3 c_q_t0 c_q_t1 c_q_t2 c_q_t3
  have c_q_r0 := LK.cell HQ.out.2.1 0
  have c_q_r1 := LK.cell HQ.out.2.1 1
  have c_q_r2 := LK.cell HQ.out.2.1 2
  have c_q_r3 := LK.cell HQ.out.2.1 3
  have z_q_r0 := LK.frozen HQ.out.2.1 0
  have z_q_r1 := LK.frozen HQ.out.2.1 1
  have z_q_r2 := LK.frozen HQ.out.2.1 2
  have z_q_r3 := LK.frozen HQ.out.2.1 3
  have c_q_t0 := LK.cell HQ.out.2.2.2.2.2.1 0
  have c_q_t1 := LK.cell HQ.out.2.2.2.2.2.1 1
  have c_q_t2 := LK.cell HQ.out.2.2.2.2.2.1 2
  have c_q_t3 := LK.cell HQ.out.2.2.2.2.2.1 3
  simp at c_q_r0 c_q_r1 c_q_r2 c_q_r3 c_q_t0 c_q_t1 c_q_t2 c_q_t3
  have hBf := HQ.out.2.2.2.2.2.2
  have hG := HQ.out.2.2.2.2.1
  go_wp2
  refine bodyPost_ret (v := .tuple #[.agg #[.slice ab_t sx.disk.blocks.length cb_t, .slice au_t sx.disk.waits.length cu_t, .slice ax_t sx.now.length cx_t, .slice ay_t sx.last.length cy_t], .int .i64 at1, .int .i64 0]) (by simp [results, Try.results10, go_sem, c_q_r0, c_q_r1, c_q_r2, c_q_r3]) rfl ⟨_, _, _, _, rfl, got_four hG hBf (Nat.le_succ _) (by omega) _ _ _ _⟩

set_option maxRecDepth 100000 in
set_option maxHeartbeats 2000000 in
theorem rsshare_any (b_s u_s x_s y_s : Value) (s : StoreL) (p : Int) (w : World) (h_s : StoreV w 0 w.heap.size b_s u_s x_s y_s s) :
    Calls Try.prog 12 #[.agg #[b_s, u_s, x_s, y_s], .int .i64 p] w fun e w' => ∃ b' u' x' y', e = .returned (.tuple #[.agg #[b', u', x', y'], .int .i64 (errSh s p)]) ∧ StoreV w' 0 w'.heap.size b' u' x' y' (shareS s p) ∧ Below w.heap.size w w' := by
  have HT := Lib.hid h_s
  obtain ⟨ab_s, cb_s, rfl, gb_s, gc_s, -, -⟩ := h_s.1.1
  obtain ⟨au_s, cu_s, rfl, gu_s, gv_s, -, -⟩ := h_s.1.2
  obtain ⟨ax_s, cx_s, rfl, gx_s, gz_s⟩ := h_s.2.1.form rfl
  obtain ⟨ay_s, cy_s, rfl, gy_s, gw_s⟩ := h_s.2.2.form rfl
  unfold maxLen at gc_s gv_s gz_s gw_s
  have hst := (((Below.refl w.heap.size w).alloc (Nat.le_refl _) (.cells #[.slice ab_s s.disk.blocks.length cb_s, .slice au_s s.disk.waits.length cu_s, .slice ax_s s.now.length cx_s, .slice ay_s s.last.length cy_s] 28)).alloc (by simp) (.cells #[.slice none 0 0, .slice none 0 0, .slice none 0 0, .slice none 0 0] 28))
  have hq := two_new w (.cells #[.slice ab_s s.disk.blocks.length cb_s, .slice au_s s.disk.waits.length cu_s, .slice ax_s s.now.length cx_s, .slice ay_s s.last.length cy_s] 28) (.cells #[.slice none 0 0, .slice none 0 0, .slice none 0 0, .slice none 0 0] 28)
  have q_s := LK.of hq.1
  have q_r := LK.of hq.2
  have hB : LW w _ := hst
  have O_s := (LO.of h_s (Nat.le_refl _)).step hst
  have sz_V : w.heap.size + 1 < ((w.alloc (.cells #[.slice ab_s s.disk.blocks.length cb_s, .slice au_s s.disk.waits.length cu_s, .slice ax_s s.now.length cx_s, .slice ay_s s.last.length cy_s] 28)).alloc (.cells #[.slice none 0 0, .slice none 0 0, .slice none 0 0, .slice none 0 0] 28)).heap.size := by simp
  obtain ⟨V, hV⟩ : ∃ V, ((w.alloc (.cells #[.slice ab_s s.disk.blocks.length cb_s, .slice au_s s.disk.waits.length cu_s, .slice ax_s s.now.length cx_s, .slice ay_s s.last.length cy_s] 28)).alloc (.cells #[.slice none 0 0, .slice none 0 0, .slice none 0 0, .slice none 0 0] 28)) = V := ⟨_, rfl⟩
  rw [hV] at sz_V q_s q_r O_s hB
  clear hst h_s hq
  have HQ := Lib.hid (And.intro q_s (And.intro q_r (And.intro O_s hB)))
  clear q_s q_r O_s hB
  have c_q_s0 := LK.cell HQ.out.1 0
  have c_q_s1 := LK.cell HQ.out.1 1
  have c_q_s2 := LK.cell HQ.out.1 2
  have c_q_s3 := LK.cell HQ.out.1 3
  have c_q_r0 := LK.cell HQ.out.2.1 0
  have c_q_r1 := LK.cell HQ.out.2.1 1
  have c_q_r2 := LK.cell HQ.out.2.1 2
  have c_q_r3 := LK.cell HQ.out.2.1 3
  simp at c_q_s0 c_q_s1 c_q_s2 c_q_s3 c_q_r0 c_q_r1 c_q_r2 c_q_r3
  have he : errSh s p = if errAs s p ≠ 0 then errAs s p else if s.now.getD p.toNat 0 = 255 then 70 else 0 := rfl
  have hsh : shareS s p = if errSh s p = 0 then ⟨s.disk, s.now.set p.toNat (s.now.getD p.toNat 0 + 1), s.last⟩ else noS := rfl
  have hz := fun h => errAs_zero (s := s) (p := p) h
  have hl : mayS s = true → s.now.length = 256 := fun hm => mayT_len (mayS_iff.1 hm).2.1
  have k_a := fun V b u x y hh => rsasked_any b u x y s p V hh
  generalize shareS s p = ss at *
  generalize errSh s p = es at *
  generalize errAs s p = ea at *
  have HE := Lib.hid (And.intro he (And.intro hsh (And.intro hz hl)))
  clear he hsh hz hl
  have HC := Lib.hid (k_a)
  clear k_a
  go_enter Try.func12, Try.ntmps12
  go_upto_region 1 with (fail)
  clear hV
  go_wp2_with fail
  refine (HC.out _ _ _ _ _ HQ.out.2.2.1.v).mono ?_
  rintro e w1 ⟨rfl, hst⟩
  clear c_q_s0 c_q_s1 c_q_s2 c_q_s3 c_q_r0 c_q_r1 c_q_r2 c_q_r3
  obtain ⟨q_s, q_r, O_s, hB⟩ := HQ.out
  clear HQ
  have sz_w1 : V.heap.size ≤ w1.heap.size := hst.size
  replace q_s := q_s.step hst
  replace q_r := q_r.step hst
  replace O_s := O_s.step hst
  replace hB := hB.step hst
  clear hst
  have HQ := Lib.hid (And.intro q_s (And.intro q_r (And.intro O_s hB)))
  clear q_s q_r O_s hB
  have c_q_s0 := LK.cell HQ.out.1 0
  have c_q_s1 := LK.cell HQ.out.1 1
  have c_q_s2 := LK.cell HQ.out.1 2
  have c_q_s3 := LK.cell HQ.out.1 3
  have c_q_r0 := LK.cell HQ.out.2.1 0
  have c_q_r1 := LK.cell HQ.out.2.1 1
  have c_q_r2 := LK.cell HQ.out.2.1 2
  have c_q_r3 := LK.cell HQ.out.2.1 3
  simp at c_q_s0 c_q_s1 c_q_s2 c_q_s3 c_q_r0 c_q_r1 c_q_r2 c_q_r3
  by_cases he : ea = 0
  case neg =>
    obtain ⟨h1, h2, -⟩ := HE.out
    rw [if_pos he] at h1
    subst h1
    rw [if_neg he] at h2
    subst h2
    have i1 : (es != 0) = true := by simp [he]
    clear c_q_s0 c_q_s1 c_q_s2 c_q_s3 c_q_r0 c_q_r1 c_q_r2 c_q_r3
    have c_q_s0 := LK.cell HQ.out.1 0
    have c_q_s1 := LK.cell HQ.out.1 1
    have c_q_s2 := LK.cell HQ.out.1 2
    have c_q_s3 := LK.cell HQ.out.1 3
    have c_q_r0 := LK.cell HQ.out.2.1 0
    have c_q_r1 := LK.cell HQ.out.2.1 1
    have c_q_r2 := LK.cell HQ.out.2.1 2
    have c_q_r3 := LK.cell HQ.out.2.1 3
    have z_q_r0 := LK.frozen HQ.out.2.1 0
    have z_q_r1 := LK.frozen HQ.out.2.1 1
    have z_q_r2 := LK.frozen HQ.out.2.1 2
    have z_q_r3 := LK.frozen HQ.out.2.1 3
    simp at c_q_s0 c_q_s1 c_q_s2 c_q_s3 c_q_r0 c_q_r1 c_q_r2 c_q_r3
    have hBf := HQ.out.2.2.2
    go_wp2
    refine bodyPost_ret (v := .tuple #[.agg #[.slice none 0 0, .slice none 0 0, .slice none 0 0, .slice none 0 0], .int .i64 es]) (by simp [results, Try.results12, go_sem, c_q_r0, c_q_r1, c_q_r2, c_q_r3]) rfl ⟨_, _, _, _, rfl, nil_four hBf (Nat.le_succ _) _ _ _ _⟩
  subst he
  obtain ⟨h1, h2, h3, h4⟩ := HE.out
  obtain ⟨hm, p8, p9, hn0⟩ := h3 rfl
  replace h4 := h4 hm
  rw [if_neg (by simp)] at h1
  clear HE h3 hm
  obtain ⟨q, rfl⟩ : ∃ q : Nat, p = q := ⟨p.toNat, by omega⟩
  rw [Int.toNat_natCast] at h1 h2 hn0
  have q8 : 8 ≤ q := by omega
  have q9 : q < 256 := by omega
  clear p8 p9
  obtain ⟨bn, on_, cn, e1, -, zn, zn1, zn2, hcn⟩ := HQ.out.2.2.1.n.at_n h4 (by omega)
  injection e1 with e1 e3 e2
  subst e1 e2
  have cq := hcn q (s.now.getD q 0) (get_l _ _ _ (by omega))
  unfold maxLen at zn2
  have iq : ¬ (s.now.length : Int) ≤ (q : Int) := by omega
  have iq2 : (q : Int) < s.now.length := by omega
  simp only [bV] at cq
  have S_c : Lv 0 w.heap.size (fun W => W.cell? ⟨bn, on_ + q, none⟩ = some (bV (s.now.getD q 0))) w1 := Lv.imp HQ.out.2.2.1 fun W hW => by
    obtain ⟨b1, o1, c1, e1, -, y1, y2, y3, hc⟩ := hW.2.1.at_n h4 (by omega)
    injection e1 with e1 e2 e3
    injection e1 with e1
    injection e1 with e4 e5
    subst e4 e5
    exact hc q _ (get_l _ _ _ (by omega))
  simp only [bV] at S_c
  generalize s.now.getD q 0 = x at *
  have HX := Lib.hid (And.intro h1 (And.intro h2 h4))
  clear h1 h2 h4 hcn e3 hn0
  obtain ⟨q_s, q_r, O_s, hB⟩ := HQ.out
  clear HQ
  have HQ := Lib.hid (And.intro q_s (And.intro q_r (And.intro O_s (And.intro S_c hB))))
  clear q_s q_r O_s S_c hB
  clear c_q_s0 c_q_s1 c_q_s2 c_q_s3 c_q_r0 c_q_r1 c_q_r2 c_q_r3
  have c_q_s0 := LK.cell HQ.out.1 0
  have c_q_s1 := LK.cell HQ.out.1 1
  have c_q_s2 := LK.cell HQ.out.1 2
  have c_q_s3 := LK.cell HQ.out.1 3
  have c_q_r0 := LK.cell HQ.out.2.1 0
  have c_q_r1 := LK.cell HQ.out.2.1 1
  have c_q_r2 := LK.cell HQ.out.2.1 2
  have c_q_r3 := LK.cell HQ.out.2.1 3
  simp at c_q_s0 c_q_s1 c_q_s2 c_q_s3 c_q_r0 c_q_r1 c_q_r2 c_q_r3
  by_cases hx : x = 255
  case pos =>
    obtain ⟨h1, h2, -⟩ := HX.out
    rw [if_pos hx] at h1
    subst h1
    rw [if_neg (by decide)] at h2
    subst h2
    subst hx
    clear c_q_s0 c_q_s1 c_q_s2 c_q_s3 c_q_r0 c_q_r1 c_q_r2 c_q_r3
    have c_q_s0 := LK.cell HQ.out.1 0
    have c_q_s1 := LK.cell HQ.out.1 1
    have c_q_s2 := LK.cell HQ.out.1 2
    have c_q_s3 := LK.cell HQ.out.1 3
    have c_q_r0 := LK.cell HQ.out.2.1 0
    have c_q_r1 := LK.cell HQ.out.2.1 1
    have c_q_r2 := LK.cell HQ.out.2.1 2
    have c_q_r3 := LK.cell HQ.out.2.1 3
    have z_q_r0 := LK.frozen HQ.out.2.1 0
    have z_q_r1 := LK.frozen HQ.out.2.1 1
    have z_q_r2 := LK.frozen HQ.out.2.1 2
    have z_q_r3 := LK.frozen HQ.out.2.1 3
    simp at c_q_s0 c_q_s1 c_q_s2 c_q_s3 c_q_r0 c_q_r1 c_q_r2 c_q_r3
    have hBf := HQ.out.2.2.2.2
    go_wp2
    refine bodyPost_ret (v := .tuple #[.agg #[.slice none 0 0, .slice none 0 0, .slice none 0 0, .slice none 0 0], .int .i64 70]) (by simp [results, Try.results12, go_sem, c_q_r0, c_q_r1, c_q_r2, c_q_r3]) rfl ⟨_, _, _, _, rfl, nil_four hBf (Nat.le_succ _) _ _ _ _⟩
  have ix : ((x.toNat : Int) == 255) = false := by
    rw [beq_eq_false_iff_ne]
    intro e
    exact hx (UInt8.toNat_inj.1 (by have : x.toNat = 255 := by omega
                                    rw [this]; rfl))
  obtain ⟨h1, h2, h4⟩ := HX.out
  rw [if_neg hx] at h1
  subst h1
  rw [if_pos rfl] at h2
  have HSS := Lib.hid (And.intro h2 h4)
  clear h2 h4 HX
  have hx9 : x.toNat + 1 < 256 := by have := x.toNat_lt; have : x.toNat ≠ 255 := fun e => hx (UInt8.toNat_inj.1 (by rw [e]; rfl)); omega
  have hxa : ((x + 1).toNat : Int) = (x.toNat : Int) + 1 := by rw [UInt8.toNat_add]; have : (1 : UInt8).toNat = 1 := rfl; rw [this]; omega
  have hxm : ((x.toNat : Int) + 1) % 256 = (x.toNat : Int) + 1 := by omega
  have i6 : IntKind.u8.wrap ((x.toNat : Int) + 1) = (x.toNat : Int) + 1 := by rw [IntKind.wrap_u8]; omega
  have k5 := fun V v hh => rwitht_any v s.now q (x + 1) V hh HSS.out.2 q9
  simp only [bV, hxa] at k5
  have K5 := Lib.hid k5
  clear hx hx9 k5 hxm hxa
  go_upto_region 6 with (fail)
  clear c_q_s0 c_q_s1 c_q_s2 c_q_s3 c_q_r0 c_q_r1 c_q_r2 c_q_r3
  clear cq
  obtain ⟨Pr, hPr⟩ : ∃ Pr : World → Prop, ∀ X, Pr X ↔ Below w1.heap.size w1 X := ⟨_, fun _ => Iff.rfl⟩
  have hp0 : Pr w1.drew := (hPr _).2 (Below.refl _ w1).drew
  have x0 := fun X => LK.cell (HQ.out.1.step ((hPr _).1 (selW_pr hp0 X))) 0
  have x1 := fun X => LK.cell (HQ.out.1.step ((hPr _).1 (selW_pr hp0 X))) 1
  have x2 := fun X => LK.cell (HQ.out.1.step ((hPr _).1 (selW_pr hp0 X))) 2
  have x3 := fun X => LK.cell (HQ.out.1.step ((hPr _).1 (selW_pr hp0 X))) 3
  simp at x0 x1 x2 x3
  have xc := fun X => Lv.get (Lv.step HQ.out.2.2.2.1 ((hPr _).1 (selW_pr hp0 X)))
  refine wp_region_L (S := Kl Pr w1.drew) 11 (by kernel_rfl) (Kl.of hp0) (fun hCl => ?_)
  refine wpAnyL_seg (fuel := 3) (by kernel_rfl) (fun _ d _ _ _ h => by cases d <;> exact h) hCl [0, 1, 2, 3, 4, 5, 6, 7, 8] _ _ _ (by kernel_rfl) (by kernel_rfl) (by kernel_rfl) (by kernel_rfl) ?_
  simp only [opsOf_cons, opsOf_nil, consOp_some, List.getElem?_toArray, List.getElem?_cons_succ, List.getElem?_cons_zero]
  repeat (first | go_big_quiet_step (fail) | quiet_step (fail))
  refine wpQuiet_nil ?_
  refine wpAnyL_each (fuel := 2) [9] (by kernel_rfl) (by simp) (by kernel_rfl) ?_
  refine EachL.cons _ rfl (fun K' hK => ?_) EachL.nil
  go_simp
  refine (K5.out _ _ (HQ.out.2.2.1.step (Below.refl _ w1).drew).n).mono ?_
  rintro e z5 ⟨u1, rfl, hg⟩
  obtain ⟨ax_n, cx_n, rfl, -, -⟩ := hg.bytes.form rfl
  have hst4 : Below w1.heap.size w1 z5 := (Below.refl _ w1).drew.trans hg.below
  have hst := (hPr _).2 hst4
  have HG := Lib.hid (And.intro hg hst4)
  clear hg hst4
  have hCl : Kl Pr w1.drew _ := Kl.of hst
  refine hK.out (.inr hCl) ?_
  clear hK K'
  refine wpAnyL_seg (fuel := 1) (by kernel_rfl) (fun _ d _ _ _ h => by cases d <;> exact h) hCl [10] _ _ _ (by kernel_rfl) (by kernel_rfl) (by kernel_rfl) (by kernel_rfl) ?_
  simp only [opsOf_cons, opsOf_nil, consOp_some, List.getElem?_toArray, List.getElem?_cons_succ, List.getElem?_cons_zero]
  repeat (first | go_big_quiet_step (fail) | quiet_step (fail))
  refine wpQuiet_nil ?_
  refine wpAnyL_each (fuel := 0) [11] (by kernel_rfl) (by simp) (by kernel_rfl) ?_
  refine EachL.cons _ rfl (fun K' hK => ?_) EachL.nil
  have r0 := LK.cell (HQ.out.1.step HG.out.2) 0
  have r1 := LK.cell (HQ.out.1.step HG.out.2) 1
  have r2 := LK.cell (HQ.out.1.step HG.out.2) 2
  have r3 := LK.cell (HQ.out.1.step HG.out.2) 3
  simp at r0 r1 r2 r3
  have s0 := LK.frozen (HQ.out.1.step HG.out.2) 0
  have s1 := LK.frozen (HQ.out.1.step HG.out.2) 1
  have s2 := LK.frozen (HQ.out.1.step HG.out.2) 2
  have s3 := LK.frozen (HQ.out.1.step HG.out.2) 3
  go_simp
  refine hK.out (.inl rfl) ?_
  clear hK K'
  refine wpAnyL_done (by kernel_rfl) ?_ _
  clear x0 x1 x2 x3 xc r0 r1 r2 r3 s0 s1 s2 s3
  obtain ⟨q_s, q_r, O_s, S_c, hB⟩ := HQ.out
  clear HQ
  have B_n := LM.of HG.out.1
  change LM w1.heap.size _ _ _ _ at B_n
  simp only [List.length_set] at B_n
  have hst := HG.out.2
  have sz_z5 : w1.heap.size ≤ z5.heap.size := hst.size
  replace q_s := q_s.step hst
  replace q_r := q_r.step hst
  replace O_s := O_s.step hst
  replace S_c := S_c.step hst
  replace hB := hB.step hst
  clear hst hCl
  have HQ := Lib.hid (And.intro q_s (And.intro q_r (And.intro O_s (And.intro S_c (And.intro B_n hB)))))
  clear q_s q_r O_s S_c B_n hB
  obtain ⟨q_s, q_r, O_s, S_c, B_n, hB⟩ := HQ.out
  clear HQ
  have hcb := LK.blk q_s
  have hF : LK (w.heap.size) (.cells #[.slice ab_s s.disk.blocks.length cb_s, .slice au_s s.disk.waits.length cu_s, .slice ax_n s.now.length cx_n, .slice ay_s s.last.length cy_s] 28) (z5.setCell ⟨w.heap.size, 2, none⟩ (.slice ax_n s.now.length cx_n)) := LK.of (set_block hcb 2 _)
  have hbel : Below (w.heap.size) z5 (z5.setCell ⟨w.heap.size, 2, none⟩ (.slice ax_n s.now.length cx_n)) := (Below.refl _ z5).setCell (p := ⟨w.heap.size, 2, none⟩) (Nat.le_refl _) _
  have hfr : ∀ x, x < z5.heap.size → (x < w.heap.size ∨ w.heap.size + 1 ≤ x) → (z5.setCell ⟨w.heap.size, 2, none⟩ (.slice ax_n s.now.length cx_n)).heap[x]? = z5.heap[x]? := fun x _ h => (set_other _ _ _ _ _ (by omega))
  have hs4 : (z5.setCell ⟨w.heap.size, 2, none⟩ (.slice ax_n s.now.length cx_n)).heap.size = z5.heap.size := by simp only [World.size_setCell]
  replace q_r := q_r.out (Nat.le_of_eq hs4.symm) hfr (by omega)
  replace O_s := O_s.out (Nat.le_of_eq hs4.symm) hfr (by omega)
  replace S_c := S_c.out (Nat.le_of_eq hs4.symm) hfr (by omega)
  replace B_n := B_n.out (Nat.le_of_eq hs4.symm) hfr (by omega)
  replace hB := hB.outB hbel (by omega)
  replace q_s := hF
  obtain ⟨w2, hw⟩ : ∃ v, (z5.setCell ⟨w.heap.size, 2, none⟩ (.slice ax_n s.now.length cx_n)) = v := ⟨_, rfl⟩
  rw [hw] at hs4 q_s q_r O_s S_c B_n hB ⊢
  have sz_w2 := Nat.le_of_eq hs4
  have sy_w2 := Nat.le_of_eq hs4.symm
  clear hw hF hbel hfr hcb hs4
  have HQ := Lib.hid (And.intro q_s (And.intro q_r (And.intro O_s (And.intro S_c (And.intro B_n hB)))))
  clear q_s q_r O_s S_c B_n hB
  have c_q_s0 := LK.cell HQ.out.1 0
  have c_q_s1 := LK.cell HQ.out.1 1
  have c_q_s2 := LK.cell HQ.out.1 2
  have c_q_s3 := LK.cell HQ.out.1 3
  have c_q_r0 := LK.cell HQ.out.2.1 0
  have c_q_r1 := LK.cell HQ.out.2.1 1
  have c_q_r2 := LK.cell HQ.out.2.1 2
  have c_q_r3 := LK.cell HQ.out.2.1 3
  simp at c_q_s0 c_q_s1 c_q_s2 c_q_s3 c_q_r0 c_q_r1 c_q_r2 c_q_r3
  clear c_q_s0 c_q_s1 c_q_s2 c_q_s3 c_q_r0 c_q_r1 c_q_r2 c_q_r3
  have c_q_s0 := LK.cell HQ.out.1 0
  have c_q_s1 := LK.cell HQ.out.1 1
  have c_q_s2 := LK.cell HQ.out.1 2
  have c_q_s3 := LK.cell HQ.out.1 3
  have c_q_r0 := LK.cell HQ.out.2.1 0
  have c_q_r1 := LK.cell HQ.out.2.1 1
  have c_q_r2 := LK.cell HQ.out.2.1 2
  have c_q_r3 := LK.cell HQ.out.2.1 3
  have z_q_r0 := LK.frozen HQ.out.2.1 0
  have z_q_r1 := LK.frozen HQ.out.2.1 1
  have z_q_r2 := LK.frozen HQ.out.2.1 2
  have z_q_r3 := LK.frozen HQ.out.2.1 3
  simp at c_q_s0 c_q_s1 c_q_s2 c_q_s3 c_q_r0 c_q_r1 c_q_r2 c_q_r3
  have szr := LK.lt HQ.out.2.1
  have hO := HQ.out.2.2.1
  have hBn := HQ.out.2.2.2.2.1
  have hBf := HQ.out.2.2.2.2.2
  have HF := Lib.hid (And.intro hO (And.intro hBn hBf))
  clear hO hBn hBf
  go_wp2
  refine bodyPost_ret (v := .tuple #[.agg #[.slice ab_s s.disk.blocks.length cb_s, .slice au_s s.disk.waits.length cu_s, .slice ax_n s.now.length cx_n, .slice ay_s s.last.length cy_s], .int .i64 0]) (by simp [results, Try.results12, go_sem, c_q_r0, c_q_r1, c_q_r2, c_q_r3]) rfl ⟨_, _, _, _, rfl, ?_⟩
  rw [HSS.out.1]
  obtain ⟨hO, hBn, hBf⟩ := HF.out
  obtain ⟨hs, hf⟩ := four_frame w2 (w.heap.size + 1) (.slice ab_s s.disk.blocks.length cb_s) (.slice au_s s.disk.waits.length cu_s) (.slice ax_n s.now.length cx_n) (.slice ay_s s.last.length cy_s)
  have hO2 := hO.out (Nat.le_of_eq hs.symm) hf (.inl (Nat.le_succ _))
  have hB2 := hBn.out (Nat.le_of_eq hs.symm) hf (.inr (by omega))
  exact ⟨⟨hO2.v.1, hB2.v, hO2.v.2.2⟩, Below.trans hBf (below_four w2 _ _ _ _ (Nat.le_succ _))⟩

set_option maxRecDepth 100000 in
set_option maxHeartbeats 1000000 in
theorem rsnode_any (b_s u_s x_s y_s : Value) (s : StoreL) (p : Int) (w : World) (h_s : StoreV w 0 w.heap.size b_s u_s x_s y_s s) :
    Calls Try.prog 14 #[.agg #[b_s, u_s, x_s, y_s], .int .i64 p] w fun e w' => ∃ v, e = .returned (.tuple #[.agg #[.int .i64 (nodeS s p).level, v], .int .i64 (errSn s p)]) ∧ Sl rItem w' 0 w'.heap.size v (nodeS s p).items ∧ Below w.heap.size w w' := by
  obtain ⟨ab_s, cb_s, rfl, gb_s, gc_s, -, -⟩ := h_s.1.1
  obtain ⟨au_s, cu_s, rfl, gu_s, gv_s, -, -⟩ := h_s.1.2
  obtain ⟨ax_s, cx_s, rfl, gx_s, gz_s⟩ := h_s.2.1.form rfl
  obtain ⟨ay_s, cy_s, rfl, gy_s, gw_s⟩ := h_s.2.2.form rfl
  unfold maxLen at gc_s gv_s gz_s gw_s
  have hst := (((Below.refl w.heap.size w).alloc (Nat.le_refl _) (.cells #[.slice ab_s s.disk.blocks.length cb_s, .slice au_s s.disk.waits.length cu_s, .slice ax_s s.now.length cx_s, .slice ay_s s.last.length cy_s] 28)).alloc (by simp) (.cells #[.int .i64 0, .slice none 0 0] 47))
  have hq := two_new w (.cells #[.slice ab_s s.disk.blocks.length cb_s, .slice au_s s.disk.waits.length cu_s, .slice ax_s s.now.length cx_s, .slice ay_s s.last.length cy_s] 28) (.cells #[.int .i64 0, .slice none 0 0] 47)
  have q_s := LK.of hq.1
  have q_r := LK.of hq.2
  have hB : LW w _ := hst
  have O_s := (LO.of h_s (Nat.le_refl _)).step hst
  have sz_V : w.heap.size + 1 < ((w.alloc (.cells #[.slice ab_s s.disk.blocks.length cb_s, .slice au_s s.disk.waits.length cu_s, .slice ax_s s.now.length cx_s, .slice ay_s s.last.length cy_s] 28)).alloc (.cells #[.int .i64 0, .slice none 0 0] 47)).heap.size := by simp
  obtain ⟨V, hV⟩ : ∃ V, ((w.alloc (.cells #[.slice ab_s s.disk.blocks.length cb_s, .slice au_s s.disk.waits.length cu_s, .slice ax_s s.now.length cx_s, .slice ay_s s.last.length cy_s] 28)).alloc (.cells #[.int .i64 0, .slice none 0 0] 47)) = V := ⟨_, rfl⟩
  rw [hV] at sz_V q_s q_r O_s hB
  clear hst h_s hq
  have HQ := Lib.hid (And.intro q_s (And.intro q_r (And.intro O_s hB)))
  clear q_s q_r O_s hB
  have c_q_s0 := LK.cell HQ.out.1 0
  have c_q_s1 := LK.cell HQ.out.1 1
  have c_q_s2 := LK.cell HQ.out.1 2
  have c_q_s3 := LK.cell HQ.out.1 3
  have c_q_r0 := LK.cell HQ.out.2.1 0
  have c_q_r1 := LK.cell HQ.out.2.1 1
  simp at c_q_s0 c_q_s1 c_q_s2 c_q_s3 c_q_r0 c_q_r1
  have hn : nodeS s p = if errSn s p = 0 then readNd (seenD s.disk p) else ⟨0, []⟩ := rfl
  have he : errSn s p = if errAs s p ≠ 0 then errAs s p else if errNd (seenD s.disk p) = 0 then 0 else 8 := rfl
  have hz := fun h => errAs_zero (s := s) (p := p) h
  have hr : errAs s p = 0 → isR s p = decide (errNd (seenD s.disk p) = 0) ∧ rdR s p = readNd (seenD s.disk p) := fun h => by
    obtain ⟨-, h8, h9, h0⟩ := errAs_zero h
    obtain ⟨q, rfl⟩ : ∃ q : Nat, p = q := ⟨p.toNat, by omega⟩
    exact isR_nat (by omega) (by omega) (by simpa using h0)
  have k_a := fun V b u x y hh => rsasked_any b u x y s p V hh
  have k_r := fun V b u x y hh hm => rsread_any b u x y s p V hh hm
  generalize nodeS s p = nd at *
  generalize errSn s p = es at *
  generalize errAs s p = ea at *
  generalize errNd (seenD s.disk p) = en at *
  generalize readNd (seenD s.disk p) = rn at *
  generalize isR s p = ir at *
  generalize rdR s p = rr at *
  have HE := Lib.hid (And.intro hn (And.intro he (And.intro hz hr)))
  clear hn he hz hr
  have HC := Lib.hid (And.intro k_a k_r)
  clear k_a k_r
  go_enter Try.func14, Try.ntmps14
  go_upto_region 1 with (fail)
  clear hV
  go_wp2_with fail
  refine (HC.out.1 _ _ _ _ _ HQ.out.2.2.1.v).mono ?_
  rintro e w1 ⟨rfl, hst⟩
  clear c_q_s0 c_q_s1 c_q_s2 c_q_s3 c_q_r0 c_q_r1
  obtain ⟨q_s, q_r, O_s, hB⟩ := HQ.out
  clear HQ
  have sz_w1 : V.heap.size ≤ w1.heap.size := hst.size
  replace q_s := q_s.step hst
  replace q_r := q_r.step hst
  replace O_s := O_s.step hst
  replace hB := hB.step hst
  clear hst
  have HQ := Lib.hid (And.intro q_s (And.intro q_r (And.intro O_s hB)))
  clear q_s q_r O_s hB
  have c_q_s0 := LK.cell HQ.out.1 0
  have c_q_s1 := LK.cell HQ.out.1 1
  have c_q_s2 := LK.cell HQ.out.1 2
  have c_q_s3 := LK.cell HQ.out.1 3
  have c_q_r0 := LK.cell HQ.out.2.1 0
  have c_q_r1 := LK.cell HQ.out.2.1 1
  simp at c_q_s0 c_q_s1 c_q_s2 c_q_s3 c_q_r0 c_q_r1
  by_cases hz : ea = 0
  case neg =>
    obtain ⟨h1, h2, -⟩ := HE.out
    rw [if_pos hz] at h2
    subst h2
    rw [if_neg hz] at h1
    subst h1
    have i1 : (es != 0) = true := by simp [hz]
    clear c_q_s0 c_q_s1 c_q_s2 c_q_s3 c_q_r0 c_q_r1
    have c_q_r0 := LK.cell HQ.out.2.1 0
    have c_q_r1 := LK.cell HQ.out.2.1 1
    have z_q_r0 := LK.frozen HQ.out.2.1 0
    have z_q_r1 := LK.frozen HQ.out.2.1 1
    simp at c_q_r0 c_q_r1
    have hBf := HQ.out.2.2.2
    go_wp2
    refine bodyPost_ret (v := .tuple #[.agg #[.int .i64 0, .slice none 0 0], .int .i64 es]) (by simp [results, Try.results14, go_sem, c_q_r0, c_q_r1]) rfl ⟨_, rfl, Sl.nil_ _ _ _, (Below.setCell hBf (p := ⟨w.heap.size + 1, 0, none⟩) (Nat.le_succ _) _).setCell (p := ⟨w.heap.size + 1, 1, none⟩) (Nat.le_succ _) _⟩
  subst hz
  obtain ⟨h1, h2, h3, h4⟩ := HE.out
  obtain ⟨hm, -⟩ := h3 rfl
  obtain ⟨rfl, rfl⟩ := h4 rfl
  rw [if_neg (by simp)] at h2
  clear HE h3
  have HN := Lib.hid (And.intro h1 h2)
  clear h1 h2
  go_wp2_with fail
  refine (HC.out.2 _ _ _ _ _ HQ.out.2.2.1.v hm).mono ?_
  rintro e w2 ⟨vn, rfl, hs, hst⟩
  clear c_q_s0 c_q_s1 c_q_s2 c_q_s3 c_q_r0 c_q_r1
  obtain ⟨q_s, q_r, O_s, hB⟩ := HQ.out
  clear HQ
  have S_n := LS.of hs (Nat.le_refl _)
  obtain ⟨an, cn, rfl, -, -, -, -⟩ := id hs
  clear hs
  have sz_w2 : w1.heap.size ≤ w2.heap.size := hst.size
  replace q_s := q_s.step hst
  replace q_r := q_r.step hst
  replace O_s := O_s.step hst
  replace hB := hB.step hst
  clear hst
  have HQ := Lib.hid (And.intro q_s (And.intro q_r (And.intro O_s (And.intro S_n hB))))
  clear q_s q_r O_s S_n hB
  have c_q_s0 := LK.cell HQ.out.1 0
  have c_q_s1 := LK.cell HQ.out.1 1
  have c_q_s2 := LK.cell HQ.out.1 2
  have c_q_s3 := LK.cell HQ.out.1 3
  have c_q_r0 := LK.cell HQ.out.2.1 0
  have c_q_r1 := LK.cell HQ.out.2.1 1
  simp at c_q_s0 c_q_s1 c_q_s2 c_q_s3 c_q_r0 c_q_r1
  go_upto_region 5 with (fail)
  clear c_q_s0 c_q_s1 c_q_s2 c_q_s3 c_q_r0 c_q_r1
  obtain ⟨q_s, q_r, O_s, S_n, hB⟩ := HQ.out
  clear HQ
  have hst := (Below.refl w2.heap.size w2).alloc (Nat.le_refl _) (.cells #[.int .i64 rr.level, .slice an rr.items.length cn] 47)
  have hlt : w2.heap.size < (w2.alloc (.cells #[.int .i64 rr.level, .slice an rr.items.length cn] 47)).heap.size := by simp
  have q_n := LK.new w2 (.cells #[.int .i64 rr.level, .slice an rr.items.length cn] 47)
  replace q_s := q_s.step hst
  replace q_r := q_r.step hst
  replace O_s := O_s.step hst
  replace S_n := S_n.step hst
  replace hB := hB.step hst
  obtain ⟨w3, hw⟩ : ∃ v, w2.alloc (.cells #[.int .i64 rr.level, .slice an rr.items.length cn] 47) = v := ⟨_, rfl⟩
  rw [hw] at hlt q_n q_s q_r O_s S_n hB ⊢
  clear hw hst
  have sz_w3 := hlt
  clear hlt
  have HQ := Lib.hid (And.intro q_s (And.intro q_r (And.intro O_s (And.intro S_n (And.intro q_n hB)))))
  clear q_s q_r O_s S_n q_n hB
  have c_q_s0 := LK.cell HQ.out.1 0
  have c_q_s1 := LK.cell HQ.out.1 1
  have c_q_s2 := LK.cell HQ.out.1 2
  have c_q_s3 := LK.cell HQ.out.1 3
  have c_q_r0 := LK.cell HQ.out.2.1 0
  have c_q_r1 := LK.cell HQ.out.2.1 1
  have c_q_n0 := LK.cell HQ.out.2.2.2.2.1 0
  have c_q_n1 := LK.cell HQ.out.2.2.2.2.1 1
  simp at c_q_s0 c_q_s1 c_q_s2 c_q_s3 c_q_r0 c_q_r1 c_q_n0 c_q_n1
  by_cases hz : en = 0
  case neg =>
    obtain ⟨h1, h2⟩ := HN.out
    rw [if_neg hz] at h2
    subst h2
    rw [if_neg (by decide)] at h1
    subst h1
    have i1 : decide (en = 0) = false := decide_eq_false hz
    clear c_q_s0 c_q_s1 c_q_s2 c_q_s3 c_q_r0 c_q_r1 c_q_n0 c_q_n1
    have c_q_r0 := LK.cell HQ.out.2.1 0
    have c_q_r1 := LK.cell HQ.out.2.1 1
    have z_q_r0 := LK.frozen HQ.out.2.1 0
    have z_q_r1 := LK.frozen HQ.out.2.1 1
    simp at c_q_r0 c_q_r1
    have hBf := HQ.out.2.2.2.2.2
    go_wp2
    refine bodyPost_ret (v := .tuple #[.agg #[.int .i64 0, .slice none 0 0], .int .i64 8]) (by simp [results, Try.results14, go_sem, c_q_r0, c_q_r1]) rfl ⟨_, rfl, Sl.nil_ _ _ _, (Below.setCell hBf (p := ⟨w.heap.size + 1, 0, none⟩) (Nat.le_succ _) _).setCell (p := ⟨w.heap.size + 1, 1, none⟩) (Nat.le_succ _) _⟩
  obtain ⟨h1, h2⟩ := HN.out
  rw [if_pos hz] at h2
  subst h2
  rw [if_pos rfl] at h1
  subst h1
  have i1 : decide (en = 0) = true := decide_eq_true hz
  have HZ := Lib.hid hz
  clear hz HN
  clear c_q_s0 c_q_s1 c_q_s2 c_q_s3 c_q_r0 c_q_r1 c_q_n0 c_q_n1
  have c_q_r0 := LK.cell HQ.out.2.1 0
  have c_q_r1 := LK.cell HQ.out.2.1 1
  have z_q_r0 := LK.frozen HQ.out.2.1 0
  have z_q_r1 := LK.frozen HQ.out.2.1 1
  have c_q_n0 := LK.cell HQ.out.2.2.2.2.1 0
  have c_q_n1 := LK.cell HQ.out.2.2.2.2.1 1
  simp at c_q_r0 c_q_r1 c_q_n0 c_q_n1
  have hBf := HQ.out.2.2.2.2.2
  have hS := HQ.out.2.2.2.1
  go_wp2
  refine bodyPost_ret (v := .tuple #[.agg #[.int .i64 nd.level, .slice an nd.items.length cn], .int .i64 0]) (by simp [results, Try.results14, go_sem, c_q_r0, c_q_r1]) rfl ⟨_, rfl, ?_, (Below.setCell hBf (p := ⟨w.heap.size + 1, 0, none⟩) (Nat.le_succ _) _).setCell (p := ⟨w.heap.size + 1, 1, none⟩) (Nat.le_succ _) _⟩
  exact (hS.out (V' := (w3.setCell ⟨w.heap.size + 1, 0, none⟩ (.int .i64 nd.level)).setCell ⟨w.heap.size + 1, 1, none⟩ (.slice an nd.items.length cn)) (n0 := w.heap.size + 1) (h0 := w.heap.size + 2) (Nat.le_of_eq (by simp only [World.size_setCell])) (fun x _ h => (set_other _ _ _ _ _ (by omega)).trans (set_other _ _ _ _ _ (by omega))) (by omega)).v

set_option maxRecDepth 100000 in
set_option maxHeartbeats 1000000 in
theorem rsnew_any  (w : World)  :
    Calls Try.prog 22 #[] w fun e w' => ∃ b u x y, e = .returned (.agg #[b, u, x, y]) ∧ StoreV w' 0 w'.heap.size b u x y newS ∧ Below w.heap.size w w' := by
  have hst := ((Below.refl w.heap.size w).alloc (Nat.le_refl _) (.cells #[.slice none 0 0, .slice none 0 0, .slice none 0 0, .slice none 0 0] 28))
  have q_r := LK.new w (.cells #[.slice none 0 0, .slice none 0 0, .slice none 0 0, .slice none 0 0] 28)
  have hB : LW w _ := hst
  have sz_V : w.heap.size + 0 < (w.alloc (.cells #[.slice none 0 0, .slice none 0 0, .slice none 0 0, .slice none 0 0] 28)).heap.size := by simp
  obtain ⟨V, hV⟩ : ∃ V, (w.alloc (.cells #[.slice none 0 0, .slice none 0 0, .slice none 0 0, .slice none 0 0] 28)) = V := ⟨_, rfl⟩
  rw [hV] at sz_V q_r hB
  clear hst 
  have HQ := Lib.hid (And.intro q_r hB)
  clear q_r hB
  have c_q_r0 := LK.cell HQ.out.1 0
  have c_q_r1 := LK.cell HQ.out.1 1
  have c_q_r2 := LK.cell HQ.out.1 2
  have c_q_r3 := LK.cell HQ.out.1 3
  simp at c_q_r0 c_q_r1 c_q_r2 c_q_r3
  have hn : newS = ⟨newD, List.replicate 256 0, List.replicate 256 0⟩ := rfl
  rw [hn]
  have k_d := fun V => rdnew_new V
  have k_t := fun V => rnewt_any V
  clear hn
  generalize newD = nd at *
  generalize List.replicate 256 (0 : UInt8) = Z at *
  have HC := Lib.hid (And.intro k_d k_t)
  clear k_d k_t
  go_enter Try.func22, Try.ntmps22
  go_upto_region 1 with (fail)
  clear hV
  go_wp2_with fail
  refine (HC.out.1 _).mono ?_
  rintro e w1 ⟨b1, u1, rfl, hm, hst⟩
  clear c_q_r0 c_q_r1 c_q_r2 c_q_r3
  obtain ⟨q_r, hB⟩ := HQ.out
  clear HQ
  have D_d := LD.of hm (Nat.le_refl _)
  obtain ⟨ab_d, cb_d, rfl, -, -, -, -⟩ := hm.1
  obtain ⟨au_d, cu_d, rfl, -, -, -, -⟩ := hm.2
  clear hm
  have sz_w1 : V.heap.size ≤ w1.heap.size := hst.size
  replace q_r := q_r.step hst
  replace hB := hB.step hst
  clear hst
  have HQ := Lib.hid (And.intro q_r (And.intro D_d hB))
  clear q_r D_d hB
  have c_q_r0 := LK.cell HQ.out.1 0
  have c_q_r1 := LK.cell HQ.out.1 1
  have c_q_r2 := LK.cell HQ.out.1 2
  have c_q_r3 := LK.cell HQ.out.1 3
  simp at c_q_r0 c_q_r1 c_q_r2 c_q_r3
  go_wp2_with fail
  refine (HC.out.2 _).mono ?_
  rintro e w2 ⟨v1, rfl, hm⟩
  clear c_q_r0 c_q_r1 c_q_r2 c_q_r3
  obtain ⟨q_r, D_d, hB⟩ := HQ.out
  clear HQ
  have B_n := LM.of hm
  have hst := hm.below
  obtain ⟨ar_n, cr_n, rfl, -, -⟩ := hm.bytes.form rfl
  clear hm
  have sz_w2 : w1.heap.size ≤ w2.heap.size := hst.size
  replace q_r := q_r.step hst
  replace D_d := D_d.step hst
  replace hB := hB.step hst
  clear hst
  have HQ := Lib.hid (And.intro q_r (And.intro D_d (And.intro B_n hB)))
  clear q_r D_d B_n hB
  have c_q_r0 := LK.cell HQ.out.1 0
  have c_q_r1 := LK.cell HQ.out.1 1
  have c_q_r2 := LK.cell HQ.out.1 2
  have c_q_r3 := LK.cell HQ.out.1 3
  simp at c_q_r0 c_q_r1 c_q_r2 c_q_r3
  go_wp2_with fail
  refine (HC.out.2 _).mono ?_
  rintro e w3 ⟨v2, rfl, hm⟩
  clear c_q_r0 c_q_r1 c_q_r2 c_q_r3
  obtain ⟨q_r, D_d, B_n, hB⟩ := HQ.out
  clear HQ
  have B_l := LM.of hm
  have hst := hm.below
  obtain ⟨ar_l, cr_l, rfl, -, -⟩ := hm.bytes.form rfl
  clear hm
  have sz_w3 : w2.heap.size ≤ w3.heap.size := hst.size
  replace q_r := q_r.step hst
  replace D_d := D_d.step hst
  replace B_n := B_n.step hst
  replace hB := hB.step hst
  clear hst
  have HQ := Lib.hid (And.intro q_r (And.intro D_d (And.intro B_n (And.intro B_l hB))))
  clear q_r D_d B_n B_l hB
  have c_q_r0 := LK.cell HQ.out.1 0
  have c_q_r1 := LK.cell HQ.out.1 1
  have c_q_r2 := LK.cell HQ.out.1 2
  have c_q_r3 := LK.cell HQ.out.1 3
  simp at c_q_r0 c_q_r1 c_q_r2 c_q_r3
  clear c_q_r0 c_q_r1 c_q_r2 c_q_r3
  have c_q_r0 := LK.cell HQ.out.1 0
  have c_q_r1 := LK.cell HQ.out.1 1
  have c_q_r2 := LK.cell HQ.out.1 2
  have c_q_r3 := LK.cell HQ.out.1 3
  have z_q_r0 := LK.frozen HQ.out.1 0
  have z_q_r1 := LK.frozen HQ.out.1 1
  have z_q_r2 := LK.frozen HQ.out.1 2
  have z_q_r3 := LK.frozen HQ.out.1 3
  simp at c_q_r0 c_q_r1 c_q_r2 c_q_r3
  have hD := HQ.out.2.1
  have hN := HQ.out.2.2.1
  have hL := HQ.out.2.2.2.1
  have hBf := HQ.out.2.2.2.2
  have HF := Lib.hid (And.intro hD (And.intro hN (And.intro hL hBf)))
  clear hD hN hL hBf
  go_wp2
  refine bodyPost_ret (v := .agg #[.slice ab_d nd.blocks.length cb_d, .slice au_d nd.waits.length cu_d, .slice ar_n Z.length cr_n, .slice ar_l Z.length cr_l]) (by simp [results, Try.results22, go_sem, c_q_r0, c_q_r1, c_q_r2, c_q_r3]) rfl ⟨_, _, _, _, rfl, ?_⟩
  obtain ⟨hD, hN, hL, hBf⟩ := HF.out
  obtain ⟨hs, hf⟩ := four_frame w3 w.heap.size (.slice ab_d nd.blocks.length cb_d) (.slice au_d nd.waits.length cu_d) (.slice ar_n Z.length cr_n) (.slice ar_l Z.length cr_l)
  have hD2 := hD.out (Nat.le_of_eq hs.symm) hf (.inr (by omega))
  have hN2 := hN.out (Nat.le_of_eq hs.symm) hf (.inr (by omega))
  have hL2 := hL.out (Nat.le_of_eq hs.symm) hf (.inr (by omega))
  exact ⟨⟨hD2.v, hN2.v, hL2.v⟩, Below.trans hBf (below_four w3 _ _ _ _ (Nat.le_refl _))⟩

end Go.Proofs.Ytkfgegdnpinbdaa

namespace Go.Proofs.Ytkfgegdnpinbdaa
open Go.RowKit

/-- A slice of n cells, each of which holds a byte and may be written. -/
def SpoB (w : World) (lo hi : Nat) (v : Value) (n : Nat) : Prop := ∃ a c, v = .slice a n c ∧ n ≤ c ∧ c ≤ maxLen ∧
  (0 < n → ∃ b off, a = some ⟨b, off, none⟩ ∧ lo ≤ b ∧ b < hi ∧ ∀ i, i < n → ∃ x : UInt8, w.cell? ⟨b, off + i, none⟩ = some (bV x) ∧ w.frozen? ⟨b, off + i, none⟩ = false)
theorem SpoB.of {w : World} {lo hi : Nat} {v : Value} {l : List UInt8} (h : Bytes w lo hi v l) (ht : Thawed w v) : SpoB w lo hi v l.length := by
  obtain ⟨a, c, rfl, h1, h2, h3, h4⟩ := h
  refine ⟨a, c, rfl, h1, h2, fun hp => ?_⟩
  obtain ⟨b, off, rfl, hlo, hhi, hc⟩ := h3 hp
  exact ⟨b, off, rfl, hlo, hhi, fun i hi => ⟨l[i], hc i l[i] (by simp [hi]), ht _ _ _ _ rfl i hi⟩⟩
/-- A byte is stored where there was one: bytes stay bytes. -/
theorem SpoB.set {w : World} {lo hi : Nat} {v : Value} {n : Nat} (h : SpoB w lo hi v n) (p : Addr) (x y : UInt8) (hp : w.cell? p = some (bV x)) : SpoB (w.setCell p (bV y)) lo hi v n := by
  obtain ⟨a, c, e, h1, h2, h3⟩ := h
  refine ⟨a, c, e, h1, h2, fun hn => ?_⟩
  obtain ⟨b, off, ea, hlo, hhi, hc⟩ := h3 hn
  refine ⟨b, off, ea, hlo, hhi, fun i hi => ?_⟩
  obtain ⟨z, hz, hf⟩ := hc i hi
  by_cases e : p = ⟨b, off + i, none⟩
  · subst e
    exact ⟨y, World.cell?_setCell_same' _ _ _ (by rw [hz]; rfl), by rw [World.frozen?_setCell]; exact hf⟩
  · exact ⟨z, by rw [World.cell?_setCell_other _ _ _ _ e]; exact hz, by rw [World.frozen?_setCell]; exact hf⟩
theorem SpoB.below {w w' : World} {lo hi B : Nat} {v : Value} {n : Nat} (h : SpoB w lo hi v n) (hb : Below B w w') (hB : hi ≤ B) : SpoB w' lo hi v n := by
  obtain ⟨a, c, e, h1, h2, h3⟩ := h
  refine ⟨a, c, e, h1, h2, fun hn => ?_⟩
  obtain ⟨b, off, ea, hlo, hhi, hc⟩ := h3 hn
  refine ⟨b, off, ea, hlo, hhi, fun i hi => ?_⟩
  obtain ⟨z, hz, hf⟩ := hc i hi
  exact ⟨z, (hb.cell (p := ⟨b, off + i, none⟩) (by show b < B; omega)).trans hz, (hb.frozen (p := ⟨b, off + i, none⟩) (by show b < B; omega)).trans hf⟩
/-- A cell that holds no byte stays. -/
theorem spo_other {w : World} {p q : Addr} {x : UInt8} {y : UInt8} {v : Value} (hp : w.cell? p = some (bV x)) (hq : w.cell? q = some v) (hv : ∀ z : UInt8, v ≠ bV z) : (w.setCell p (bV y)).cell? q = some v := by
  rw [World.cell?_setCell_other _ _ _ _ (fun e => ?_)]
  · exact hq
  · subst e
    rw [hp] at hq
    exact hv x (Option.some.inj hq).symm
/-- A slice of k elements of n cells, number f of which holds such a slice of bytes. -/
def SpS (n f : Nat) (w : World) (lo hi : Nat) (s : Value) (k : Nat) : Prop := ∃ a c, s = .slice a k c ∧ k ≤ c ∧ c ≤ maxLen ∧
  (0 < k → ∃ b off, a = some ⟨b, off, none⟩ ∧ lo ≤ b ∧ b < hi ∧ ∀ i, i < k → ∃ x c m, w.cell? ⟨b, off + i * n + f, none⟩ = some (.slice x m c) ∧ SpoB w lo hi (.slice x m c) m)
theorem SpoB.form {w : World} {lo hi : Nat} {v : Value} {n : Nat} (h : SpoB w lo hi v n) : ∃ a c, v = .slice a n c ∧ n ≤ c ∧ c ≤ maxLen := by
  obtain ⟨a, c, e, h1, h2, -⟩ := h
  exact ⟨a, c, e, h1, h2⟩
theorem SpS.of_b {w : World} {lo hi : Nat} {s : Value} {l : List (List UInt8)} (h : Sl rBytesT w lo hi s l) : SpS 1 0 w lo hi s l.length := by
  obtain ⟨a, c, rfl, h1, h2, h3, -⟩ := h
  refine ⟨a, c, rfl, h1, h2, fun hp => ?_⟩
  obtain ⟨b, off, rfl, hlo, hhi, hc⟩ := h3 hp
  refine ⟨b, off, rfl, hlo, hhi, fun i hi => ?_⟩
  obtain ⟨v, g1, g2, g3⟩ := hc i l[i] (by simp [hi])
  have hs := SpoB.of g2 g3
  obtain ⟨x, k, rfl, -⟩ := hs.form
  exact ⟨x, k, _, g1, hs⟩
theorem SpS.of_w {w : World} {lo hi : Nat} {s : Value} {l : List WrL} (h : Sl rWriteT w lo hi s l) : SpS 2 1 w lo hi s l.length := by
  obtain ⟨a, c, rfl, h1, h2, h3, -⟩ := h
  refine ⟨a, c, rfl, h1, h2, fun hp => ?_⟩
  obtain ⟨b, off, rfl, hlo, hhi, hc⟩ := h3 hp
  refine ⟨b, off, rfl, hlo, hhi, fun i hi => ?_⟩
  obtain ⟨-, -, v, g1, g2, g3⟩ := hc i l[i] (by simp [hi])
  have hs := SpoB.of g2 g3
  obtain ⟨x, k, rfl, -⟩ := hs.form
  exact ⟨x, k, _, g1, hs⟩
theorem SpS.set {n f : Nat} {w : World} {lo hi : Nat} {s : Value} {k : Nat} (h : SpS n f w lo hi s k) (p : Addr) (x y : UInt8) (hp : w.cell? p = some (bV x)) : SpS n f (w.setCell p (bV y)) lo hi s k := by
  obtain ⟨a, c, e, h1, h2, h3⟩ := h
  refine ⟨a, c, e, h1, h2, fun hn => ?_⟩
  obtain ⟨b, off, ea, hlo, hhi, hc⟩ := h3 hn
  refine ⟨b, off, ea, hlo, hhi, fun i hi => ?_⟩
  obtain ⟨u, c2, m, g1, g2⟩ := hc i hi
  exact ⟨u, c2, m, spo_other hp g1 (fun z e => by cases e), g2.set p x y hp⟩
theorem SpS.below {n f : Nat} {w w' : World} {lo hi B : Nat} {s : Value} {k : Nat} (h : SpS n f w lo hi s k) (hb : Below B w w') (hB : hi ≤ B) : SpS n f w' lo hi s k := by
  obtain ⟨a, c, e, h1, h2, h3⟩ := h
  refine ⟨a, c, e, h1, h2, fun hn => ?_⟩
  obtain ⟨b, off, ea, hlo, hhi, hc⟩ := h3 hn
  refine ⟨b, off, ea, hlo, hhi, fun i hi => ?_⟩
  obtain ⟨u, c2, m, g1, g2⟩ := hc i hi
  exact ⟨u, c2, m, (hb.cell (p := ⟨b, off + i * n + f, none⟩) (by show b < B; omega)).trans g1, g2.below hb hB⟩
theorem spo_add (x : UInt8) : ((x.toNat : Int) + 1) % 256 = ((x + 1).toNat : Int) := by
  rw [UInt8.toNat_add]
  simp
end Go.Proofs.Ytkfgegdnpinbdaa

