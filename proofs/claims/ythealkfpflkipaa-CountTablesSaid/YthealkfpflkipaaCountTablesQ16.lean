/- CountTables: the words and contracts, part 16. -/
import Derived.Test.YthealkfpflkipaaCountTablesQ1
import Derived.Test.YthealkfpflkipaaCountTablesQ2
import Derived.Test.YthealkfpflkipaaCountTablesQ3
import Derived.Test.YthealkfpflkipaaCountTablesQ4
import Derived.Test.YthealkfpflkipaaCountTablesQ5
import Derived.Test.YthealkfpflkipaaCountTablesQ6
import Derived.Test.YthealkfpflkipaaCountTablesQ7
import Derived.Test.YthealkfpflkipaaCountTablesQ8
import Derived.Test.YthealkfpflkipaaCountTablesQ9
import Derived.Test.YthealkfpflkipaaCountTablesQ12
import Derived.Test.YthealkfpflkipaaCountTablesQ13
import Derived.WalkKit
import Derived.WalkLawsBesides
import Derived.WalkSpells
import Derived.Lib.Hide
import Derived.Laws.Rows
import Derived.Laws.AppendOwnNone
import Derived.Maps.AppendAt
import Derived.RangeFuncNested
import Derived.RangeFuncBound
import Derived.RangeFuncCalls
import Derived.RangeFuncLeaves
import Derived.RangeFuncBox
import Derived.Shelf.Abstract
import Derived.Shelf.RegionOpen
import Derived.OwnWalkIn
import Derived.TacticsInMore
import Derived.LoopNIn
import Derived.LoopIn
import Derived.ProofKit
import Derived.Deep.Slices
import Derived.WideShapes
import Derived.OrdersHeld
import Derived.Deep.QuietTactic
import Derived.BigQuiet
import Derived.StillTailTactics
import Derived.OpenShut
import Derived.Lib.SliceRun
import Derived.Lib.AppendZerosOnto
import Derived.Lib.Walk
import Derived.Deep.LoopGhost
import Derived.Laws.CopyOwn
import Derived.Deep.DeepCutAuto
import Derived.Laws.CopyRow
import Derived.Laws.MakeOwn
import Derived.Deep.RegionHeld
namespace Go.Proofs.Ythealkfpflkipaa
open Go.RowKit

theorem SrcW.to {W W2 w : World} {sv : Value} {l : List WrL} (h : SrcW W w sv l) (hk : ∀ v x, Bytes W 0 W.heap.size v x → Bytes W2 0 W2.heap.size v x) : SrcW W2 w sv l := by
  obtain ⟨a, c, e, hn, bs, hbl, hba, hcl⟩ := h
  exact ⟨a, c, e, hn, bs, hbl, fun i x hx => by obtain ⟨y, p1, p2, p3⟩ := hba i x hx; exact ⟨y, p1, p2, hk _ _ p3⟩, hcl⟩

end Go.Proofs.Ythealkfpflkipaa

namespace Go.Proofs.Ythealkfpflkipaa
open Go.RowKit

/-- One element more: the row behind the making of its bytes, and what is appended. -/
theorem row_bytes1 {base : Nat} {T : TypeId} {lo : Nat} {S : Nat → Bool} {wr w0 z : World} {v u : Value} {kl : List (List UInt8)} {x : List UInt8} (h : OwnR rBytes base T lo S wr v kl) (hS : ∀ k, wr.heap.size ≤ k → S k = false) (h0 : w0.heap = wr.heap)
    (hB : Below w0.heap.size w0 z) (hb : Bytes z w0.heap.size z.heap.size u x) (hlo : lo ≤ wr.heap.size) (T2 : TypeId) :
    OwnR rBytes base T lo S (z.alloc (.cells #[u] T2)) v kl ∧ ∀ j y, [x][j]? = some y → rBytes.R (hideW (z.alloc (.cells #[u] T2)) (andOwn S v)) lo (z.alloc (.cells #[u] T2)).heap.size y (fun i => [u][j * rBytes.n + i]?) := by
  have hs : wr.heap.size = w0.heap.size := by rw [h0]
  refine ⟨(h.to rBytes_ck (by rw [hs]; exact hB.size) (fun k hk _ => (hB.block k (by omega)).trans (by rw [h0]))).alloc rBytes_ck _, fun j y hj => ?_⟩
  cases j with
  | zero =>
    cases hj
    refine ⟨u, rfl, (hb.kept (hideW_kp fun k h1 h2 => ⟨andOwn_of (hS k (by omega)) (fun e => ?_), Below.heap_alloc z _ k h2⟩)).more (by omega) (by simp)⟩
    have := (h.lt k e).2
    omega
  | succ j => simp at hj
theorem row_write1 {base : Nat} {T : TypeId} {lo : Nat} {S : Nat → Bool} {wr w0 z : World} {v u : Value} {kl : List WrL} {p : Int} {x : List UInt8} (h : OwnR rWrite base T lo S wr v kl) (hS : ∀ k, wr.heap.size ≤ k → S k = false) (h0 : w0.heap = wr.heap)
    (hB : Below w0.heap.size w0 z) (hb : Bytes z w0.heap.size z.heap.size u x) (hlo : lo ≤ wr.heap.size) (hp : (Lit.int .i64 p).wf = true) (T2 : TypeId) :
    OwnR rWrite base T lo S (z.alloc (.cells #[.int .i64 p, u] T2)) v kl ∧ ∀ j y, [(⟨p, x⟩ : WrL)][j]? = some y → rWrite.R (hideW (z.alloc (.cells #[.int .i64 p, u] T2)) (andOwn S v)) lo (z.alloc (.cells #[.int .i64 p, u] T2)).heap.size y (fun i => [.int .i64 p, u][j * rWrite.n + i]?) := by
  have hs : wr.heap.size = w0.heap.size := by rw [h0]
  refine ⟨(h.to rWrite_ck (by rw [hs]; exact hB.size) (fun k hk _ => (hB.block k (by omega)).trans (by rw [h0]))).alloc rWrite_ck _, fun j y hj => ?_⟩
  cases j with
  | zero =>
    cases hj
    refine ⟨rfl, hp, u, rfl, (hb.kept (hideW_kp fun k h1 h2 => ⟨andOwn_of (hS k (by omega)) (fun e => ?_), Below.heap_alloc z _ k h2⟩)).more (by omega) (by simp)⟩
    have := (h.lt k e).2
    omega
  | succ j => simp at hj
theorem snoc_take {α : Type} (l : List α) (k : Nat) (d : α) (h : k < l.length) : l.take (k + 1) = l.take k ++ [l.getD k d] := by
  rw [List.take_succ_eq_append_getElem h]
  simp [h]
/-- The blocks of a call's own variables. -/
def boxS (lo n : Nat) (k : Nat) : Bool := decide (lo ≤ k) && decide (k < lo + n)
theorem boxS_no {lo n k : Nat} (h : lo + n ≤ k) : boxS lo n k = false := by unfold boxS; simp; omega
theorem boxS_yes {lo n k : Nat} (h1 : lo ≤ k) (h2 : k < lo + n) : boxS lo n k = true := by unfold boxS; simp; omega
theorem dat_len (d : DiskL) (x : List UInt8) (h : x ∈ datD d) : x.length ≤ (datD d).flatten.length := by
  obtain ⟨i, hi, e⟩ := List.mem_iff_getElem.1 h
  have h1 := posD_succ (datD d) i hi
  have h2 := posD_le (datD d) (i + 1)
  have h3 : (datD d).getD i [] = x := by rw [← e]; simp [hi]
  rw [h3] at h1
  omega

end Go.Proofs.Ythealkfpflkipaa

namespace Go.Proofs.Ythealkfpflkipaa
open Go.RowKit

set_option maxRecDepth 100000 in
set_option maxHeartbeats 2000000 in
/-- The reference's Twin, of a disk that is not great. -/
theorem rdtwin_new (b u : Value) (d : DiskL) (w : World) (h : DiskV w 0 w.heap.size b u d) (hn1 : d.blocks.length ≤ 100000) (hn2 : d.waits.length ≤ 100000) (hT : (datD d).flatten.length ≤ 100000000) :
    Calls Try.prog 6 #[.agg #[b, u]] w fun e w' => ∃ b' u', e = .returned (.agg #[b', u']) ∧ DiskV w' w.heap.size w'.heap.size b' u' d ∧ Below w.heap.size w w' := by
  obtain ⟨ab, cb, rfl, g1, g2, -, -⟩ := h.1
  obtain ⟨au, cu, rfl, g3, g4, -, -⟩ := h.2
  have hB : Below w.heap.size w (((w.alloc (.cells #[.slice ab d.blocks.length cb, .slice au d.waits.length cu] 26)).alloc (.cells #[.slice none 0 0, .slice none 0 0] 26)).alloc (.cells #[.slice none 0 0, .slice none 0 0] 26)) := (((Below.refl w.heap.size w).alloc (Nat.le_refl _) _).alloc (by simp) _).alloc (by simp; omega) _
  have hq := three_new w (.cells #[.slice ab d.blocks.length cb, .slice au d.waits.length cu] 26) (.cells #[.slice none 0 0, .slice none 0 0] 26) (.cells #[.slice none 0 0, .slice none 0 0] 26)
  have hsW : (((w.alloc (.cells #[.slice ab d.blocks.length cb, .slice au d.waits.length cu] 26)).alloc (.cells #[.slice none 0 0, .slice none 0 0] 26)).alloc (.cells #[.slice none 0 0, .slice none 0 0] 26)).heap.size = w.heap.size + 3 := by simp
  have hdl := Lib.hid (fun x hx => Nat.le_trans (dat_len d x hx) hT)
  have HD := Lib.hid h
  unfold maxLen at g2 g4
  clear h hT
  obtain ⟨W, hW⟩ : ∃ W, ((w.alloc (.cells #[.slice ab d.blocks.length cb, .slice au d.waits.length cu] 26)).alloc (.cells #[.slice none 0 0, .slice none 0 0] 26)).alloc (.cells #[.slice none 0 0, .slice none 0 0] 26) = W := ⟨_, rfl⟩
  rw [hW] at hB hq hsW
  have HWS := Lib.hid hsW
  have HQ := Lib.hid (And.intro hB hq)
  have HWE := Lib.hid hW
  clear hB hq hW hsW
  go_enter Try.func6, Try.ntmps6
  go_upto_region 2 with (fail)
  rw [HWE.out]
  clear HWE
  go_wp2_with fail
  go_loopw [4] (fun i wr => ∃ (k : Nat) (a5 : Option Addr) (c5 : Nat), k ≤ d.blocks.length ∧ i = .int .i64 k ∧ wr.heap[w.heap.size + 2]? = some (.cells #[.slice a5 (d.blocks.take k).length c5, .slice none 0 0] 26 (0, 0)) ∧
    OwnR rBytes W.heap.size 22 W.heap.size (boxS w.heap.size 3) wr (.slice a5 (d.blocks.take k).length c5) (d.blocks.take k) ∧ (∀ j, j < W.heap.size → j ≠ w.heap.size + 2 → wr.heap[j]? = W.heap[j]?) ∧ W.heap.size ≤ wr.heap.size ∧ Below w.heap.size w wr) (fun i _ => d.blocks.length - (intOf i).toNat)
  case atStart => exact ⟨0, none, 0, Nat.zero_le _, rfl, HQ.out.2.2.2, OwnR.nil_ _ _ _ _ _ _, fun _ _ _ => rfl, Nat.le_refl _, HQ.out.1⟩
  case round =>
  obtain ⟨k, a5, c5, hk, rfl, q5, hown, hsame, hsz, hBw⟩ := hrel
  have qd := (hsame w.heap.size (by have := HWS.out; omega) (by omega)).trans HQ.out.2.1
  obtain ⟨kl, hkl⟩ : ∃ kl, d.blocks.take k = kl := ⟨_, rfl⟩
  rw [hkl] at q5 hown
  have n0 := blk_cell qd 0
  have n1 := blk_cell qd 1
  have m0 := blk_cell q5 0
  have m1 := blk_cell q5 1
  simp at n0 n1 m0 m1
  by_cases hlt : k < d.blocks.length
  · obtain ⟨bb, bo, cb', e', -, z1, z2, z3, hbe⟩ := HD.out.1.at_ (by omega)
    injection e' with ea _ ec
    subst ea ec
    obtain ⟨x, e2, e3⟩ := hbe k (d.blocks.getD k []) (get_l _ _ _ hlt)
    obtain ⟨ya, yc, rfl, -, hyc⟩ := e3.form rfl
    have hdk := hdl.out (d.blocks.getD k []) (List.mem_append_left _ (List.mem_of_getElem? (get_l _ _ _ hlt)))
    have hkt := snoc_take d.blocks k [] hlt
    obtain ⟨dt, hdt⟩ : ∃ y, d.blocks.getD k [] = y := ⟨_, rfl⟩
    rw [hdt] at e2 e3 hdk hkt
    clear hdt hbe
    simp [rBytes] at e2
    have hkll : (d.blocks.take k).length ≤ 100000 := Nat.le_trans (List.length_take_le _ _) (by omega)
    rw [hkl] at hkt hkll
    unfold maxLen at z3 hyc
    have e2r : wr.cell? ⟨bb, bo + k, none⟩ = some (.slice ya dt.length yc) := (hBw.cell (p := ⟨bb, bo + k, none⟩) z1).trans e2
    have e3r : Bytes wr 0 w.heap.size (.slice ya dt.length yc) dt := e3.below hBw (Nat.le_refl _)
    have z1w : bb < W.heap.size := Nat.lt_of_lt_of_le z1 HQ.out.1.size
    obtain ⟨Pr, hPr⟩ : ∃ Pr : World → Prop, ∀ X, Pr X ↔ ∀ j, j < W.heap.size → X.heap[j]? = wr.heap[j]? := ⟨_, fun _ => Iff.rfl⟩
    have hp0 : Pr wr.drew := (hPr _).2 (fun _ _ => rfl)
    have hS0 : ∀ k, wr.heap.size ≤ k → boxS w.heap.size 3 k = false := fun k hk => boxS_no (by have := HWS.out; omega)
    have x1 := fun X => (blk_cell (((hPr _).1 (selW_pr hp0 X) (w.heap.size + 2) (by have := HWS.out; omega)).trans q5) 0)
    have x2 := fun X => (blk_cell (((hPr _).1 (selW_pr hp0 X) w.heap.size (by have := HWS.out; omega)).trans qd) 0)
    have x3 := fun X => (heap_cell ((hPr _).1 (selW_pr hp0 X) bb z1w) (bo + k)).trans e2r
    simp at x1 x2
    have HP := Lib.hid (And.intro q5 (And.intro hsame (And.intro hsz (And.intro hBw (And.intro hkt (And.intro hkl (And.intro hown (And.intro e3r hS0))))))))
    clear q5 hown hsame hsz hBw hkt hkl e2 e3 e2r e3r hS0 qd
    go_wp2_with fail
    refine wp_region_L (S := Kl Pr wr.drew) 11 (by kernel_rfl) (Kl.of hp0) (fun hCl => ?_)
    refine wpAnyL_seg (fuel := 5) (by kernel_rfl) (fun _ d _ _ _ h => by cases d <;> exact h) hCl [0, 1, 2, 3, 4, 5, 6] _ _ _ (by kernel_rfl) (by kernel_rfl) (by kernel_rfl) (by kernel_rfl) ?_
    simp only [opsOf_cons, opsOf_nil, consOp_some, List.getElem?_toArray, List.getElem?_cons_succ, List.getElem?_cons_zero]
    repeat (first | go_big_quiet_step (fail) | quiet_step (fail))
    refine wpQuiet_nil ?_
    refine wpAnyL_each (fuel := 4) [7] (by kernel_rfl) (by simp) (by kernel_rfl) ?_
    refine EachL.cons _ rfl (fun K' hK => ?_) EachL.nil
    refine if_yes (by kernel_rfl) ?_
    refine wp_appB (.const (.slice none 0 0)) (.tmp 19) 22 rfl 5 Try.underlying22 info_u8 wr.heap.size (.slice none 0 0) [] rfl (OwnB.nil_ _ _ _) 0 w.heap.size (.slice ya dt.length yc) dt rfl HP.out.2.2.2.2.2.2.2.1 (by show 0 + dt.length ≤ _; omega) (Nat.le_refl _) ?_
    intro v1 v1w hown1 hB1 _hf1
    have hst : Pr v1w := (hPr _).2 (fun j hj => hB1.block j (Nat.lt_of_lt_of_le hj HP.out.2.2.1))
    obtain ⟨a1, c1, hv1⟩ := own_form hown1
    rw [List.nil_append] at hv1 hown1
    subst hv1
    have HO1 := Lib.hid (And.intro hown1 hB1)
    have HST1 := Lib.hid hst
    clear hown1 hB1 _hf1
    have hCl : Kl Pr wr.drew _ := Kl.of hst
    refine hK.out (.inr hCl) ?_
    clear hK K'
    refine wpAnyL_each (fuel := 3) [8] (by kernel_rfl) (by simp) (by kernel_rfl) ?_
    refine EachL.cons _ rfl (fun K' hK => ?_) EachL.nil
    go_simp
    have hst : Pr (v1w.alloc (.cells #[.slice a1 dt.length c1] 22)) := (hPr _).2 (fun j hj => (Below.heap_alloc v1w _ j (Nat.lt_of_lt_of_le hj (Nat.le_trans HP.out.2.2.1 HO1.out.2.size))).trans ((hPr _).1 HST1.out j hj))
    have HST2 := Lib.hid hst
    have hCl : Kl Pr wr.drew _ := Kl.of hst
    refine hK.out (.inr hCl) ?_
    clear hK K'
    refine wpAnyL_each (fuel := 2) [9] (by kernel_rfl) (by simp) (by kernel_rfl) ?_
    refine EachL.cons _ rfl (fun K' hK => ?_) EachL.nil
    refine if_yes (by kernel_rfl) ?_
    obtain ⟨hra, hrb⟩ := row_bytes1 (T2 := 22) HP.out.2.2.2.2.2.2.1 HP.out.2.2.2.2.2.2.2.2 (w0 := wr.drew) rfl HO1.out.2 HO1.out.1.bytes (Nat.le_trans (Nat.le_refl _) HP.out.2.2.1) 
    refine wp_appR rBytes_ck (.tmp 14) (.tmp 21) 23 rfl 22 (.slice none 0 0) 24 Try.underlying23 (by kernel_rfl) rfl (by decide) W.heap.size W.heap.size (boxS w.heap.size 3) _ kl [dt] rfl hra (fun k hk => HP.out.2.2.2.2.2.2.2.2 k (Nat.le_trans HO1.out.2.size (Nat.le_trans (by rw [World.size_alloc]; exact Nat.le_succ _) hk))) ⟨v1w.heap.size, 0, none⟩ 1 [.slice a1 dt.length c1] rfl rfl (news_one #[.slice a1 dt.length c1] 22) (by intro u hu; simp at hu; rcases hu with rfl; rfl) hrb (by show kl.length + 1 ≤ 1000000; omega) (by decide) (Nat.le_trans HP.out.2.2.1 (Nat.le_trans HO1.out.2.size (by rw [World.size_alloc]; exact Nat.le_succ _))) ?_
    intro a4 c4 z2 hown4 hB4 _hf4
    have hst : Pr z2 := (hPr _).2 (fun j hj => (hB4.block j hj).trans ((hPr _).1 HST2.out j hj))
    rw [show (kl ++ [(dt)]).length = kl.length + 1 by simp] at hown4 ⊢
    have k5 := ((hPr _).1 hst (w.heap.size + 2) (by have := HWS.out; omega)).trans HP.out.1
    have j1 := blk_cell k5 0
    have jf := blk_frozen k5 0
    simp at j1
    have HO := Lib.hid (And.intro hown4 (And.intro hB4 (And.intro HO1.out.2 k5)))
    clear hown4 hB4 k5 hra hrb _hf4
    have hCl : Kl Pr wr.drew _ := Kl.of hst
    refine hK.out (.inr hCl) ?_
    clear hK K'
    refine wpAnyL_seg (fuel := 1) (by kernel_rfl) (fun _ d _ _ _ h => by cases d <;> exact h) hCl [10] _ _ _ (by kernel_rfl) (by kernel_rfl) (by kernel_rfl) (by kernel_rfl) ?_
    simp only [opsOf_cons, opsOf_nil, consOp_some, List.getElem?_toArray, List.getElem?_cons_succ, List.getElem?_cons_zero]
    repeat (first | go_big_quiet_step (fail) | quiet_step (fail))
    refine wpQuiet_nil ?_
    refine wpAnyL_each (fuel := 0) [11] (by kernel_rfl) (by simp) (by kernel_rfl) ?_
    refine EachL.cons _ rfl (fun K' hK => ?_) EachL.nil
    go_simp
    refine hK.out (.inl rfl) ?_
    clear hK K'
    refine wpAnyL_done (by kernel_rfl) ?_ _
    go_wp2
    go_roundw
    case rel =>
      obtain ⟨hown4, hB4, hb1, k5⟩ := HO.out
      obtain ⟨q5, hsame, hsz, hBw, hkt, hkl, hown, e3r, hS0⟩ := HP.out
      have hs := set_other z2 (w.heap.size + 2) 0 (.slice a4 (kl.length + 1) c4)
      have hst2 := (hPr _).1 hst
      have hl : (kl ++ [dt]).length = kl.length + 1 := by simp
      refine ⟨k + 1, a4, c4, by omega, by go_num, ?_, ?_, fun j h1 h2 => (hs j h2).trans ((hst2 j h1).trans (hsame j h1 h2)), ?_, ?_⟩
      · rw [hkt, hl]
        exact set_block k5 0 _
      · rw [hkt, hl]
        exact hown4.setS rBytes_ck ⟨w.heap.size + 2, 0, none⟩ _ (boxS_yes (by show w.heap.size ≤ w.heap.size + 2; omega) (by show w.heap.size + 2 < w.heap.size + 3; omega))
      · rw [World.size_setCell]
        exact Nat.le_trans hsz (Nat.le_trans hb1.size (Nat.le_trans (by rw [World.size_alloc]; exact Nat.le_succ _) hB4.size))
      · exact (((hBw.drew.trans (hb1.mono hBw.size)).alloc (Nat.le_trans hBw.size hb1.size) _).trans (hB4.mono HQ.out.1.size)).setCell (p := ⟨w.heap.size + 2, 0, none⟩) (by show w.heap.size ≤ w.heap.size + 2; omega) _
    case measure => simp [intOf]; omega
  obtain rfl : k = d.blocks.length := by omega
  rw [List.take_length] at hkl
  subst hkl
  have hbl := hown.sl rBytes_ck (lo' := W.heap.size) (Nat.le_refl _) (Nat.le_refl _)
  obtain ⟨wm, hwm⟩ : ∃ wm, wm = wr := ⟨_, rfl⟩
  subst hwm
  have q1 := (hsame (w.heap.size + 1) (by have := HWS.out; omega) (by omega)).trans HQ.out.2.2.1
  have HM := Lib.hid (And.intro q5 (And.intro qd (And.intro q1 (And.intro hbl (And.intro hsz hBw)))))
  clear q5 qd q1 hbl hsz hBw hown hsame hk hlt n1
  go_wp2_with fail
  go_loopw [5] (fun i wr => ∃ (k : Nat) (a6 : Option Addr) (c6 : Nat), k ≤ d.waits.length ∧ i = .int .i64 k ∧ wr.heap[w.heap.size + 2]? = some (.cells #[.slice a5 d.blocks.length c5, .slice a6 (d.waits.take k).length c6] 26 (0, 0)) ∧
    OwnR rWrite wm.heap.size 50 wm.heap.size (boxS w.heap.size 3) wr (.slice a6 (d.waits.take k).length c6) (d.waits.take k) ∧ (∀ j, j < wm.heap.size → j ≠ w.heap.size + 2 → wr.heap[j]? = wm.heap[j]?) ∧ wm.heap.size ≤ wr.heap.size ∧ Below w.heap.size w wr) (fun i _ => d.waits.length - (intOf i).toNat)
  case atStart => exact ⟨0, none, 0, Nat.zero_le _, rfl, HM.out.1, OwnR.nil_ _ _ _ _ _ _, fun _ _ _ => rfl, Nat.le_refl _, HM.out.2.2.2.2.2⟩
  case round =>
  obtain ⟨k, a6, c6, hk, rfl, q5, hown, hsame, hsz, hBw⟩ := hrel
  clear m0 m1 n0
  have hwmS : w.heap.size + 3 ≤ wm.heap.size := by have := HWS.out; have := HM.out.2.2.2.2.1; omega
  have qd := (hsame w.heap.size (by omega) (by omega)).trans HM.out.2.1
  obtain ⟨kl, hkl⟩ : ∃ kl, d.waits.take k = kl := ⟨_, rfl⟩
  rw [hkl] at q5 hown
  have n0 := blk_cell qd 0
  have n1 := blk_cell qd 1
  have m0 := blk_cell q5 0
  have m1 := blk_cell q5 1
  simp at n0 n1 m0 m1
  by_cases hlt : k < d.waits.length
  · obtain ⟨bb, bo, cb', e', -, z1, z2, z3, hbe⟩ := HD.out.2.at_ (by omega)
    injection e' with ea _ ec
    subst ea ec
    obtain ⟨e0, e1, x, e2, e3⟩ := hbe k (d.waits.getD k ⟨0, []⟩) (get_l _ _ _ hlt)
    obtain ⟨ya, yc, rfl, -, hyc⟩ := e3.form rfl
    have hdk := hdl.out (d.waits.getD k ⟨0, []⟩).data (List.mem_append_right _ (List.mem_map_of_mem (List.mem_of_getElem? (get_l _ _ _ hlt))))
    have hkt := snoc_take d.waits k ⟨0, []⟩ hlt
    obtain ⟨y, hy⟩ : ∃ y, d.waits.getD k ⟨0, []⟩ = y := ⟨_, rfl⟩
    rw [hy] at e0 e1 e2 e3 hdk hkt
    clear hy hbe
    obtain ⟨at0, dt⟩ := y
    simp [rWrite] at e0 e2
    simp only at e1 e3 hdk
    have hkll : (d.waits.take k).length ≤ 100000 := Nat.le_trans (List.length_take_le _ _) (by omega)
    rw [hkl] at hkt hkll
    unfold maxLen at z3 hyc
    have e0r : wr.cell? ⟨bb, bo + k * 2, none⟩ = some (.int .i64 at0) := (hBw.cell (p := ⟨bb, bo + k * 2, none⟩) z1).trans e0
    have e2r : wr.cell? ⟨bb, bo + k * 2 + 1, none⟩ = some (.slice ya dt.length yc) := (hBw.cell (p := ⟨bb, bo + k * 2 + 1, none⟩) z1).trans e2
    have e3r : Bytes wr 0 w.heap.size (.slice ya dt.length yc) dt := e3.below hBw (Nat.le_refl _)
    have z1w : bb < wm.heap.size := by omega
    obtain ⟨Pr, hPr⟩ : ∃ Pr : World → Prop, ∀ X, Pr X ↔ ∀ j, j < wm.heap.size → X.heap[j]? = wr.heap[j]? := ⟨_, fun _ => Iff.rfl⟩
    have hp0 : Pr wr.drew := (hPr _).2 (fun _ _ => rfl)
    have hS0 : ∀ k, wr.heap.size ≤ k → boxS w.heap.size 3 k = false := fun k hk => boxS_no (by omega)
    have x1 := fun X => (blk_cell (((hPr _).1 (selW_pr hp0 X) (w.heap.size + 2) (by omega)).trans q5) 1)
    have x2 := fun X => (blk_cell (((hPr _).1 (selW_pr hp0 X) w.heap.size (by omega)).trans qd) 1)
    have x3 := fun X => (heap_cell ((hPr _).1 (selW_pr hp0 X) bb z1w) (bo + k * 2)).trans e0r
    have x4 := fun X => (heap_cell ((hPr _).1 (selW_pr hp0 X) bb z1w) (bo + k * 2 + 1)).trans e2r
    simp at x1 x2
    have HP := Lib.hid (And.intro q5 (And.intro hsame (And.intro hsz (And.intro hBw (And.intro hkt (And.intro hkl (And.intro hown (And.intro e3r (And.intro e1 hS0)))))))))
    clear q5 hown hsame hsz hBw hkt hkl e0 e1 e2 e3 e0r e2r e3r hS0 qd
    go_wp2_with fail
    refine wp_region_L (S := Kl Pr wr.drew) 19 (by kernel_rfl) (Kl.of hp0) (fun hCl => ?_)
    refine wpAnyL_seg (fuel := 6) (by kernel_rfl) (fun _ d _ _ _ h => by cases d <;> exact h) hCl [0, 1, 2, 3, 4, 5, 6, 7, 8, 9, 10, 11, 12, 13] _ _ _ (by kernel_rfl) (by kernel_rfl) (by kernel_rfl) (by kernel_rfl) ?_
    simp only [opsOf_cons, opsOf_nil, consOp_some, List.getElem?_toArray, List.getElem?_cons_succ, List.getElem?_cons_zero]
    repeat (first | go_big_quiet_step (fail) | quiet_step (fail))
    refine wpQuiet_nil ?_
    refine wpAnyL_each (fuel := 5) [14] (by kernel_rfl) (by simp) (by kernel_rfl) ?_
    refine EachL.cons _ rfl (fun K' hK => ?_) EachL.nil
    refine if_yes (by kernel_rfl) ?_
    refine wp_appB (.const (.slice none 0 0)) (.tmp 44) 22 rfl 5 Try.underlying22 info_u8 wr.heap.size (.slice none 0 0) [] rfl (OwnB.nil_ _ _ _) 0 w.heap.size (.slice ya dt.length yc) dt rfl HP.out.2.2.2.2.2.2.2.1 (by show 0 + dt.length ≤ _; omega) (Nat.le_refl _) ?_
    intro v1 v1w hown1 hB1 _hf1
    have hst : Pr v1w := (hPr _).2 (fun j hj => hB1.block j (Nat.lt_of_lt_of_le hj HP.out.2.2.1))
    obtain ⟨a1, c1, hv1⟩ := own_form hown1
    rw [List.nil_append] at hv1 hown1
    subst hv1
    have HO1 := Lib.hid (And.intro hown1 hB1)
    have HST1 := Lib.hid hst
    clear hown1 hB1 _hf1
    have hCl : Kl Pr wr.drew _ := Kl.of hst
    refine hK.out (.inr hCl) ?_
    clear hK K'
    refine wpAnyL_each (fuel := 4) [15] (by kernel_rfl) (by simp) (by kernel_rfl) ?_
    refine EachL.cons _ rfl (fun K' hK => ?_) EachL.nil
    go_simp
    have hst := HST1.out
    have hCl : Kl Pr wr.drew _ := Kl.of hst
    refine hK.out (.inr hCl) ?_
    clear hK K'
    refine wpAnyL_each (fuel := 3) [16] (by kernel_rfl) (by simp) (by kernel_rfl) ?_
    refine EachL.cons _ rfl (fun K' hK => ?_) EachL.nil
    go_simp
    have hst : Pr (v1w.alloc (.cells #[.int .i64 at0, .slice a1 dt.length c1] 50)) := (hPr _).2 (fun j hj => (Below.heap_alloc v1w _ j (Nat.lt_of_lt_of_le hj (Nat.le_trans HP.out.2.2.1 HO1.out.2.size))).trans ((hPr _).1 HST1.out j hj))
    have HST2 := Lib.hid hst
    have hCl : Kl Pr wr.drew _ := Kl.of hst
    refine hK.out (.inr hCl) ?_
    clear hK K'
    refine wpAnyL_each (fuel := 2) [17] (by kernel_rfl) (by simp) (by kernel_rfl) ?_
    refine EachL.cons _ rfl (fun K' hK => ?_) EachL.nil
    refine if_yes (by kernel_rfl) ?_
    obtain ⟨hra, hrb⟩ := row_write1 (T2 := 50) HP.out.2.2.2.2.2.2.1 HP.out.2.2.2.2.2.2.2.2.2 (w0 := wr.drew) rfl HO1.out.2 HO1.out.1.bytes (Nat.le_trans (Nat.le_refl _) HP.out.2.2.1) HP.out.2.2.2.2.2.2.2.2.1
    refine wp_appR rWrite_ck (.tmp 32) (.tmp 47) 24 rfl 50 (.agg #[.int .i64 0, .slice none 0 0]) 32 Try.underlying24 (by kernel_rfl) rfl (by decide) wm.heap.size wm.heap.size (boxS w.heap.size 3) _ kl [(⟨at0, dt⟩ : WrL)] rfl hra (fun k hk => HP.out.2.2.2.2.2.2.2.2.2 k (Nat.le_trans HO1.out.2.size (Nat.le_trans (by rw [World.size_alloc]; exact Nat.le_succ _) hk))) ⟨v1w.heap.size, 0, none⟩ 1 [.int .i64 at0, .slice a1 dt.length c1] rfl rfl (news_one #[.int .i64 at0, .slice a1 dt.length c1] 50) (by intro u hu; simp at hu; rcases hu with rfl | rfl <;> rfl) hrb (by show kl.length + 1 ≤ 1000000; omega) (by decide) (Nat.le_trans HP.out.2.2.1 (Nat.le_trans HO1.out.2.size (by rw [World.size_alloc]; exact Nat.le_succ _))) ?_
    intro a4 c4 z2 hown4 hB4 _hf4
    have hst : Pr z2 := (hPr _).2 (fun j hj => (hB4.block j hj).trans ((hPr _).1 HST2.out j hj))
    rw [show (kl ++ [((⟨at0, dt⟩ : WrL))]).length = kl.length + 1 by simp] at hown4 ⊢
    have k5 := ((hPr _).1 hst (w.heap.size + 2) (by have := HWS.out; omega)).trans HP.out.1
    have j1 := blk_cell k5 1
    have jf := blk_frozen k5 1
    simp at j1
    have HO := Lib.hid (And.intro hown4 (And.intro hB4 (And.intro HO1.out.2 k5)))
    clear hown4 hB4 k5 hra hrb _hf4
    have hCl : Kl Pr wr.drew _ := Kl.of hst
    refine hK.out (.inr hCl) ?_
    clear hK K'
    refine wpAnyL_seg (fuel := 1) (by kernel_rfl) (fun _ d _ _ _ h => by cases d <;> exact h) hCl [18] _ _ _ (by kernel_rfl) (by kernel_rfl) (by kernel_rfl) (by kernel_rfl) ?_
    simp only [opsOf_cons, opsOf_nil, consOp_some, List.getElem?_toArray, List.getElem?_cons_succ, List.getElem?_cons_zero]
    repeat (first | go_big_quiet_step (fail) | quiet_step (fail))
    refine wpQuiet_nil ?_
    refine wpAnyL_each (fuel := 0) [19] (by kernel_rfl) (by simp) (by kernel_rfl) ?_
    refine EachL.cons _ rfl (fun K' hK => ?_) EachL.nil
    go_simp
    refine hK.out (.inl rfl) ?_
    clear hK K'
    refine wpAnyL_done (by kernel_rfl) ?_ _
    go_wp2
    go_roundw
    case rel =>
      obtain ⟨hown4, hB4, hb1, k5⟩ := HO.out
      obtain ⟨q5, hsame, hsz, hBw, hkt, hkl, hown, e3r, e1, hS0⟩ := HP.out
      have hs := set_other z2 (w.heap.size + 2) 1 (.slice a4 (kl.length + 1) c4)
      have hst2 := (hPr _).1 hst
      have hl : (kl ++ [(⟨at0, dt⟩ : WrL)]).length = kl.length + 1 := by simp
      refine ⟨k + 1, a4, c4, by omega, by go_num, ?_, ?_, fun j h1 h2 => (hs j h2).trans ((hst2 j h1).trans (hsame j h1 h2)), ?_, ?_⟩
      · rw [hkt, hl]
        exact set_block k5 1 _
      · rw [hkt, hl]
        exact hown4.setS rWrite_ck ⟨w.heap.size + 2, 1, none⟩ _ (boxS_yes (by show w.heap.size ≤ w.heap.size + 2; omega) (by show w.heap.size + 2 < w.heap.size + 3; omega))
      · rw [World.size_setCell]
        exact Nat.le_trans hsz (Nat.le_trans hb1.size (Nat.le_trans (by rw [World.size_alloc]; exact Nat.le_succ _) hB4.size))
      · exact (((hBw.drew.trans (hb1.mono hBw.size)).alloc (Nat.le_trans hBw.size hb1.size) _).trans (hB4.mono (by omega))).setCell (p := ⟨w.heap.size + 2, 1, none⟩) (by show w.heap.size ≤ w.heap.size + 2; omega) _
    case measure => simp [intOf]; omega
  obtain rfl : k = d.waits.length := by omega
  rw [List.take_length] at hkl
  subst hkl
  have hwl := hown.sl rWrite_ck (lo' := wm.heap.size) (Nat.le_refl _) (Nat.le_refl _)
  have q1 := (hsame (w.heap.size + 1) (by omega) (by omega)).trans HM.out.2.2.1
  have hbl : Sl rBytes wr W.heap.size wm.heap.size (.slice a5 d.blocks.length c5) d.blocks := HM.out.2.2.2.1.keep fun b o h1 h2 => ⟨heap_cell (hsame b h2 (by have := HWS.out; omega)) o, heap_frozen (hsame b h2 (by have := HWS.out; omega)) o⟩
  have r0 := blk_cell q1 0
  have r1 := blk_cell q1 1
  have f0 := blk_frozen q1 0
  have f1 := blk_frozen q1 1
  simp at r0 r1
  have hWs := HWS.out
  have HZ := Lib.hid (And.intro hbl (And.intro hwl (And.intro hsz hBw)))
  clear q5 hown hsame hsz hBw qd q1 hbl hwl hlt hk
  go_wp2
  refine bodyPost_ret (v := .agg #[.slice a5 d.blocks.length c5, .slice a6 d.waits.length c6]) (by simp [results, Try.results6, go_sem, r0, r1]) rfl ?_
  obtain ⟨hbl, hwl, hsz, hBw⟩ := HZ.out
  have hk2 : ∀ lo hi, w.heap.size + 3 ≤ lo → Kp lo hi wr ((wr.setCell ⟨w.heap.size + 1, 0, none⟩ (.slice a5 d.blocks.length c5)).setCell ⟨w.heap.size + 1, 1, none⟩ (.slice a6 d.waits.length c6)) := fun lo hi h => kp_two wr _ _ 1 (by omega)
  refine ⟨_, _, rfl, ⟨⟨(hbl.keep (hk2 _ _ (by omega))).more (by omega) (by rw [World.size_setCell, World.size_setCell]; exact hsz), (hwl.keep (hk2 _ _ (by omega))).more (by omega) (by rw [World.size_setCell, World.size_setCell]; exact Nat.le_refl _)⟩, ?_⟩⟩
  exact (hBw.setCell (p := ⟨w.heap.size + 1, 0, none⟩) (Nat.le_succ _) _).setCell (p := ⟨w.heap.size + 1, 1, none⟩) (Nat.le_succ _) _
end Go.Proofs.Ythealkfpflkipaa

namespace Go.Proofs.Ythealkfpflkipaa
open Go.RowKit

/-- A slice of n cells, each of which holds a byte and may be written. -/
def SpoB (w : World) (lo hi : Nat) (v : Value) (n : Nat) : Prop := ∃ a c, v = .slice a n c ∧ n ≤ c ∧ c ≤ maxLen ∧
  (0 < n → ∃ b off, a = some ⟨b, off, none⟩ ∧ lo ≤ b ∧ b < hi ∧ ∀ i, i < n → ∃ x : UInt8, w.cell? ⟨b, off + i, none⟩ = some (bV x) ∧ w.frozen? ⟨b, off + i, none⟩ = false)
theorem SpoB.of {w : World} {lo hi : Nat} {v : Value} {l : List UInt8} (h : Bytes w lo hi v l) (ht : Thawed w v) : SpoB w lo hi v l.length := by
  obtain ⟨a, c, rfl, h1, h2, h3, h4⟩ := h
  refine ⟨a, c, rfl, h1, h2, fun hp => ?_⟩
  obtain ⟨b, off, rfl, hlo, hhi, hc⟩ := h3 hp
  exact ⟨b, off, rfl, hlo, hhi, fun i hi => ⟨l[i], hc i l[i] (by simp [hi]), ht _ _ _ _ rfl i hi⟩⟩
/-- A byte is stored where there was one: bytes stay bytes. -/
theorem SpoB.set {w : World} {lo hi : Nat} {v : Value} {n : Nat} (h : SpoB w lo hi v n) (p : Addr) (x y : UInt8) (hp : w.cell? p = some (bV x)) : SpoB (w.setCell p (bV y)) lo hi v n := by
  obtain ⟨a, c, e, h1, h2, h3⟩ := h
  refine ⟨a, c, e, h1, h2, fun hn => ?_⟩
  obtain ⟨b, off, ea, hlo, hhi, hc⟩ := h3 hn
  refine ⟨b, off, ea, hlo, hhi, fun i hi => ?_⟩
  obtain ⟨z, hz, hf⟩ := hc i hi
  by_cases e : p = ⟨b, off + i, none⟩
  · subst e
    exact ⟨y, World.cell?_setCell_same' _ _ _ (by rw [hz]; rfl), by rw [World.frozen?_setCell]; exact hf⟩
  · exact ⟨z, by rw [World.cell?_setCell_other _ _ _ _ e]; exact hz, by rw [World.frozen?_setCell]; exact hf⟩
theorem SpoB.below {w w' : World} {lo hi B : Nat} {v : Value} {n : Nat} (h : SpoB w lo hi v n) (hb : Below B w w') (hB : hi ≤ B) : SpoB w' lo hi v n := by
  obtain ⟨a, c, e, h1, h2, h3⟩ := h
  refine ⟨a, c, e, h1, h2, fun hn => ?_⟩
  obtain ⟨b, off, ea, hlo, hhi, hc⟩ := h3 hn
  refine ⟨b, off, ea, hlo, hhi, fun i hi => ?_⟩
  obtain ⟨z, hz, hf⟩ := hc i hi
  exact ⟨z, (hb.cell (p := ⟨b, off + i, none⟩) (by show b < B; omega)).trans hz, (hb.frozen (p := ⟨b, off + i, none⟩) (by show b < B; omega)).trans hf⟩
/-- A cell that holds no byte stays. -/
theorem spo_other {w : World} {p q : Addr} {x : UInt8} {y : UInt8} {v : Value} (hp : w.cell? p = some (bV x)) (hq : w.cell? q = some v) (hv : ∀ z : UInt8, v ≠ bV z) : (w.setCell p (bV y)).cell? q = some v := by
  rw [World.cell?_setCell_other _ _ _ _ (fun e => ?_)]
  · exact hq
  · subst e
    rw [hp] at hq
    exact hv x (Option.some.inj hq).symm
/-- A slice of k elements of n cells, number f of which holds such a slice of bytes. -/
def SpS (n f : Nat) (w : World) (lo hi : Nat) (s : Value) (k : Nat) : Prop := ∃ a c, s = .slice a k c ∧ k ≤ c ∧ c ≤ maxLen ∧
  (0 < k → ∃ b off, a = some ⟨b, off, none⟩ ∧ lo ≤ b ∧ b < hi ∧ ∀ i, i < k → ∃ x c m, w.cell? ⟨b, off + i * n + f, none⟩ = some (.slice x m c) ∧ SpoB w lo hi (.slice x m c) m)
theorem SpoB.form {w : World} {lo hi : Nat} {v : Value} {n : Nat} (h : SpoB w lo hi v n) : ∃ a c, v = .slice a n c ∧ n ≤ c ∧ c ≤ maxLen := by
  obtain ⟨a, c, e, h1, h2, -⟩ := h
  exact ⟨a, c, e, h1, h2⟩
theorem SpS.of_b {w : World} {lo hi : Nat} {s : Value} {l : List (List UInt8)} (h : Sl rBytesT w lo hi s l) : SpS 1 0 w lo hi s l.length := by
  obtain ⟨a, c, rfl, h1, h2, h3, -⟩ := h
  refine ⟨a, c, rfl, h1, h2, fun hp => ?_⟩
  obtain ⟨b, off, rfl, hlo, hhi, hc⟩ := h3 hp
  refine ⟨b, off, rfl, hlo, hhi, fun i hi => ?_⟩
  obtain ⟨v, g1, g2, g3⟩ := hc i l[i] (by simp [hi])
  have hs := SpoB.of g2 g3
  obtain ⟨x, k, rfl, -⟩ := hs.form
  exact ⟨x, k, _, g1, hs⟩
theorem SpS.of_w {w : World} {lo hi : Nat} {s : Value} {l : List WrL} (h : Sl rWriteT w lo hi s l) : SpS 2 1 w lo hi s l.length := by
  obtain ⟨a, c, rfl, h1, h2, h3, -⟩ := h
  refine ⟨a, c, rfl, h1, h2, fun hp => ?_⟩
  obtain ⟨b, off, rfl, hlo, hhi, hc⟩ := h3 hp
  refine ⟨b, off, rfl, hlo, hhi, fun i hi => ?_⟩
  obtain ⟨-, -, v, g1, g2, g3⟩ := hc i l[i] (by simp [hi])
  have hs := SpoB.of g2 g3
  obtain ⟨x, k, rfl, -⟩ := hs.form
  exact ⟨x, k, _, g1, hs⟩
theorem SpS.set {n f : Nat} {w : World} {lo hi : Nat} {s : Value} {k : Nat} (h : SpS n f w lo hi s k) (p : Addr) (x y : UInt8) (hp : w.cell? p = some (bV x)) : SpS n f (w.setCell p (bV y)) lo hi s k := by
  obtain ⟨a, c, e, h1, h2, h3⟩ := h
  refine ⟨a, c, e, h1, h2, fun hn => ?_⟩
  obtain ⟨b, off, ea, hlo, hhi, hc⟩ := h3 hn
  refine ⟨b, off, ea, hlo, hhi, fun i hi => ?_⟩
  obtain ⟨u, c2, m, g1, g2⟩ := hc i hi
  exact ⟨u, c2, m, spo_other hp g1 (fun z e => by cases e), g2.set p x y hp⟩
theorem SpS.below {n f : Nat} {w w' : World} {lo hi B : Nat} {s : Value} {k : Nat} (h : SpS n f w lo hi s k) (hb : Below B w w') (hB : hi ≤ B) : SpS n f w' lo hi s k := by
  obtain ⟨a, c, e, h1, h2, h3⟩ := h
  refine ⟨a, c, e, h1, h2, fun hn => ?_⟩
  obtain ⟨b, off, ea, hlo, hhi, hc⟩ := h3 hn
  refine ⟨b, off, ea, hlo, hhi, fun i hi => ?_⟩
  obtain ⟨u, c2, m, g1, g2⟩ := hc i hi
  exact ⟨u, c2, m, (hb.cell (p := ⟨b, off + i * n + f, none⟩) (by show b < B; omega)).trans g1, g2.below hb hB⟩
end Go.Proofs.Ythealkfpflkipaa

