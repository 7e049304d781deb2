/- RingLost: the words and contracts, part 11. -/
import Derived.Test.YtcibihakjcenaaaRingLostQ1
import Derived.Test.YtcibihakjcenaaaRingLostQ2
import Derived.Test.YtcibihakjcenaaaRingLostQ3
import Derived.Test.YtcibihakjcenaaaRingLostQ4
import Derived.Test.YtcibihakjcenaaaRingLostQ5
import Derived.Test.YtcibihakjcenaaaRingLostQ6
import Derived.Test.YtcibihakjcenaaaRingLostQ7
import Derived.Test.YtcibihakjcenaaaRingLostQ8
import Derived.Test.YtcibihakjcenaaaRingLostQ9
import Derived.Test.YtcibihakjcenaaaRingLostQ10
import Derived.WalkKit
import Derived.WalkLawsBesides
import Derived.WalkSpells
import Derived.Lib.Hide
import Derived.Laws.Rows
import Derived.Laws.AppendOwnNone
import Derived.Maps.AppendAt
import Derived.RangeFuncNested
import Derived.RangeFuncBound
import Derived.RangeFuncCalls
import Derived.RangeFuncLeaves
import Derived.RangeFuncBox
import Derived.Shelf.Abstract
import Derived.Shelf.RegionOpen
import Derived.OwnWalkIn
import Derived.TacticsInMore
import Derived.LoopNIn
import Derived.LoopIn
import Derived.ProofKit
import Derived.Deep.Slices
import Derived.WideShapes
import Derived.OrdersHeld
import Derived.Deep.QuietTactic
import Derived.BigQuiet
import Derived.StillTailTactics
import Derived.OpenShut
import Derived.Lib.SliceRun
import Derived.Lib.AppendZerosOnto
import Derived.Lib.Walk
import Derived.Deep.LoopGhost
import Derived.Laws.CopyOwn
import Derived.Deep.DeepCutAuto
import Derived.Laws.CopyRow
import Derived.Laws.MakeOwn
import Derived.Deep.RegionHeld
namespace Go.Proofs.Ytcibihakjcenaaa
open Go.RowKit

set_option maxHeartbeats 1000000 in
/-- slices.Clone at slices of slices. -/
theorem rclone_any (v : Value) (l : List (List UInt8)) (w : World) (hI : Sl rBytes w 0 w.heap.size v l) (h0 : 0 < l.length) (hl : l.length ≤ 100000) :
    Calls Try.prog 134 #[v] w fun e w' => ∃ g cap cur, e = .returned (.slice (some ⟨g, 0, none⟩) l.length cap) ∧ w.heap.size ≤ g ∧ w'.heap[g]? = some (.cells cur 26 (0, 0)) ∧ l.length ≤ cap ∧ cap ≤ maxLen ∧
      (∀ i, i < l.length → ∃ x, cur[i]? = some x ∧ Bytes w 0 w.heap.size x (l.getD i [])) ∧ Below w.heap.size w w' := by
  obtain ⟨b, off, c, rfl, -, g0, g1, g2, g3⟩ := hI.at_ h0
  have hnil := fun (w : World) (a : Option Addr) (n c n' c' : Nat) => Lib.run_eql_slice_nil (P := Try.prog) w 41 26 a n c n' c' Try.underlying41
  obtain ⟨xs, hxl, hxa⟩ := list_of (n := l.length) (p := fun i (x : Value) => w.cell? ⟨b, off + i, none⟩ = some x ∧ Bytes w 0 w.heap.size x (l.getD i [])) (fun i hi => by
    obtain ⟨x, h1, h2⟩ := g3 i _ (get_l l [] i hi)
    exact ⟨x, by simpa [rBytes] using h1, h2⟩)
  obtain ⟨i0, hi0, hz0, hz1, hz2⟩ := info_parts (P := Try.prog) (e := 26) (z := .slice none 0 0) (size := 1) (bytes := 24) (by kernel_rfl)
  have hown : (w.alloc (.cells #[] 26)).ownsRow w.heap.size 26 1 (.slice (some ⟨w.heap.size, 0, none⟩) 0 0) 0 [] := ⟨rfl, .inr ⟨w.heap.size, 0, #[], rfl, Nat.le_refl _, World.alloc_heap_new w _, Nat.le_refl _, Nat.zero_le _, rfl, rfl⟩⟩
  have hb0 := (Below.refl w.heap.size w).alloc (Nat.le_refl _) (.cells #[] 26)
  have hcl : ∀ j u, xs[j]? = some u → (w.alloc (.cells #[] 26)).cell? ((⟨b, off, none⟩ : Addr).add j) = some u := by
    intro j u hu
    have e2 : (⟨b, off, none⟩ : Addr).add j = ⟨b, off + j, none⟩ := by unfold Addr.add; split <;> simp_all
    rw [e2]
    exact (hb0.cell (p := ⟨b, off + j, none⟩) g0).trans (hxa j u hu).1
  have hone : ∀ u ∈ xs, u.oneCell' = true := by
    intro u hu
    obtain ⟨j, hj⟩ := List.mem_iff_getElem?.1 hu
    obtain ⟨a, cc, rfl, -⟩ := (hxa j u hj).2
    rfl
  have HX := Lib.hid (And.intro hxl (And.intro hxa (And.intro hb0 (And.intro hcl hone))))
  clear hxl hxa hb0 hcl hone g3
  unfold maxLen at g2
  go_enter Try.func134, Try.ntmps134
  go_wp2_with (at_builtin; refine wpList_append_own _ rfl (.tmp 5) (.tmp 6) 41 rfl w.heap.size 26 i0 _ 1 24 Try.underlying41 hi0 hz0 hz1 hz2 rfl (by decide) _ 0 [] rfl hown ⟨b, off, none⟩ l.length c xs rfl (by rw [HX.out.1, Nat.mul_one]) HX.out.2.2.2.1 HX.out.2.2.2.2 (by unfold maxLen; omega) (by omega) (by simp) ?_; intro v' w1 hown1 hg1 _)
  obtain ⟨hl2, hrow⟩ := hown1
  rcases hrow with ⟨-, hz⟩ | ⟨g', cap, cur', rfl, hg', hh', hk1, hk2, hk3, hk4⟩
  · exfalso; omega
  have hB := HX.out.2.2.1.grown hg1 (by simp) (fun k e => by cases e; exact Nat.le_refl _)
  simp only [Nat.zero_add, List.nil_append] at *
  go_wp2
  go_ret
  refine ⟨g', cap, cur', rfl, hg', hh', hk1, hk2, fun i hi => ?_, hB⟩
  have hxi : xs[i]? = some (xs[i]'(by have := HX.out.1; omega)) := by simp
  refine ⟨_, ?_, (HX.out.2.1 i _ hxi).2⟩
  rw [← hxi, ← hk4, List.getElem?_take, if_pos (by omega)]
  simp

/-- Some writes are made to last. -/
def putW (bl : List (List UInt8)) (l : List WrL) : List (List UInt8) := l.foldl (fun bl x => bl.set x.at_.toNat x.data) bl
theorem putW_length (bl : List (List UInt8)) (l : List WrL) : (putW bl l).length = bl.length := by
  induction l generalizing bl with
  | nil => rfl
  | cons x l ih => show (putW (bl.set _ _) l).length = _; rw [ih, List.length_set]
theorem putW_snoc (bl : List (List UInt8)) (l : List WrL) (x : WrL) : putW bl (l ++ [x]) = (putW bl l).set x.at_.toNat x.data := by simp [putW]
theorem putW_take (bl : List (List UInt8)) (l : List WrL) (k : Nat) (h : k < l.length) : putW bl (l.take (k + 1)) = (putW bl (l.take k)).set (l.getD k ⟨0, []⟩).at_.toNat (l.getD k ⟨0, []⟩).data := by
  rw [List.take_add_one, List.getElem?_eq_getElem h]
  show putW bl (l.take k ++ [l[k]]) = _
  rw [putW_snoc]
  simp [h]
theorem putW_mem (bl : List (List UInt8)) (l : List WrL) (h1 : ∀ x ∈ bl, x.length = 128) (h2 : ∀ x ∈ l, x.data.length = 128) : ∀ x ∈ putW bl l, x.length = 128 := by
  induction l generalizing bl with
  | nil => exact h1
  | cons y l ih =>
    refine ih (bl.set _ _) (fun x hx => ?_) (fun x hx => h2 x (List.mem_cons_of_mem _ hx))
    rcases List.mem_or_eq_of_mem_set hx with hx | rfl
    · exact h1 x hx
    · exact h2 y (List.mem_cons_self ..)

theorem kp_two {lo hi r : Nat} (z : World) (a b : Value) (i : Nat) (h : r < lo) : Kp lo hi z ((z.setCell ⟨r, 0, none⟩ a).setCell ⟨r, i, none⟩ b) := fun k o h1 _ =>
  have e := (set_other _ r i b k (by omega)).trans (set_other z r 0 a k (by omega))
  ⟨heap_cell e o, heap_frozen e o⟩
theorem DiskT.keep {w w' : World} {lo hi : Nat} {b u : Value} {d : DiskL} (h : DiskT w lo hi b u d) (hk : Kp lo hi w w') : DiskT w' lo hi b u d := ⟨Sl.keep h.1 hk, Sl.keep h.2 hk⟩

set_option maxRecDepth 100000 in
set_option maxHeartbeats 1000000 in
/-- dev.settle. -/
theorem settle_any (b u : Value) (d : DiskL) (v : Value) (l : List WrL) (w : World) (h : DiskV w 0 w.heap.size b u d) (hv : Sl rWrite w 0 w.heap.size v l) (hm : mayD d = true) (hl : l.length ≤ 100000) (hlw : ∀ x ∈ l, 0 ≤ x.at_ ∧ x.at_ < 256 ∧ x.data.length = 128) :
    Calls Try.prog 99 #[.agg #[b, u], v] w fun e w' => ∃ b' u', e = .returned (.agg #[b', u']) ∧ MadeD w w' b' u' ⟨putW d.blocks l, []⟩ := by
  obtain ⟨hm1, hm2, hm3, hm4⟩ := may_len hm
  have hB := ((Below.refl w.heap.size w).alloc (Nat.le_refl _) (.cells #[b, u] 44)).alloc (by simp) (.cells #[.slice none 0 0, .slice none 0 0] 44)
  have hD := h.step ((Below.refl w.heap.size w).alloc (Nat.le_refl _) (.cells #[b, u] 44))
  have hD := hD.step ((Below.refl _ (w.alloc (.cells #[b, u] 44))).alloc (Nat.le_refl _) (.cells #[.slice none 0 0, .slice none 0 0] 44))
  have hq := two_new w (.cells #[b, u] 44) (.cells #[.slice none 0 0, .slice none 0 0] 44)
  have hcl := fun V hh => rclone_any b d.blocks V hh (by omega) (by omega)
  obtain ⟨ab, cb, rfl, g1, g2, -, -⟩ := h.1
  obtain ⟨au, cu, rfl, g1', g2', -, -⟩ := h.2
  obtain ⟨av, cv, rfl, y1, y2, -, -⟩ := id hv
  have hvW := hv.step ((Below.refl w.heap.size w).alloc (Nat.le_refl _) (.cells #[.slice ab d.blocks.length cb, .slice au d.waits.length cu] 44))
  have hvW := hvW.step ((Below.refl _ (w.alloc (.cells #[.slice ab d.blocks.length cb, .slice au d.waits.length cu] 44))).alloc (Nat.le_refl _) (.cells #[.slice none 0 0, .slice none 0 0] 44))
  unfold maxLen at g2 g2' y2
  clear h hv
  obtain ⟨W, hW⟩ : ∃ W, (w.alloc (.cells #[.slice ab d.blocks.length cb, .slice au d.waits.length cu] 44)).alloc (.cells #[.slice none 0 0, .slice none 0 0] 44) = W := ⟨_, rfl⟩
  rw [hW] at hB hD hq hvW
  have H0 := Lib.hid hvW
  clear hvW
  have HM := Lib.hid (And.intro hm1 (And.intro hm3 hlw))
  have HC := Lib.hid hcl
  have HQ := Lib.hid (And.intro hD (And.intro hB hq))
  have c0 := blk_cell hq.1 0
  have c1 := blk_cell hq.1 1
  simp at c0 c1
  clear hm1 hm2 hm3 hm4 hlw hcl hD hB hq hm
  go_enter Try.func99, Try.ntmps99
  go_wp2_with fail
  refine (HC.out W HQ.out.1.1).mono ?_
  rintro e w1 ⟨gr, cap, cur, rfl, hgr, hcur, hk1, hk2, hcv, hst⟩
  obtain ⟨hD, hB, q0, q1⟩ := HQ.out
  replace q0 := (hst.block _ (Array.getElem?_eq_some_iff.1 q0).1).trans q0
  replace q1 := (hst.block _ (Array.getElem?_eq_some_iff.1 q1).1).trans q1
  have hBW := hB
  replace hB := below_step hB hB.size hst
  clear c0 c1
  go_upto_region 2 with (fail)
  have q5 := World.alloc_heap_new w1 (.cells #[.slice (some ⟨gr, 0, none⟩) d.blocks.length cap, .slice none 0 0] 44)
  have hst2 := (Below.refl w1.heap.size w1).alloc (Nat.le_refl _) (.cells #[.slice (some ⟨gr, 0, none⟩) d.blocks.length cap, .slice none 0 0] 44)
  have hl1 := (Array.getElem?_eq_some_iff.1 q1).1
  replace q0 := (hst2.block _ (Array.getElem?_eq_some_iff.1 q0).1).trans q0
  replace q1 := (hst2.block _ (Array.getElem?_eq_some_iff.1 q1).1).trans q1
  have hlr := (Array.getElem?_eq_some_iff.1 hcur).1
  replace hcur := (hst2.block _ hlr).trans hcur
  replace hB := below_step hB hB.size hst2
  have hwW : w.heap.size + 1 < W.heap.size := by
    have := (Array.getElem?_eq_some_iff.1 HQ.out.2.2.2).1
    exact this
  have hBW2 := below_step hst hst.size hst2
  obtain ⟨w2, hw2⟩ : ∃ w2, w1.alloc (.cells #[.slice (some ⟨gr, 0, none⟩) d.blocks.length cap, .slice none 0 0] 44) = w2 := ⟨_, rfl⟩
  rw [hw2] at q5 q0 q1 hcur hB hBW2 ⊢
  obtain ⟨g5, hg5⟩ : ∃ g5, w1.heap.size = g5 := ⟨_, rfl⟩
  rw [hg5] at q5 hlr hl1 ⊢
  have HG := Lib.hid (show (gr ≠ g5 ∧ w.heap.size + 1 ≠ g5 ∧ w.heap.size + 1 ≠ gr ∧ w.heap.size ≤ gr ∧ W.heap.size ≤ gr ∧ w.heap.size + 1 < W.heap.size ∧ w.heap.size ≤ g5) from ⟨by omega, by omega, by omega, by omega, hgr, hwW, by omega⟩)
  have HQ2 := Lib.hid (And.intro q5 (And.intro hcur (And.intro q1 (And.intro hB hBW2))))
  have HV := Lib.hid (And.intro hcv (And.intro hk1 hk2))
  clear hw2 hg5 q5 q0 q1 hcur hB hst hst2 hBW hBW2 hlr hl1 hwW hgr hcv hD hW HQ HC
  go_wp2_with fail
  go_loopw [14] (fun i wr => ∃ (k : Nat) (cur : Array Value), k ≤ l.length ∧ i = .int .i64 k ∧ wr.heap[g5]? = some (.cells #[.slice (some ⟨gr, 0, none⟩) d.blocks.length cap, .slice none 0 0] 44 (0, 0)) ∧ wr.heap[gr]? = some (.cells cur 26 (0, 0)) ∧ wr.heap[w.heap.size + 1]? = some (.cells #[.slice none 0 0, .slice none 0 0] 44 (0, 0)) ∧ Below w.heap.size w wr ∧ Below W.heap.size W wr ∧
    ∀ i, i < d.blocks.length → ∃ x, cur[i]? = some x ∧ Bytes wr 0 W.heap.size x ((putW d.blocks (l.take k)).getD i [])) (fun i _ => l.length - (intOf i).toNat)
  case atStart => exact ⟨0, cur, Nat.zero_le _, rfl, HQ2.out.1, HQ2.out.2.1, HQ2.out.2.2.1, HQ2.out.2.2.2.1, HQ2.out.2.2.2.2, fun i hi => by
    obtain ⟨x, h1, h2⟩ := HV.out.1 i hi
    exact ⟨x, h1, by simpa [putW] using h2.below HQ2.out.2.2.2.2 (Nat.le_refl _)⟩⟩
  case round =>
  obtain ⟨k, cur2, hk, rfl, q5, qr, q1, hB, hBW, hcv⟩ := hrel
  by_cases hlt : k < l.length
  · obtain ⟨bb, bo, cb', e', -, z1, z2, z3, hbe⟩ := (H0.out.below hBW (Nat.le_refl _)).at_ (by omega)
    injection e' with ea _ ec
    subst ea ec
    obtain ⟨f0, f1, x, f2, f3⟩ := hbe k (l.getD k ⟨0, []⟩) (get_l _ _ _ hlt)
    obtain ⟨ya, yc, rfl, -, hyc⟩ := f3.form rfl
    have hx := HM.out.2.2 _ (List.mem_of_getElem? (get_l l ⟨0, []⟩ k hlt))
    have hput := putW_take d.blocks l k hlt
    obtain ⟨y, hy⟩ : ∃ y, l.getD k ⟨0, []⟩ = y := ⟨_, rfl⟩
    rw [hy] at f0 f1 f2 hx hput f3
    clear hy hbe
    obtain ⟨at0, dt⟩ := y
    obtain ⟨at_, rfl⟩ : ∃ at_ : Nat, at0 = at_ := ⟨at0.toNat, by have := hx.1; simp only at this; omega⟩
    simp [rWrite] at f0 f2
    have hat : at_ < d.blocks.length := by have := HM.out.1; have := hx.2.1; simp only at this; omega
    unfold maxLen at z3 hyc
    obtain ⟨old, hold, -⟩ := hcv at_ hat
    have d0 := blk_cell q5 0
    have cr := (blk_cell qr at_).trans hold
    have fr := blk_frozen qr at_
    simp at d0
    have hlt5 := (Array.getElem?_eq_some_iff.1 q5).1
    have hltr := (Array.getElem?_eq_some_iff.1 qr).1
    have HP := Lib.hid (And.intro q5 (And.intro qr (And.intro q1 (And.intro hB (And.intro hBW (And.intro hcv (And.intro hx (And.intro hput f3))))))))
    clear q5 qr q1 hB hBW hcv hx hput hold f1 f3
    go_wp2_with fail
    go_roundw
    case rel =>
      obtain ⟨q5, qr, q1, hB, hBW, hcv, hx, hput, f3⟩ := HP.out
      have hG := HG.out
      have hset := set_block qr at_ (.slice ya dt.length yc)
      have hoth := set_other wr gr at_ (.slice ya dt.length yc)
      have hszz : (wr.setCell ⟨gr, at_, none⟩ (.slice ya dt.length yc)).heap.size = wr.heap.size := World.size_setCell _ _ _
      have hBz := hB.setCell (p := ⟨gr, at_, none⟩) (by show w.heap.size ≤ gr; omega) (.slice ya dt.length yc)
      have hBWz := hBW.setCell (p := ⟨gr, at_, none⟩) (by show W.heap.size ≤ gr; omega) (.slice ya dt.length yc)
      have hst : Below W.heap.size wr (wr.setCell ⟨gr, at_, none⟩ (.slice ya dt.length yc)) := (Below.refl _ _).setCell (p := ⟨gr, at_, none⟩) (by show W.heap.size ≤ gr; omega) _
      obtain ⟨wz, hwz⟩ : ∃ wz, wr.setCell ⟨gr, at_, none⟩ (.slice ya dt.length yc) = wz := ⟨_, rfl⟩
      rw [hwz] at hset hoth hBz hBWz hszz hst ⊢
      have hWs := hBW.size
      have hal := fun x hx => Below.heap_alloc wz (.cells #[.int .i64 (at_ : Int), .slice ya dt.length yc] 143) x hx
      have hst2 := hst.alloc (by omega) (.cells #[.int .i64 (at_ : Int), .slice ya dt.length yc] 143)
      have hat0 : at_ < (putW d.blocks (l.take k)).length := by rw [putW_length]; exact hat
      refine ⟨k + 1, _, by omega, by go_num, (hal _ (by omega)).trans ((hoth _ (by omega)).trans q5), (hal _ (by omega)).trans hset, (hal _ (by omega)).trans ((hoth _ (by omega)).trans q1), hBz.alloc hBz.size _, hBWz.alloc hBWz.size _, fun i hi => ?_⟩
      rw [hput]
      simp only [Int.toNat_natCast]
      rcases Decidable.em (at_ = i) with rfl | hne
      · have hsz := (Array.getElem?_eq_some_iff.1 ((blk_cell qr at_).symm.trans cr)).1
        refine ⟨.slice ya dt.length yc, by rw [Array.getElem?_setIfInBounds_self_of_lt hsz], ?_⟩
        rw [List.getD_eq_getElem?_getD, List.getElem?_set_self hat0]
        exact f3.below hst2 (Nat.le_refl _)
      · obtain ⟨x, h1, h2⟩ := hcv i hi
        refine ⟨x, by rw [Array.getElem?_setIfInBounds_ne hne]; exact h1, ?_⟩
        rw [List.getD_eq_getElem?_getD, List.getElem?_set_ne hne, ← List.getD_eq_getElem?_getD]
        exact h2.below hst2 (Nat.le_refl _)
    case measure => simp [intOf]; omega
  obtain rfl : k = l.length := by omega
  have d0 := blk_cell q5 0
  have d1 := blk_cell q5 1
  simp at d0 d1
  rw [List.take_length] at hcv
  have hpl : (putW d.blocks l).length = d.blocks.length := putW_length _ _
  have hDp : DiskV wr 0 wr.heap.size (.slice (some ⟨gr, 0, none⟩) d.blocks.length cap) (.slice none 0 0) ⟨putW d.blocks l, []⟩ := by
    refine ⟨⟨_, _, by rw [hpl], by rw [hpl]; exact HV.out.2.1, HV.out.2.2, fun _ => ⟨gr, 0, rfl, Nat.zero_le _, (Array.getElem?_eq_some_iff.1 qr).1, fun i x hx => ?_⟩, fun h => by cases h⟩, Sl.nil_ _ _ _⟩
    have hi : i < d.blocks.length := by rw [← hpl]; exact (List.getElem?_eq_some_iff.1 hx).1
    obtain ⟨y, h1, h2⟩ := hcv i hi
    rw [List.getD_eq_getElem?_getD, hx] at h2
    refine ⟨y, ?_, h2.more (Nat.le_refl _) hBW.size⟩
    show wr.cell? ⟨gr, 0 + i * 1 + 0, none⟩ = _
    rw [blk_cell qr, Nat.zero_add, Nat.mul_one, Nat.add_zero]
    exact h1
  have hTT : (datD ⟨putW d.blocks l, []⟩).flatten.length ≤ 100000000 := dat_le (by show (putW d.blocks l).length ≤ 300; rw [hpl, HM.out.1]; omega) (by simp) (fun x hx => Nat.le_of_eq (putW_mem _ _ HM.out.2.1 (fun x hx => (HM.out.2.2 x hx).2.2) x hx)) (fun x hx => by cases hx)
  have r0 := blk_cell q1 0
  have r1 := blk_cell q1 1
  simp at r0 r1
  have HZ := Lib.hid (And.intro q1 (And.intro hDp (And.intro hTT (And.intro hB hpl))))
  clear q5 qr q1 hB hBW hcv hpl hDp hTT hk hlt
  go_wp2_with fail
  have htw := dtwin_any (.slice (some ⟨gr, 0, none⟩) d.blocks.length cap) (.slice none 0 0) ⟨putW d.blocks l, []⟩ wr HZ.out.2.1 (by show (putW d.blocks l).length ≤ _; rw [HZ.out.2.2.2.2, HM.out.1]; omega) (by simp) HZ.out.2.2.1
  refine htw.mono ?_
  rintro e z ⟨gb, gw, g, cw, rfl, htw, hst⟩
  have p1 := (hst.block _ (Array.getElem?_eq_some_iff.1 HZ.out.1).1).trans HZ.out.1
  have r0' := blk_cell p1 0
  have r1' := blk_cell p1 1
  have f0' := blk_frozen p1 0
  have f1' := blk_frozen p1 1
  simp at r0' r1'
  have HT := Lib.hid (And.intro htw hst)
  clear r0 r1 d0 d1 htw hst p1
  go_wp2
  refine bodyPost_ret (v := .agg #[.slice (some ⟨gb, 0, none⟩) (putW d.blocks l).length (putW d.blocks l).length, .slice (some ⟨gw, 0, none⟩) 0 1]) (by simp [results, Try.results99, go_sem, r0', r1']) rfl ?_
  obtain ⟨q1, hDp, hTT, hB, hpl⟩ := HZ.out
  obtain ⟨htw, hst⟩ := HT.out
  have hdk := htw.disk hTT (by show (putW d.blocks l).length ≤ _; rw [hpl, HM.out.1]; omega) (by simp)
  have hlt := (Array.getElem?_eq_some_iff.1 q1).1
  have hBf := ((below_step hB hB.size hst).setCell (p := ⟨w.heap.size + 1, 0, none⟩) (Nat.le_succ _) (.slice (some ⟨gb, 0, none⟩) (putW d.blocks l).length (putW d.blocks l).length)).setCell (p := ⟨w.heap.size + 1, 1, none⟩) (Nat.le_succ _) (.slice (some ⟨gw, 0, none⟩) 0 1)
  refine ⟨_, _, rfl, (hdk.keep (kp_two z _ _ _ hlt)).more hB.size (by rw [World.size_setCell, World.size_setCell]; exact Nat.le_refl _), hBf⟩
end Go.Proofs.Ytcibihakjcenaaa

namespace Go.Proofs.Ytcibihakjcenaaa
open Go.RowKit

/-- A disk behind a barrier. -/
def barD (d : DiskL) : DiskL := if mayD d then ⟨putW d.blocks d.waits, []⟩ else ⟨[], []⟩

end Go.Proofs.Ytcibihakjcenaaa

