/- DevDoes: the words and contracts, part 12. -/
import Derived.Test.YtldidclnfkmonaaDevDoesQ1
import Derived.Test.YtldidclnfkmonaaDevDoesQ2
import Derived.Test.YtldidclnfkmonaaDevDoesQ3
import Derived.Test.YtldidclnfkmonaaDevDoesQ4
import Derived.Test.YtldidclnfkmonaaDevDoesQ5
import Derived.Test.YtldidclnfkmonaaDevDoesQ6
import Derived.Test.YtldidclnfkmonaaDevDoesQ7
import Derived.Test.YtldidclnfkmonaaDevDoesQ8
import Derived.Test.YtldidclnfkmonaaDevDoesQ9
import Derived.Test.YtldidclnfkmonaaDevDoesQ10
import Derived.Test.YtldidclnfkmonaaDevDoesQ11
import Derived.WalkKit
import Derived.WalkLawsBesides
import Derived.WalkSpells
import Derived.Lib.Hide
import Derived.Laws.Rows
import Derived.Laws.AppendOwnNone
import Derived.Maps.AppendAt
import Derived.RangeFuncNested
import Derived.RangeFuncBound
import Derived.RangeFuncCalls
import Derived.RangeFuncLeaves
import Derived.RangeFuncBox
import Derived.Shelf.Abstract
import Derived.Shelf.RegionOpen
import Derived.OwnWalkIn
import Derived.TacticsInMore
import Derived.LoopNIn
import Derived.LoopIn
import Derived.ProofKit
import Derived.Deep.Slices
import Derived.WideShapes
import Derived.OrdersHeld
import Derived.Deep.QuietTactic
import Derived.BigQuiet
import Derived.StillTailTactics
import Derived.OpenShut
import Derived.Lib.SliceRun
import Derived.Lib.AppendZerosOnto
import Derived.Lib.Walk
import Derived.Deep.LoopGhost
import Derived.Laws.CopyOwn
import Derived.Deep.DeepCutAuto
import Derived.Laws.CopyRow
import Derived.Laws.MakeOwn
import Derived.Deep.RegionHeld
namespace Go.Proofs.Ytldidclnfkmonaa
open Go.RowKit

theorem src_of {w : World} {hi : Nat} (hhi : hi ≤ w.heap.size) {v : Value} {l : List WrL} (h : Sl rWrite w 0 hi v l) : SrcW (trunc w hi) w v l :=
  SrcW.of (by rw [trunc_size hhi]; exact Sl.keep h (trunc_kp hhi)) (trunc_below hhi)

set_option maxRecDepth 100000 in
set_option maxHeartbeats 1000000 in
/-- The reference's Settled, of a disk whose writes may be. -/
theorem rsettled_any (b u : Value) (d : DiskL) (w : World) (hi : Nat) (hhi : hi ≤ w.heap.size) (hbs : Sl rBytes w 0 hi b d.blocks) (hus : Sl rWrite w 0 w.heap.size u d.waits) (hsrc : SrcW (trunc w hi) w u d.waits) (hn0 : 0 < d.blocks.length) (hn : d.blocks.length ≤ 300) (hlw : ∀ x ∈ d.waits, 0 ≤ x.at_ ∧ x.at_ < d.blocks.length) :
    Calls Try.prog 72 #[.agg #[b, u]] w fun e w' => ∃ b' u', e = .returned (.agg #[b', u']) ∧ GotK hi w w' b' u' ⟨putW d.blocks d.waits, []⟩ := by
  have hB : Below w.heap.size w (((w.alloc (.cells #[b, u] 39)).alloc (.cells #[.slice none 0 0, .slice none 0 0] 39)).alloc (.cells #[.slice none 0 0, .slice none 0 0] 39)) := (((Below.refl w.heap.size w).alloc (Nat.le_refl _) _).alloc (by simp) _).alloc (by simp; omega) _
  have hq := three_new w (.cells #[b, u] 39) (.cells #[.slice none 0 0, .slice none 0 0] 39) (.cells #[.slice none 0 0, .slice none 0 0] 39)
  have hT : Sl rBytes (trunc w hi) 0 (trunc w hi).heap.size b d.blocks := by rw [trunc_size hhi]; exact Sl.keep hbs (trunc_kp hhi)
  have hBT := trunc_below hhi
  obtain ⟨T, hTT⟩ : ∃ T, trunc w hi = T := ⟨_, rfl⟩
  rw [hTT] at hT hBT hsrc
  have HTS := Lib.hid (show T.heap.size = hi by rw [← hTT]; exact trunc_size hhi)
  have HTG := Lib.hid (show ∀ k, k < hi → T.heap[k]? = w.heap[k]? from fun k hk => by rw [← hTT]; exact trunc_get hhi k hk)
  clear hTT
  obtain ⟨ab, cb, rfl, g1, g2, -, -⟩ := hbs
  obtain ⟨au, cu, rfl, g3, g4, -, -⟩ := hus
  unfold maxLen at g2 g4
  have HSRC := Lib.hid hsrc
  clear hsrc
  obtain ⟨W, hW⟩ : ∃ W, ((w.alloc (.cells #[.slice ab d.blocks.length cb, .slice au d.waits.length cu] 39)).alloc (.cells #[.slice none 0 0, .slice none 0 0] 39)).alloc (.cells #[.slice none 0 0, .slice none 0 0] 39) = W := ⟨_, rfl⟩
  rw [hW] at hB hq
  have hTW := hBT.trans (hB.mono hBT.size)
  have c0 := blk_cell hq.1 0
  have c1 := blk_cell hq.1 1
  have e0 := blk_cell hq.2.2 0
  have e1 := blk_cell hq.2.2 1
  have f0 := blk_frozen hq.2.2 0
  simp at c0 c1 e0 e1
  obtain ⟨bb, bo, bc, eb, -, p0, p1, p2, p3⟩ := hT.at_ hn0
  injection eb with ea _ ec
  subst ea ec
  obtain ⟨xs, hxl, hxa⟩ := list_of (n := d.blocks.length) (p := fun i (x : Value) => T.cell? ⟨bb, bo + i, none⟩ = some x ∧ Bytes T 0 T.heap.size x (d.blocks.getD i [])) (fun i hi => by
    obtain ⟨x, h1, h2⟩ := p3 i _ (get_l d.blocks [] i hi)
    exact ⟨x, by simpa [rBytes] using h1, h2⟩)
  have hcl : ∀ j u, xs[j]? = some u → W.cell? ((⟨bb, bo, none⟩ : Addr).add j) = some u := by
    intro j u hu
    have e2 : (⟨bb, bo, none⟩ : Addr).add j = ⟨bb, bo + j, none⟩ := by unfold Addr.add; split <;> simp_all
    rw [e2]
    exact (hTW.cell (p := ⟨bb, bo + j, none⟩) p0).trans (hxa j u hu).1
  have hone : ∀ u ∈ xs, u.oneCell' = true := by
    intro u hu
    obtain ⟨j, hj⟩ := List.mem_iff_getElem?.1 hu
    obtain ⟨a, cc, rfl, -⟩ := (hxa j u hj).2
    rfl
  have hl2 := (Array.getElem?_eq_some_iff.1 hq.2.2).1
  have HX := Lib.hid (And.intro hxl (And.intro hxa (And.intro hcl hone)))
  have HQ := Lib.hid (And.intro hT (And.intro hTW (And.intro hB hq)))
  have HLW := Lib.hid hlw
  clear hxl hxa hcl hone p3 hT hTW hB hq hlw hBT
  obtain ⟨i0, hi0, hz0, hz1, hz2⟩ := info_parts (P := Try.prog) (e := 28) (z := .slice none 0 0) (size := 1) (bytes := 24) (by kernel_rfl)
  go_enter Try.func72, Try.ntmps72
  go_upto_region 3 with (at_builtin; refine wpList_append_own _ rfl (.tmp 6) (.tmp 8) 36 rfl W.heap.size 28 i0 _ 1 24 Try.underlying36 hi0 hz0 hz1 hz2 rfl (by decide) _ 0 [] rfl (World.ownsRow_nil _ _ _ _) ⟨bb, bo, none⟩ d.blocks.length cb xs rfl (by rw [HX.out.1, Nat.mul_one]) HX.out.2.2.1 HX.out.2.2.2 (by unfold maxLen; omega) (by omega) (Nat.le_refl _) ?_; intro v' w1 hown1 hg1 _; obtain ⟨hl2', hrow⟩ := hown1; rcases hrow with ⟨-, hz⟩ | ⟨gr, cap, cur, rfl, hgr, hh', hk1, hk2, hk3, hk4⟩; (exfalso; omega); have hB1 : Below W.heap.size W w1 := (Below.refl _ _).grown hg1 (Nat.le_refl _) (fun k e => by cases e); have q3 := (hB1.block _ hl2).trans HQ.out.2.2.2.2.2; have j0 := blk_cell q3 0; have j1 := blk_cell q3 1; have jf := blk_frozen q3 0; simp at j0 j1; have H1 := Lib.hid (And.intro hB1 (And.intro q3 (And.intro hgr (And.intro hh' (And.intro hk1 (And.intro hk2 hk4)))))); clear hB1 q3 hgr hh' hk1 hk2 hk3 hk4 hl2' hg1)
  have hB1 := H1.out.1
  have hgr := H1.out.2.2.1
  have hs2 := set_other w1 (w.heap.size + 2) 0 (.slice (some ⟨gr, 0, none⟩) d.blocks.length cap)
  have k3 := set_block H1.out.2.1 0 (.slice (some ⟨gr, 0, none⟩) d.blocks.length cap)
  have kr := (hs2 gr (by omega)).trans H1.out.2.2.2.1
  have kd := (hs2 w.heap.size (by omega)).trans ((hB1.block _ (by omega)).trans HQ.out.2.2.2.1)
  have kq := (hs2 (w.heap.size + 1) (by omega)).trans ((hB1.block _ (by omega)).trans HQ.out.2.2.2.2.1)
  have hBw := (below_step HQ.out.2.2.1 HQ.out.2.2.1.size hB1).setCell (p := ⟨w.heap.size + 2, 0, none⟩) (by show w.heap.size ≤ w.heap.size + 2; omega) (.slice (some ⟨gr, 0, none⟩) d.blocks.length cap)
  have hx0 : ∀ i, i < d.blocks.length → ∃ x, cur[i]? = some x ∧ Bytes T 0 T.heap.size x ((putW d.blocks (d.waits.take 0)).getD i []) := fun i hi => by
    have hxi : xs[i]? = some (xs[i]'(by have := HX.out.1; omega)) := by simp
    refine ⟨_, ?_, by simpa [putW] using (HX.out.2.1 i _ hxi).2⟩
    have h4 := H1.out.2.2.2.2.2.2
    rw [Nat.zero_add, Nat.mul_one, List.nil_append] at h4
    rw [← hxi, ← h4, List.getElem?_take, if_pos hi]
    simp
  obtain ⟨w2, hw2⟩ : ∃ w2, w1.setCell ⟨w.heap.size + 2, 0, none⟩ (.slice (some ⟨gr, 0, none⟩) d.blocks.length cap) = w2 := ⟨_, rfl⟩
  rw [hw2] at k3 kr kd kq hBw
  have e2 : w1.setCell ⟨w.heap.size + 1 + 1, 0, none⟩ (.slice (some ⟨gr, 0, none⟩) d.blocks.length cap) = w2 := hw2
  rw [e2]
  clear e2 hw2 hs2 hB1
  have HZ := Lib.hid (And.intro k3 (And.intro kr (And.intro kd (And.intro kq (And.intro hBw hx0)))))
  have hcap := H1.out.2.2.2.2.1
  have hcm := H1.out.2.2.2.2.2.1
  unfold maxLen at hcm
  clear k3 kr kd kq hBw hx0 c0 c1 e0 e1 f0 j0 j1 jf
  go_wp2_with fail
  go_loopw [4] (fun i wr => ∃ (k : Nat) (cur : Array Value), k ≤ d.waits.length ∧ i = .int .i64 k ∧ wr.heap[w.heap.size + 2]? = some (.cells #[.slice (some ⟨gr, 0, none⟩) d.blocks.length cap, .slice none 0 0] 39 (0, 0)) ∧ wr.heap[gr]? = some (.cells cur 28 (0, 0)) ∧ wr.heap[w.heap.size]? = some (.cells #[.slice (some ⟨bb, bo, none⟩) d.blocks.length cb, .slice au d.waits.length cu] 39 (0, 0)) ∧ wr.heap[w.heap.size + 1]? = some (.cells #[.slice none 0 0, .slice none 0 0] 39 (0, 0)) ∧ Below w.heap.size w wr ∧
    ∀ i, i < d.blocks.length → ∃ x, cur[i]? = some x ∧ Bytes T 0 T.heap.size x ((putW d.blocks (d.waits.take k)).getD i [])) (fun i _ => d.waits.length - (intOf i).toNat)
  case atStart => exact ⟨0, cur, Nat.zero_le _, rfl, HZ.out.1, HZ.out.2.1, HZ.out.2.2.1, HZ.out.2.2.2.1, HZ.out.2.2.2.2.1, HZ.out.2.2.2.2.2⟩
  case round =>
  obtain ⟨k, cur2, hk, rfl, q3, qr, qd, q1, hBw, hcv⟩ := hrel
  have m0 := blk_cell q3 0
  have m1 := blk_cell q3 1
  have n0 := blk_cell qd 0
  have n1 := blk_cell qd 1
  simp at m0 m1 n0 n1
  by_cases hlt : k < d.waits.length
  · obtain ⟨ad, c2, e', hno, bs, hbl, hba, hcl⟩ := HSRC.out
    injection e' with ea _ ec
    subst ea ec
    obtain ⟨sv, hsv, hwf, f3⟩ := hba k (d.waits.getD k ⟨0, []⟩) (get_l _ _ _ hlt)
    obtain ⟨ya, yc, rfl, -, hyc⟩ := f3.form rfl
    rcases au with _ | ⟨b2, o2, sp⟩
    · exfalso
      have := (hno rfl).2
      rw [this] at hlt
      simp at hlt
    obtain ⟨v0, v1⟩ := wcells_get bs k _ hsv
    have f0 := hcl _ rfl _ _ v0
    have f2 := hcl _ rfl _ _ v1
    obtain ⟨sv0, hsv0, -, -⟩ := hba 0 (d.waits.getD 0 ⟨0, []⟩) (get_l _ _ _ (by omega))
    obtain rfl : sp = none := by simpa [Addr.add] using World.cell?_spot (hcl _ rfl _ _ (wcells_get bs 0 _ hsv0).1)
    clear hsv0
    have eadd : ∀ j, (⟨b2, o2, none⟩ : Addr).add j = ⟨b2, o2 + j, none⟩ := fun j => by unfold Addr.add; split <;> simp_all
    rw [eadd] at f0 f2
    have z1 := cell_lt' f0
    replace f0 := (hBw.cell (p := ⟨b2, o2 + k * 2, none⟩) z1).trans f0
    replace f2 := (hBw.cell (p := ⟨b2, o2 + (k * 2 + 1), none⟩) z1).trans f2
    have z3 := g4
    have hput0 := hwf
    clear hba hcl hsv v0 v1 hwf hput0 hno hbl eadd
    have hx := HLW.out _ (List.mem_of_getElem? (get_l d.waits ⟨0, []⟩ k hlt))
    have hput := putW_take d.blocks d.waits k hlt
    obtain ⟨y, hy⟩ : ∃ y, d.waits.getD k ⟨0, []⟩ = y := ⟨_, rfl⟩
    rw [hy] at f0 hx hput f3
    rw [hy] at f2
    clear hy
    obtain ⟨at0, dt⟩ := y
    obtain ⟨at_, rfl⟩ : ∃ at_ : Nat, at0 = at_ := ⟨at0.toNat, by have := hx.1; simp only at this; omega⟩
    simp only at f0 f2 f3
    rw [← Nat.add_assoc] at f2
    have hat : at_ < d.blocks.length := by have := hx.2; simp only at this; omega
    unfold maxLen at hyc
    obtain ⟨old, hold, -⟩ := hcv at_ hat
    have cr := (blk_cell qr at_).trans hold
    have fr := blk_frozen qr at_
    have HP := Lib.hid (And.intro q3 (And.intro qr (And.intro qd (And.intro q1 (And.intro hBw (And.intro hcv (And.intro hput f3)))))))
    clear q3 qr qd q1 hBw hcv hput hold f3 hx
    go_wp2_with fail
    go_still_tail 15, (by kernel_rfl)
    go_wp2
    go_roundw
    case rel =>
      obtain ⟨q3, qr, qd, q1, hBw, hcv, hput, f3⟩ := HP.out
      have hs := set_other wr gr at_ (.slice ya dt.length yc)
      have hsz := (Array.getElem?_eq_some_iff.1 ((blk_cell qr at_).symm.trans cr)).1
      refine ⟨k + 1, cur2.setIfInBounds at_ (.slice ya dt.length yc), by omega, by go_num, (hs _ (by omega)).trans q3, set_block qr at_ _, (hs _ (by omega)).trans qd, (hs _ (by omega)).trans q1, (hBw.setCell (p := ⟨gr, at_, none⟩) (by show w.heap.size ≤ gr; omega) _).drew, fun i hi => ?_⟩
      rw [hput]
      simp only [Int.toNat_natCast]
      have hat0 : at_ < (putW d.blocks (d.waits.take k)).length := by rw [putW_length]; exact hat
      rcases Decidable.em (at_ = i) with rfl | hne
      · refine ⟨.slice ya dt.length yc, by rw [Array.getElem?_setIfInBounds_self_of_lt hsz], ?_⟩
        rw [List.getD_eq_getElem?_getD, List.getElem?_set_self hat0]
        exact f3
      · obtain ⟨x, h1, h2⟩ := hcv i hi
        refine ⟨x, by rw [Array.getElem?_setIfInBounds_ne hne]; exact h1, ?_⟩
        rw [List.getD_eq_getElem?_getD, List.getElem?_set_ne hne, ← List.getD_eq_getElem?_getD]
        exact h2
    case measure => simp [intOf]; omega
  obtain rfl : k = d.waits.length := by omega
  have r0 := blk_cell q1 0
  have r1 := blk_cell q1 1
  have s0 := blk_frozen q1 0
  have s1 := blk_frozen q1 1
  simp at r0 r1
  rw [List.take_length] at hcv
  have HF := Lib.hid (And.intro qr (And.intro hBw hcv))
  clear q3 qr qd q1 hBw hcv n0 hk hlt
  go_wp2
  refine bodyPost_ret (v := .agg #[.slice (some ⟨gr, 0, none⟩) d.blocks.length cap, .slice none 0 0]) (by simp [results, Try.results72, go_sem, r0, r1]) rfl ?_
  obtain ⟨qr, hBw, hcv⟩ := HF.out
  have hso : ∀ x, x ≠ w.heap.size + 1 → ((wr.setCell ⟨w.heap.size + 1, 0, none⟩ (.slice (some ⟨gr, 0, none⟩) d.blocks.length cap)).setCell ⟨w.heap.size + 1, 1, none⟩ (.slice none 0 0)).heap[x]? = wr.heap[x]? := fun x hx => (set_other _ _ _ _ x hx).trans (set_other wr _ _ _ x hx)
  have hBf := (hBw.setCell (p := ⟨w.heap.size + 1, 0, none⟩) (Nat.le_succ _) (.slice (some ⟨gr, 0, none⟩) d.blocks.length cap)).setCell (p := ⟨w.heap.size + 1, 1, none⟩) (Nat.le_succ _) (.slice none 0 0)
  have hszf : ((wr.setCell ⟨w.heap.size + 1, 0, none⟩ (.slice (some ⟨gr, 0, none⟩) d.blocks.length cap)).setCell ⟨w.heap.size + 1, 1, none⟩ (.slice none 0 0)).heap.size = wr.heap.size := by rw [World.size_setCell, World.size_setCell]
  have hgl := (Array.getElem?_eq_some_iff.1 qr).1
  refine ⟨_, _, rfl, fun X hs hkX => ?_, hBf⟩
  have hpl : (putW d.blocks d.waits).length = d.blocks.length := putW_length _ _
  have hkT : Kp 0 T.heap.size T X := fun k o _ h2 => by
    rw [HTS.out] at h2
    have e := (hkX k (.inl h2) (Nat.lt_of_lt_of_le (by omega) hBf.size)).trans ((hBf.block k (by omega)).trans (HTG.out k h2).symm)
    exact ⟨heap_cell e o, heap_frozen e o⟩
  have hTs : T.heap.size ≤ X.heap.size := by rw [HTS.out]; exact Nat.le_trans hhi (Nat.le_trans hBf.size hs)
  have hgX := (hkX gr (.inr (by omega)) (by rw [hszf]; exact hgl)).trans ((hso gr (by omega)).trans qr)
  refine ⟨⟨_, _, by rw [hpl], by rw [hpl]; omega, by unfold maxLen; omega, fun _ => ⟨gr, 0, rfl, Nat.zero_le _, (Array.getElem?_eq_some_iff.1 hgX).1, fun i x hx => ?_⟩, fun h => by cases h⟩, Sl.nil_ _ _ _⟩
  have hi : i < d.blocks.length := by rw [← hpl]; exact (List.getElem?_eq_some_iff.1 hx).1
  obtain ⟨y, h1, h2⟩ := hcv i hi
  rw [List.getD_eq_getElem?_getD, hx] at h2
  refine ⟨y, ?_, (h2.kept hkT).more (Nat.le_refl _) hTs⟩
  show X.cell? ⟨gr, 0 + i * 1 + 0, none⟩ = _
  rw [blk_cell hgX, Nat.zero_add, Nat.mul_one, Nat.add_zero]
  exact h1
end Go.Proofs.Ytldidclnfkmonaa

namespace Go.Proofs.Ytldidclnfkmonaa
open Go.RowKit

set_option maxRecDepth 100000 in
set_option maxHeartbeats 1000000 in
/-- The reference's Barrier. -/
theorem rdbar_any (b u : Value) (d : DiskL) (w : World) (h : DiskV w 0 w.heap.size b u d) :
    Calls Try.prog 44 #[.agg #[b, u]] w fun e w' => ∃ b' u', e = .returned (.tuple #[.agg #[b', u'], .int .i64 (errC d)]) ∧ GotD w w' b' u' (barD d) := by
  have hB := ((Below.refl w.heap.size w).alloc (Nat.le_refl _) (.cells #[b, u] 39)).alloc (by simp) (.cells #[.slice none 0 0, .slice none 0 0] 39)
  have hD : DiskV _ 0 _ b u d := h.step hB
  have hq := two_new w (.cells #[b, u] 39) (.cells #[.slice none 0 0, .slice none 0 0] 39)
  have h1 := fun V hh => rmayd_any b u d V hh
  have h2 := fun V hi hhi (hh : DiskV V 0 hi b u d) (hm : mayD d = true) => rsettled_any b u d V hi hhi hh.1 (hh.2.more (Nat.le_refl _) hhi) (src_of hhi hh.2) (by have := (may_len hm).1; omega) (by have := (may_len hm).1; omega) (fun x hx => ⟨((may_len hm).2.2.2 x hx).1, by have := ((may_len hm).2.2.2 x hx).2.1; have := (may_len hm).1; omega⟩)
  obtain ⟨ab, cb, rfl, g1, g2, -, -⟩ := h.1
  obtain ⟨au, cu, rfl, g1', g2', -, -⟩ := h.2
  unfold maxLen at g2 g2'
  have HD0 := Lib.hid h
  clear h
  obtain ⟨W, hW⟩ : ∃ W, (w.alloc (.cells #[.slice ab d.blocks.length cb, .slice au d.waits.length cu] 39)).alloc (.cells #[.slice none 0 0, .slice none 0 0] 39) = W := ⟨_, rfl⟩
  rw [hW] at hB hD hq
  have c0 := blk_cell hq.1 0
  have c1 := blk_cell hq.1 1
  simp at c0 c1
  have HQ := Lib.hid (And.intro hD (And.intro hB hq))
  obtain ⟨ec, hec⟩ : ∃ ec, errC d = ec := ⟨_, rfl⟩
  obtain ⟨bd, hbd⟩ : ∃ bd, barD d = bd := ⟨_, rfl⟩
  rw [hec, hbd]
  have HE := Lib.hid (And.intro hec hbd)
  have HC := Lib.hid (And.intro h1 h2)
  clear hB hD hq h1 h2 hec hbd
  go_enter Try.func44, Try.ntmps44
  go_wp2_with fail
  refine (HC.out.1 W HQ.out.1).mono ?_
  rintro e w1 ⟨rfl, hst⟩
  obtain ⟨hD, hB, q0, q1⟩ := HQ.out
  replace q0 := (hst.block _ (Array.getElem?_eq_some_iff.1 q0).1).trans q0
  replace q1 := (hst.block _ (Array.getElem?_eq_some_iff.1 q1).1).trans q1
  replace hD := hD.step hst
  replace hB := below_step hB hB.size hst
  clear c0 c1
  have c0 := blk_cell q0 0
  have c1 := blk_cell q0 1
  have r0 := blk_cell q1 0
  have r1 := blk_cell q1 1
  have f0 := blk_frozen q1 0
  have f1 := blk_frozen q1 1
  simp at c0 c1 r0 r1
  have HQ1 := Lib.hid (And.intro hD (And.intro hB (And.intro q0 q1)))
  clear hD hB q0 q1 hst HQ
  cases hmay : mayD d
  case false =>
    have hw : ec = 8 ∧ bd = ⟨[], []⟩ := by
      obtain ⟨h1, h2⟩ := HE.out
      rw [← h1, ← h2]
      unfold errC barD
      rw [hmay]
      exact ⟨rfl, rfl⟩
    obtain ⟨rfl, rfl⟩ := hw
    clear hmay
    go_wp2
    refine bodyPost_ret (v := .tuple #[.agg #[.slice none 0 0, .slice none 0 0], .int .i64 8]) (by simp [results, Try.results44, go_sem, r0, r1]) rfl ⟨_, _, rfl, GotD.nil_ ((HQ1.out.2.1.setCell (p := ⟨w.heap.size + 1, 0, none⟩) (Nat.le_succ _) _).setCell (p := ⟨w.heap.size + 1, 1, none⟩) (Nat.le_succ _) _)⟩
  have hw : ec = 0 ∧ bd = ⟨putW d.blocks d.waits, []⟩ := by
    obtain ⟨h1, h2⟩ := HE.out
    rw [← h1, ← h2]
    unfold errC barD
    rw [hmay]
    exact ⟨rfl, rfl⟩
  obtain ⟨rfl, rfl⟩ := hw
  have HM := Lib.hid hmay
  clear hmay
  go_wp2_with fail
  refine (HC.out.2 w1 w.heap.size HQ1.out.2.1.size ⟨HD0.out.1.below HQ1.out.2.1 (Nat.le_refl _), HD0.out.2.below HQ1.out.2.1 (Nat.le_refl _)⟩ HM.out).mono ?_
  rintro e z ⟨b', u', rfl, hm⟩
  have hst := hm.below
  obtain ⟨ab', cb', rfl, -, -, -, -⟩ := hm.got.disk.1
  obtain ⟨au', cu', rfl, -, -, -, -⟩ := hm.got.disk.2
  have p1 := (hst.block _ (Array.getElem?_eq_some_iff.1 HQ1.out.2.2.2).1).trans HQ1.out.2.2.2
  have r0' := blk_cell p1 0
  have r1' := blk_cell p1 1
  have f0' := blk_frozen p1 0
  have f1' := blk_frozen p1 1
  simp at r0' r1'
  have HT := Lib.hid hm
  clear r0 r1 c0 c1 f0 f1 hst p1 hm
  generalize (DiskL.mk (putW d.blocks d.waits) []).blocks.length = n1 at *
  generalize (DiskL.mk (putW d.blocks d.waits) []).waits.length = n2 at *
  go_wp2
  refine bodyPost_ret (v := .tuple #[.agg #[.slice ab' n1 cb', .slice au' n2 cu'], .int .i64 0]) (by simp [results, Try.results44, go_sem, r0', r1']) rfl ?_
  have hB := HQ1.out.2.1
  have hlt := (Array.getElem?_eq_some_iff.1 HQ1.out.2.2.2).1
  have hBf := ((below_step hB hB.size HT.out.below).setCell (p := ⟨w.heap.size + 1, 0, none⟩) (Nat.le_succ _) (.slice ab' n1 cb')).setCell (p := ⟨w.heap.size + 1, 1, none⟩) (Nat.le_succ _) (.slice au' n2 cu')
  exact ⟨_, _, rfl, HT.out.disk _ (by rw [World.size_setCell, World.size_setCell]; exact Nat.le_refl _) (fun k h1 _ => (set_other _ _ _ _ k (by omega)).trans (set_other z _ _ _ k (by omega))), hBf⟩
end Go.Proofs.Ytldidclnfkmonaa

