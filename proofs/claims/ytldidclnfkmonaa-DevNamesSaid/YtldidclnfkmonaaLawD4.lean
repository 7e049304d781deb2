/- The walk of the statement DevNames. -/
import Derived.Test.YtldidclnfkmonaaLawD3
namespace Go.Proofs.Ytldidclnfkmonaa
open Go.RowKit

set_option linter.unusedSimpArgs false
theorem bools_new (w : World) (l : List Bool) (h : l.length ≤ 10) (cs : Array Value) (hcs : cs = (l.map Value.bool).toArray) (n : Nat) (hn : n = l.length) : Sl rBool (w.alloc (.cells cs 4)) 0 (w.alloc (.cells cs 4)).heap.size (.slice (some ⟨w.heap.size, 0, none⟩) n n) l := by
  subst hcs hn
  refine ⟨_, _, rfl, Nat.le_refl _, by unfold maxLen; omega, fun _ => ⟨w.heap.size, 0, rfl, Nat.zero_le _, by simp, fun i x hx => ?_⟩, fun h => by cases h⟩
  show World.cell? _ ⟨w.heap.size, 0 + i * 1 + 0, none⟩ = _
  rw [blk_cell (World.alloc_heap_new w _), Nat.zero_add, Nat.mul_one, Nat.add_zero]
  simp [hx]
theorem byte_new (w : World) : Bytes (w.alloc (.cells #[.int .u8 1] 5)) 0 (w.alloc (.cells #[.int .u8 1] 5)).heap.size (.slice (some ⟨w.heap.size, 0, none⟩) 1 1) [1] := (Bytes.new w 5 [1] (by unfold maxLen; decide) (0, 0)).more (Nat.zero_le _) (by simp)

set_option maxRecDepth 100000 in
set_option maxHeartbeats 1000000 in
theorem devNames_walk (w : World) : Calls Try.prog 8 #[] w fun e w' => e = .returned (.bool true) ∧ Below w.heap.size w w' := by
  obtain ⟨l0, hl0⟩ : ∃ l : List UInt8, List.replicate 128 0 = l := ⟨_, rfl⟩
  obtain ⟨l1, hl1⟩ : ∃ l : List UInt8, List.replicate 128 1 = l := ⟨_, rfl⟩
  obtain ⟨l2, hl2⟩ : ∃ l : List UInt8, List.replicate 128 2 = l := ⟨_, rfl⟩
  have e1 : errA newD 0 = 0 := by decide +kernel
  have e2 : readB newD 0 = l0 := by rw [← hl0]; decide +kernel
  have e3 : errA newD 256 = 2 := by decide +kernel
  have e4 : errW newD 9 l1 = 0 := by rw [← hl1]; decide +kernel
  have e5 : errW (writeD newD 9 l1) 9 l2 = 0 := by rw [← hl1, ← hl2]; decide +kernel
  have e6 : errK (writeD (writeD newD 9 l1) 9 l2) [true, false] = 0 := by rw [← hl1, ← hl2]; decide +kernel
  have e7 : errK (writeD (writeD newD 9 l1) 9 l2) [false, false] = 0 := by rw [← hl1, ← hl2]; decide +kernel
  have e8 : errK (writeD (writeD newD 9 l1) 9 l2) [true] = 2 := by rw [← hl1, ← hl2]; decide +kernel
  have e9 : errW newD 9 [1] = 3 := by decide +kernel
  have e10 : (crashD (writeD (writeD newD 9 l1) 9 l2) [true, false]).blocks.length = 256 ∧ (crashD (writeD (writeD newD 9 l1) 9 l2) [true, false]).waits.length = 0 ∧ (crashD (writeD (writeD newD 9 l1) 9 l2) [true, false]).blocks.getD 9 [] = l1 := by rw [← hl1, ← hl2]; decide +kernel
  have e11 : (crashD (writeD (writeD newD 9 l1) 9 l2) [false, false]).blocks.length = 256 ∧ (crashD (writeD (writeD newD 9 l1) 9 l2) [false, false]).blocks.getD 9 [] = l0 := by rw [← hl1, ← hl2, ← hl0]; decide +kernel
  have k0 := fun c w => full_any c w
  obtain ⟨N, hN⟩ : ∃ N, newD = N := ⟨_, rfl⟩
  have k1 := fun w => dnew_any w
  have k2 := fun b u w h => dread_any b u N 0 w h
  have k3 := fun b u w h => dread_any b u N 256 w h
  have k4 := fun b u v w h hv => dwrite_any b u N 9 v l1 w h hv
  obtain ⟨D1, hD1⟩ : ∃ D, writeD N 9 l1 = D := ⟨_, rfl⟩
  have k5 := fun b u v w h hv => dwrite_any b u D1 9 v l2 w h hv
  obtain ⟨D2, hD2⟩ : ∃ D, writeD D1 9 l2 = D := ⟨_, rfl⟩
  have k6 := fun b u v w h hv => dcrash_any b u D2 v [true, false] w h hv
  have k7 := fun b u v w h hv => dcrash_any b u D2 v [false, false] w h hv
  have k8 := fun b u v w h hv => dcrash_any b u D2 v [true] w h hv
  have k9 := fun b u v w h hv => dwrite_any b u N 9 v [1] w h hv
  rw [hN] at e1 e2 e3 e4 e5 e6 e7 e8 e9 e10 e11 k1
  rw [hD1] at e5 e6 e7 e8 e10 e11 k4
  rw [hD2] at e6 e7 e8 e10 e11 k5
  rw [e1, e2] at k2
  rw [e3] at k3
  rw [e4] at k4
  rw [e5] at k5
  rw [e6] at k6
  rw [e7] at k7
  rw [e8] at k8
  rw [e9] at k9
  obtain ⟨C1, hC1⟩ : ∃ C, crashD D2 [true, false] = C := ⟨_, rfl⟩
  obtain ⟨C2, hC2⟩ : ∃ C, crashD D2 [false, false] = C := ⟨_, rfl⟩
  obtain ⟨C3, hC3⟩ : ∃ C, crashD D2 [true] = C := ⟨_, rfl⟩
  obtain ⟨X4, hX4⟩ : ∃ C, writeD N 9 [1] = C := ⟨_, rfl⟩
  rw [hC1] at k6 e10
  rw [hC2] at k7 e11
  rw [hC3] at k8
  rw [hX4] at k9
  have k00 := k0 0
  have k01 := k0 1
  have k02 := k0 2
  rw [hl0] at k00
  rw [hl1] at k01
  rw [hl2] at k02
  have k10 := fun w => dcheck_any (.slice none 0 0) (.slice none 0 0) ⟨[], []⟩ w (DiskV.nil_ _ _ _)
  have H := Lib.hid (And.intro k00 (And.intro k01 (And.intro k02 (And.intro k1 (And.intro k2 (And.intro k3 (And.intro k4 (And.intro k5 (And.intro k6 (And.intro k7 (And.intro k8 (And.intro k9 k10))))))))))))
  have HN := Lib.hid (And.intro e10 e11)
  clear k0 k00 k01 k02 k1 k2 k3 k4 k5 k6 k7 k8 k9 k10 e1 e2 e3 e4 e5 e6 e7 e8 e9 e10 e11 hl0 hl1 hl2 hN hD1 hD2 hC1 hC2 hC3 hX4
  go_enter Try.func8, Try.ntmps8
  have hB := Below.refl w.heap.size w
  have h0 := hB
  have HQ := Lib.hid (And.intro h0 hB)
  clear h0 hB
  go_wp2_with fail
  refine (alive3_any w).mono ?_
  rintro e w1 ⟨rfl, hst⟩
  obtain ⟨h0, hB⟩ := HQ.out
  clear HQ
  replace h0 := below_step h0 h0.size hst
  replace hB := below_step hB hB.size hst
  clear hst
  have HQ := Lib.hid (And.intro h0 hB)
  clear h0 hB
  go_wp2_with fail
  refine (H.out.2.2.2.1 w1).mono ?_
  rintro e w2 ⟨bn1, rfl, hm⟩
  obtain ⟨h0, hB⟩ := HQ.out
  clear HQ
  have hst := hm.below
  have n1 := DR.of hm
  clear hm
  replace h0 := below_step h0 h0.size hst
  replace hB := below_step hB hB.size hst
  clear hst
  have HQ := Lib.hid (And.intro h0 (And.intro n1 hB))
  clear h0 n1 hB
  go_wp2_with fail
  refine (H.out.2.2.2.2.1 _ _ w2 HQ.out.2.1.v0).mono ?_
  rintro e w3 ⟨r0, rfl, hm⟩
  obtain ⟨h0, n1, hB⟩ := HQ.out
  clear HQ
  have hst := hm.below
  have hr : BR _ _ _ _ _ := ⟨hm.bytes, Nat.le_refl _⟩
  clear hm
  clear n1
  replace h0 := below_step h0 h0.size hst
  replace hB := below_step hB hB.size hst
  clear hst
  have HQ := Lib.hid (And.intro h0 (And.intro hr hB))
  clear h0 hr hB
  go_wp2_with fail
  refine (H.out.2.2.2.1 w3).mono ?_
  rintro e w4 ⟨bn2, rfl, hm⟩
  obtain ⟨h0, hr, hB⟩ := HQ.out
  clear HQ
  have hst := hm.below
  have n2 := DR.of hm
  clear hm
  replace h0 := below_step h0 h0.size hst
  replace hr := hr.step hst
  replace hB := below_step hB hB.size hst
  clear hst
  have HQ := Lib.hid (And.intro h0 (And.intro hr (And.intro n2 hB)))
  clear h0 hr n2 hB
  go_wp2_with fail
  refine (H.out.2.2.2.2.2.1 _ _ w4 HQ.out.2.2.1.v0).mono ?_
  rintro e w5 ⟨r1, rfl, hm⟩
  obtain ⟨h0, hr, n2, hB⟩ := HQ.out
  clear HQ
  have hst := hm.below
  clear hm
  clear n2
  replace h0 := below_step h0 h0.size hst
  replace hr := hr.step hst
  replace hB := below_step hB hB.size hst
  clear hst
  have HQ := Lib.hid (And.intro h0 (And.intro hr hB))
  clear h0 hr hB
  go_wp2_with fail
  refine (H.out.2.2.2.1 w5).mono ?_
  rintro e w6 ⟨bn3, rfl, hm⟩
  obtain ⟨h0, hr, hB⟩ := HQ.out
  clear HQ
  have hst := hm.below
  have n3 := DR.of hm
  clear hm
  replace h0 := below_step h0 h0.size hst
  replace hr := hr.step hst
  replace hB := below_step hB hB.size hst
  clear hst
  have HQ := Lib.hid (And.intro h0 (And.intro hr (And.intro n3 hB)))
  clear h0 hr n3 hB
  go_wp2_with fail
  refine (H.out.2.1 w6).mono ?_
  rintro e w7 ⟨vf1, rfl, hm⟩
  obtain ⟨h0, hr, n3, hB⟩ := HQ.out
  clear HQ
  have hst := hm.below
  have f1 : BR _ _ _ _ _ := ⟨hm.bytes, Nat.le_refl _⟩
  clear hm
  replace h0 := below_step h0 h0.size hst
  replace hr := hr.step hst
  replace n3 := n3.step hst
  replace hB := below_step hB hB.size hst
  clear hst
  have HQ := Lib.hid (And.intro h0 (And.intro hr (And.intro n3 (And.intro f1 hB))))
  clear h0 hr n3 f1 hB
  go_wp2_with fail
  refine (H.out.2.2.2.2.2.2.1 _ _ _ w7 HQ.out.2.2.1.v0 HQ.out.2.2.2.1.v0).mono ?_
  rintro e w8 ⟨b1, u1, rfl, hm⟩
  obtain ⟨h0, hr, n3, f1, hB⟩ := HQ.out
  clear HQ
  have hst := hm.below
  have hD1 := DR.of hm
  clear hm
  obtain ⟨a1, c1, rfl, -, -, -, -⟩ := hD1.v.1
  obtain ⟨a2, c2, rfl, -, -, -, -⟩ := hD1.v.2
  clear n3 f1
  replace h0 := below_step h0 h0.size hst
  replace hr := hr.step hst
  replace hB := below_step hB hB.size hst
  clear hst
  have HQ := Lib.hid (And.intro h0 (And.intro hr (And.intro hD1 hB)))
  clear h0 hr hD1 hB
  go_upto_region 6 with (fail)
  obtain ⟨h0, hr, hD1, hB⟩ := HQ.out
  clear HQ
  have g5B := hB.size
  have g5r := hr.hi
  have q5 := World.alloc_heap_new w8 (.cells #[.slice a1 D1.blocks.length c1, .slice a2 D1.waits.length c2] 39)
  have hst := (Below.refl w8.heap.size w8).alloc (Nat.le_refl _) (.cells #[.slice a1 D1.blocks.length c1, .slice a2 D1.waits.length c2] 39)
  replace h0 := below_step h0 h0.size hst
  replace hr := hr.step hst
  replace hD1 := hD1.step hst
  replace hB := below_step hB hB.size hst
  obtain ⟨w9, hw⟩ : ∃ v, w8.alloc (.cells #[.slice a1 D1.blocks.length c1, .slice a2 D1.waits.length c2] 39) = v := ⟨_, rfl⟩
  rw [hw] at q5 h0 hr hD1 hB ⊢
  generalize hg : w8.heap.size = g5 at *
  clear hw hst hg
  have HQ := Lib.hid (And.intro h0 (And.intro hr (And.intro hD1 (And.intro q5 hB))))
  clear h0 hr hD1 q5 hB
  have m0 := blk_cell HQ.out.2.2.2.1 0
  have zm0 := blk_frozen HQ.out.2.2.2.1 0
  have m1 := blk_cell HQ.out.2.2.2.1 1
  have zm1 := blk_frozen HQ.out.2.2.2.1 1
  simp at m0 m1
  have HG5 := Lib.hid g5B
  have hR5 := Lib.hid g5r
  clear g5B g5r
  go_cut [7] (fun s wx => s = .int .i64 0 ∧ Below w.heap.size w wx ∧ (∃ a3 c3 a4 c4 lo hi, g5 < lo ∧ wx.heap[g5]? = some (.cells #[.slice a3 D2.blocks.length c3, .slice a4 D2.waits.length c4] 39 (0, 0)) ∧ DR wx lo hi (.slice a3 D2.blocks.length c3) (.slice a4 D2.waits.length c4) D2) ∧ ∃ lo hi, BR wx lo hi r0 l0)
  case first =>
    refine wp_region_L (S := Kl (fun _ => True) w9) 7 (by kernel_rfl) (Kl.of True.intro) (fun _ => ?_)
    have hCl : ∀ x, Kl (fun _ => True) w9 x := fun _ => Kl.of True.intro
    refine wpAnyL_each (fuel := 7) [0, 1] (by kernel_rfl) (by simp) (by kernel_rfl) ?_
    refine EachL.cons _ rfl (fun K' hK => ?_) ?_
    · go_simp
      have hst : True := True.intro
      have hCl : ∀ x, Kl (fun _ => True) w9 x := fun _ => Kl.of True.intro
      refine hK.out (.inr (hCl _)) ?_
      clear hK K'
      refine wpAnyL_each (fuel := 6) [1] (by kernel_rfl) (by simp) (by kernel_rfl) ?_
      refine EachL.cons _ rfl (fun K' hK => ?_) EachL.nil
      go_simp
      refine (H.out.2.2.1 _).mono ?_
      rintro e z1 ⟨v2, rfl, hm⟩
      obtain ⟨h0, hr, hD1, q5, hB⟩ := HQ.out
      have hb : Below w9.heap.size w9 z1 := ((Below.refl w9.heap.size w9).drew).trans hm.below
      replace hr := hr.step hb
      replace hD1 := hD1.step hb
      have gw : w.heap.size ≤ g5 := HG5.out
      replace q5 := (hb.block _ (Array.getElem?_eq_some_iff.1 q5).1).trans q5
      replace hB := below_step hB hB.size hb
      have y0 := blk_cell q5 0
      have y1 := blk_cell q5 1
      simp at y0 y1
      have HZ := Lib.hid (And.intro hr (And.intro hD1 (And.intro q5 (And.intro hm.bytes.all0 hB))))
      clear h0 hr hD1 q5 hb hm hB
      have hst : True := True.intro
      have hCl : ∀ x, Kl (fun _ => True) w9 x := fun _ => Kl.of True.intro
      refine hK.out (.inr (hCl _)) ?_
      clear hK K'
      refine wpAnyL_each (fuel := 5) [2] (by kernel_rfl) (by simp) (by kernel_rfl) ?_
      refine EachL.cons _ rfl (fun K' hK => ?_) EachL.nil
      go_simp
      refine (H.out.2.2.2.2.2.2.2.1 _ _ _ z1 HZ.out.2.1.v0 HZ.out.2.2.2.1).mono ?_
      rintro e z2 ⟨b2, u2, rfl, hm⟩
      obtain ⟨a3, c3, rfl, -, -, -, -⟩ := hm.disk.1
      obtain ⟨a4, c4, rfl, -, -, -, -⟩ := hm.disk.2
      have p5 := (hm.below.block _ (Array.getElem?_eq_some_iff.1 HZ.out.2.2.1).1).trans HZ.out.2.2.1
      have x0 := blk_cell p5 0
      have x1 := blk_cell p5 1
      have fx0 := blk_frozen p5 0
      have fx1 := blk_frozen p5 1
      simp at x0 x1
      have HM := Lib.hid hm
      have HP5 := Lib.hid p5
      clear hm p5 y0 y1
      have hst : True := True.intro
      have hCl : ∀ x, Kl (fun _ => True) w9 x := fun _ => Kl.of True.intro
      refine hK.out (.inr (hCl _)) ?_
      clear hK K'
      refine wpAnyL_seg (fuel := 2) (by kernel_rfl) (fun _ d _ _ _ h => by cases d <;> exact h) (hCl _) [3, 4, 5] _ _ _ (by kernel_rfl) (by kernel_rfl) (by kernel_rfl) (by kernel_rfl) ?_
      simp only [opsOf_cons, opsOf_nil, consOp_some, List.getElem?_toArray, List.getElem?_cons_succ, List.getElem?_cons_zero]
      repeat (first | go_big_quiet_step (fail) | quiet_step (fail))
      refine wpQuiet_nil ?_
      refine wpAnyL_each (fuel := 1) [6] (by kernel_rfl) (by simp) (by kernel_rfl) ?_
      refine EachL.cons _ rfl (fun K' hK => ?_) EachL.nil
      go_simp
      have hst : True := True.intro
      have hCl : ∀ x, Kl (fun _ => True) w9 x := fun _ => Kl.of True.intro
      refine hK.out (.inr (hCl _)) ?_
      clear hK K'
      refine wpAnyL_each (fuel := 0) [7] (by kernel_rfl) (by simp) (by kernel_rfl) ?_
      refine EachL.cons _ rfl (fun K' hK => ?_) EachL.nil
      go_simp
      have hst : True := True.intro
      refine hK.out (.inl rfl) ?_
      clear hK K'
      refine wpAnyL_done (by kernel_rfl) ?_ _
      go_wp2
      go_meet
      obtain ⟨hr, hD1, q5, hv, hB⟩ := HZ.out
      have hg := (Array.getElem?_eq_some_iff.1 q5).1
      have hm := HM.out
      have hbz := below_step hB hB.size hm.below
      have gw := HG5.out
      have hso := fun k hk => (set_other _ g5 1 (.slice a4 D2.waits.length c4) k hk).trans (set_other z2 g5 0 (.slice a3 D2.blocks.length c3) k hk)
      have hr2 := (hr.step hm.below).set2 g5 (.slice a3 D2.blocks.length c3) (.slice a4 D2.waits.length c4) (.inr (by have := hR5.out; omega))
      exact ⟨rfl, (hbz.setCell (p := ⟨g5, 0, none⟩) gw _).setCell (p := ⟨g5, 1, none⟩) gw _, ⟨a3, c3, a4, c4, _, _, hg, set_block (set_block HP5.out 0 _) 1 _, (DR.of hm).set2 g5 _ _ (.inl hg)⟩, _, _, hr2⟩
    refine EachL.cons _ rfl (fun K' hK => ?_) ?_
    · go_simp
      refine (H.out.2.2.1 _).mono ?_
      rintro e z1 ⟨v2, rfl, hm⟩
      obtain ⟨h0, hr, hD1, q5, hB⟩ := HQ.out
      have hb : Below w9.heap.size w9 z1 := ((Below.refl w9.heap.size w9).drew).trans hm.below
      replace hr := hr.step hb
      replace hD1 := hD1.step hb
      have gw : w.heap.size ≤ g5 := HG5.out
      replace q5 := (hb.block _ (Array.getElem?_eq_some_iff.1 q5).1).trans q5
      replace hB := below_step hB hB.size hb
      have y0 := blk_cell q5 0
      have y1 := blk_cell q5 1
      simp at y0 y1
      have HZ := Lib.hid (And.intro hr (And.intro hD1 (And.intro q5 (And.intro hm.bytes.all0 hB))))
      clear h0 hr hD1 q5 hb hm hB
      have hst : True := True.intro
      have hCl : ∀ x, Kl (fun _ => True) w9 x := fun _ => Kl.of True.intro
      refine hK.out (.inr (hCl _)) ?_
      clear hK K'
      refine wpAnyL_each (fuel := 6) [0] (by kernel_rfl) (by simp) (by kernel_rfl) ?_
      refine EachL.cons _ rfl (fun K' hK => ?_) EachL.nil
      go_simp
      have hst : True := True.intro
      have hCl : ∀ x, Kl (fun _ => True) w9 x := fun _ => Kl.of True.intro
      refine hK.out (.inr (hCl _)) ?_
      clear hK K'
      refine wpAnyL_each (fuel := 5) [2] (by kernel_rfl) (by simp) (by kernel_rfl) ?_
      refine EachL.cons _ rfl (fun K' hK => ?_) EachL.nil
      go_simp
      refine (H.out.2.2.2.2.2.2.2.1 _ _ _ z1 HZ.out.2.1.v0 HZ.out.2.2.2.1).mono ?_
      rintro e z2 ⟨b2, u2, rfl, hm⟩
      obtain ⟨a3, c3, rfl, -, -, -, -⟩ := hm.disk.1
      obtain ⟨a4, c4, rfl, -, -, -, -⟩ := hm.disk.2
      have p5 := (hm.below.block _ (Array.getElem?_eq_some_iff.1 HZ.out.2.2.1).1).trans HZ.out.2.2.1
      have x0 := blk_cell p5 0
      have x1 := blk_cell p5 1
      have fx0 := blk_frozen p5 0
      have fx1 := blk_frozen p5 1
      simp at x0 x1
      have HM := Lib.hid hm
      have HP5 := Lib.hid p5
      clear hm p5 y0 y1
      have hst : True := True.intro
      have hCl : ∀ x, Kl (fun _ => True) w9 x := fun _ => Kl.of True.intro
      refine hK.out (.inr (hCl _)) ?_
      clear hK K'
      refine wpAnyL_seg (fuel := 2) (by kernel_rfl) (fun _ d _ _ _ h => by cases d <;> exact h) (hCl _) [3, 4, 5] _ _ _ (by kernel_rfl) (by kernel_rfl) (by kernel_rfl) (by kernel_rfl) ?_
      simp only [opsOf_cons, opsOf_nil, consOp_some, List.getElem?_toArray, List.getElem?_cons_succ, List.getElem?_cons_zero]
      repeat (first | go_big_quiet_step (fail) | quiet_step (fail))
      refine wpQuiet_nil ?_
      refine wpAnyL_each (fuel := 1) [6] (by kernel_rfl) (by simp) (by kernel_rfl) ?_
      refine EachL.cons _ rfl (fun K' hK => ?_) EachL.nil
      go_simp
      have hst : True := True.intro
      have hCl : ∀ x, Kl (fun _ => True) w9 x := fun _ => Kl.of True.intro
      refine hK.out (.inr (hCl _)) ?_
      clear hK K'
      refine wpAnyL_each (fuel := 0) [7] (by kernel_rfl) (by simp) (by kernel_rfl) ?_
      refine EachL.cons _ rfl (fun K' hK => ?_) EachL.nil
      go_simp
      have hst : True := True.intro
      refine hK.out (.inl rfl) ?_
      clear hK K'
      refine wpAnyL_done (by kernel_rfl) ?_ _
      go_wp2
      go_meet
      obtain ⟨hr, hD1, q5, hv, hB⟩ := HZ.out
      have hg := (Array.getElem?_eq_some_iff.1 q5).1
      have hm := HM.out
      have hbz := below_step hB hB.size hm.below
      have gw := HG5.out
      have hso := fun k hk => (set_other _ g5 1 (.slice a4 D2.waits.length c4) k hk).trans (set_other z2 g5 0 (.slice a3 D2.blocks.length c3) k hk)
      have hr2 := (hr.step hm.below).set2 g5 (.slice a3 D2.blocks.length c3) (.slice a4 D2.waits.length c4) (.inr (by have := hR5.out; omega))
      exact ⟨rfl, (hbz.setCell (p := ⟨g5, 0, none⟩) gw _).setCell (p := ⟨g5, 1, none⟩) gw _, ⟨a3, c3, a4, c4, _, _, hg, set_block (set_block HP5.out 0 _) 1 _, (DR.of hm).set2 g5 _ _ (.inl hg)⟩, _, _, hr2⟩
    exact EachL.nil
  case rest =>
  obtain ⟨rfl, hB, ⟨a3, c3, a4, c4, lo, hi, hlo, q5, hD2⟩, lo2, hi2, hr⟩ := hcut
  clear HQ
  have HQ := Lib.hid (And.intro q5 (And.intro hD2 (And.intro hr hB)))
  clear q5 hD2 hr hB
  have m0 := blk_cell HQ.out.1 0
  have m1 := blk_cell HQ.out.1 1
  simp at m0 m1
  go_wp2_with fail
  clear m0 m1
  obtain ⟨q5, hD2, hr, hB⟩ := HQ.out
  clear HQ
  have hbl := bools_new wc [true, false] (by decide) #[.bool true, .bool false] rfl 2 rfl
  have hst := (Below.refl wc.heap.size wc).alloc (Nat.le_refl _) (.cells #[.bool true, .bool false] 4)
  replace q5 := (hst.block _ (Array.getElem?_eq_some_iff.1 q5).1).trans q5
  replace hD2 := hD2.step hst
  replace hr := hr.step hst
  replace hB := below_step hB hB.size hst
  obtain ⟨w10, hw⟩ : ∃ v, wc.alloc (.cells #[.bool true, .bool false] 4) = v := ⟨_, rfl⟩
  rw [hw] at hbl q5 hD2 hr hB ⊢
  generalize wc.heap.size = gl10 at *
  clear hw hst
  have HQ := Lib.hid (And.intro q5 (And.intro hD2 (And.intro hr (And.intro hbl hB))))
  clear q5 hD2 hr hbl hB
  go_wp2_with fail
  refine (H.out.2.2.2.2.2.2.2.2.1 _ _ _ w10 HQ.out.2.1.v0 HQ.out.2.2.2.1).mono ?_
  rintro e w11 ⟨b5, u5, rfl, hm⟩
  obtain ⟨q5, hD2, hr, hbl, hB⟩ := HQ.out
  clear HQ
  have hst := hm.below
  have hC1 := DR.of hm
  clear hm
  obtain ⟨a5, c5, rfl, -, -, -, -⟩ := hC1.v.1
  obtain ⟨a6, c6, rfl, -, -, -, -⟩ := hC1.v.2
  clear hbl
  replace q5 := (hst.block _ (Array.getElem?_eq_some_iff.1 q5).1).trans q5
  replace hD2 := hD2.step hst
  replace hr := hr.step hst
  replace hB := below_step hB hB.size hst
  clear hst
  have HQ := Lib.hid (And.intro q5 (And.intro hD2 (And.intro hr (And.intro hC1 hB))))
  clear q5 hD2 hr hC1 hB
  go_upto_region 8 with (fail)
  obtain ⟨q5, hD2, hr, hC1, hB⟩ := HQ.out
  clear HQ
  have q8 := World.alloc_heap_new w11 (.cells #[.slice a5 C1.blocks.length c5, .slice a6 C1.waits.length c6] 39)
  have hst := (Below.refl w11.heap.size w11).alloc (Nat.le_refl _) (.cells #[.slice a5 C1.blocks.length c5, .slice a6 C1.waits.length c6] 39)
  replace q5 := (hst.block _ (Array.getElem?_eq_some_iff.1 q5).1).trans q5
  replace hD2 := hD2.step hst
  replace hr := hr.step hst
  replace hC1 := hC1.step hst
  replace hB := below_step hB hB.size hst
  obtain ⟨w12, hw⟩ : ∃ v, w11.alloc (.cells #[.slice a5 C1.blocks.length c5, .slice a6 C1.waits.length c6] 39) = v := ⟨_, rfl⟩
  rw [hw] at q8 q5 hD2 hr hC1 hB ⊢
  generalize hg : w11.heap.size = g8 at *
  clear hw hst hg
  have HQ := Lib.hid (And.intro q5 (And.intro hD2 (And.intro hr (And.intro hC1 (And.intro q8 hB)))))
  clear q5 hD2 hr hC1 q8 hB
  have m0 := blk_cell HQ.out.1 0
  have m1 := blk_cell HQ.out.1 1
  have n50 := blk_cell HQ.out.2.2.2.2.1 0
  have n51 := blk_cell HQ.out.2.2.2.2.1 1
  simp at m0 m1 n50 n51
  go_wp2_with fail
  clear m0 m1 n50 n51
  obtain ⟨q5, hD2, hr, hC1, q8, hB⟩ := HQ.out
  clear HQ
  have hbl := bools_new w12 [false, false] (by decide) #[.bool false, .bool false] rfl 2 rfl
  have hst := (Below.refl w12.heap.size w12).alloc (Nat.le_refl _) (.cells #[.bool false, .bool false] 4)
  replace q5 := (hst.block _ (Array.getElem?_eq_some_iff.1 q5).1).trans q5
  replace hD2 := hD2.step hst
  replace hr := hr.step hst
  replace hC1 := hC1.step hst
  replace q8 := (hst.block _ (Array.getElem?_eq_some_iff.1 q8).1).trans q8
  replace hB := below_step hB hB.size hst
  obtain ⟨w13, hw⟩ : ∃ v, w12.alloc (.cells #[.bool false, .bool false] 4) = v := ⟨_, rfl⟩
  rw [hw] at hbl q5 hD2 hr hC1 q8 hB ⊢
  generalize w12.heap.size = gl13 at *
  clear hw hst
  have HQ := Lib.hid (And.intro q5 (And.intro hD2 (And.intro hr (And.intro hC1 (And.intro q8 (And.intro hbl hB))))))
  clear q5 hD2 hr hC1 q8 hbl hB
  go_wp2_with fail
  refine (H.out.2.2.2.2.2.2.2.2.2.1 _ _ _ w13 HQ.out.2.1.v0 HQ.out.2.2.2.2.2.1).mono ?_
  rintro e w14 ⟨b7, u7, rfl, hm⟩
  obtain ⟨q5, hD2, hr, hC1, q8, hbl, hB⟩ := HQ.out
  clear HQ
  have hst := hm.below
  have hC2 := DR.of hm
  clear hm
  obtain ⟨a7, c7, rfl, -, -, -, -⟩ := hC2.v.1
  obtain ⟨a8, c8, rfl, -, -, -, -⟩ := hC2.v.2
  clear hbl
  replace q5 := (hst.block _ (Array.getElem?_eq_some_iff.1 q5).1).trans q5
  replace hD2 := hD2.step hst
  replace hr := hr.step hst
  replace hC1 := hC1.step hst
  replace q8 := (hst.block _ (Array.getElem?_eq_some_iff.1 q8).1).trans q8
  replace hB := below_step hB hB.size hst
  clear hst
  have HQ := Lib.hid (And.intro q5 (And.intro hD2 (And.intro hr (And.intro hC1 (And.intro q8 (And.intro hC2 hB))))))
  clear q5 hD2 hr hC1 q8 hC2 hB
  go_upto_region 9 with (fail)
  obtain ⟨q5, hD2, hr, hC1, q8, hC2, hB⟩ := HQ.out
  clear HQ
  have q10 := World.alloc_heap_new w14 (.cells #[.slice a7 C2.blocks.length c7, .slice a8 C2.waits.length c8] 39)
  have hst := (Below.refl w14.heap.size w14).alloc (Nat.le_refl _) (.cells #[.slice a7 C2.blocks.length c7, .slice a8 C2.waits.length c8] 39)
  replace q5 := (hst.block _ (Array.getElem?_eq_some_iff.1 q5).1).trans q5
  replace hD2 := hD2.step hst
  replace hr := hr.step hst
  replace hC1 := hC1.step hst
  replace q8 := (hst.block _ (Array.getElem?_eq_some_iff.1 q8).1).trans q8
  replace hC2 := hC2.step hst
  replace hB := below_step hB hB.size hst
  obtain ⟨w15, hw⟩ : ∃ v, w14.alloc (.cells #[.slice a7 C2.blocks.length c7, .slice a8 C2.waits.length c8] 39) = v := ⟨_, rfl⟩
  rw [hw] at q10 q5 hD2 hr hC1 q8 hC2 hB ⊢
  generalize hg : w14.heap.size = g10 at *
  clear hw hst hg
  have HQ := Lib.hid (And.intro q5 (And.intro hD2 (And.intro hr (And.intro hC1 (And.intro q8 (And.intro hC2 (And.intro q10 hB)))))))
  clear q5 hD2 hr hC1 q8 hC2 q10 hB
  have m0 := blk_cell HQ.out.1 0
  have m1 := blk_cell HQ.out.1 1
  have n50 := blk_cell HQ.out.2.2.2.2.1 0
  have n51 := blk_cell HQ.out.2.2.2.2.1 1
  have n70 := blk_cell HQ.out.2.2.2.2.2.2.1 0
  have n71 := blk_cell HQ.out.2.2.2.2.2.2.1 1
  simp at m0 m1 n50 n51 n70 n71
  go_wp2_with fail
  clear m0 m1 n50 n51 n70 n71
  obtain ⟨q5, hD2, hr, hC1, q8, hC2, q10, hB⟩ := HQ.out
  clear HQ
  have hbl := bools_new w15 [true] (by decide) #[.bool true] rfl 1 rfl
  have hst := (Below.refl w15.heap.size w15).alloc (Nat.le_refl _) (.cells #[.bool true] 4)
  replace q5 := (hst.block _ (Array.getElem?_eq_some_iff.1 q5).1).trans q5
  replace hD2 := hD2.step hst
  replace hr := hr.step hst
  replace hC1 := hC1.step hst
  replace q8 := (hst.block _ (Array.getElem?_eq_some_iff.1 q8).1).trans q8
  replace hC2 := hC2.step hst
  replace q10 := (hst.block _ (Array.getElem?_eq_some_iff.1 q10).1).trans q10
  replace hB := below_step hB hB.size hst
  obtain ⟨w16, hw⟩ : ∃ v, w15.alloc (.cells #[.bool true] 4) = v := ⟨_, rfl⟩
  rw [hw] at hbl q5 hD2 hr hC1 q8 hC2 q10 hB ⊢
  generalize w15.heap.size = gl16 at *
  clear hw hst
  have HQ := Lib.hid (And.intro q5 (And.intro hD2 (And.intro hr (And.intro hC1 (And.intro q8 (And.intro hC2 (And.intro q10 (And.intro hbl hB))))))))
  clear q5 hD2 hr hC1 q8 hC2 q10 hbl hB
  go_wp2_with fail
  refine (H.out.2.2.2.2.2.2.2.2.2.2.1 _ _ _ w16 HQ.out.2.1.v0 HQ.out.2.2.2.2.2.2.2.1).mono ?_
  rintro e w17 ⟨b9, u9, rfl, hm⟩
  obtain ⟨q5, hD2, hr, hC1, q8, hC2, q10, hbl, hB⟩ := HQ.out
  clear HQ
  have hst := hm.below
  have hC3 := DR.of hm
  clear hm
  obtain ⟨a9, c9, rfl, -, -, -, -⟩ := hC3.v.1
  obtain ⟨ax, cx, rfl, -, -, -, -⟩ := hC3.v.2
  clear hbl
  replace q5 := (hst.block _ (Array.getElem?_eq_some_iff.1 q5).1).trans q5
  replace hD2 := hD2.step hst
  replace hr := hr.step hst
  replace hC1 := hC1.step hst
  replace q8 := (hst.block _ (Array.getElem?_eq_some_iff.1 q8).1).trans q8
  replace hC2 := hC2.step hst
  replace q10 := (hst.block _ (Array.getElem?_eq_some_iff.1 q10).1).trans q10
  replace hB := below_step hB hB.size hst
  clear hst
  have HQ := Lib.hid (And.intro q5 (And.intro hD2 (And.intro hr (And.intro hC1 (And.intro q8 (And.intro hC2 (And.intro q10 (And.intro hC3 hB))))))))
  clear q5 hD2 hr hC1 q8 hC2 q10 hC3 hB
  go_upto_region 10 with (fail)
  obtain ⟨q5, hD2, hr, hC1, q8, hC2, q10, hC3, hB⟩ := HQ.out
  clear HQ
  have q12 := World.alloc_heap_new w17 (.cells #[.slice a9 C3.blocks.length c9, .slice ax C3.waits.length cx] 39)
  have hst := (Below.refl w17.heap.size w17).alloc (Nat.le_refl _) (.cells #[.slice a9 C3.blocks.length c9, .slice ax C3.waits.length cx] 39)
  replace q5 := (hst.block _ (Array.getElem?_eq_some_iff.1 q5).1).trans q5
  replace hD2 := hD2.step hst
  replace hr := hr.step hst
  replace hC1 := hC1.step hst
  replace q8 := (hst.block _ (Array.getElem?_eq_some_iff.1 q8).1).trans q8
  replace hC2 := hC2.step hst
  replace q10 := (hst.block _ (Array.getElem?_eq_some_iff.1 q10).1).trans q10
  replace hC3 := hC3.step hst
  replace hB := below_step hB hB.size hst
  obtain ⟨w18, hw⟩ : ∃ v, w17.alloc (.cells #[.slice a9 C3.blocks.length c9, .slice ax C3.waits.length cx] 39) = v := ⟨_, rfl⟩
  rw [hw] at q12 q5 hD2 hr hC1 q8 hC2 q10 hC3 hB ⊢
  generalize hg : w17.heap.size = g12 at *
  clear hw hst hg
  have HQ := Lib.hid (And.intro q5 (And.intro hD2 (And.intro hr (And.intro hC1 (And.intro q8 (And.intro hC2 (And.intro q10 (And.intro hC3 (And.intro q12 hB)))))))))
  clear q5 hD2 hr hC1 q8 hC2 q10 hC3 q12 hB
  have m0 := blk_cell HQ.out.1 0
  have m1 := blk_cell HQ.out.1 1
  have n50 := blk_cell HQ.out.2.2.2.2.1 0
  have n51 := blk_cell HQ.out.2.2.2.2.1 1
  have n70 := blk_cell HQ.out.2.2.2.2.2.2.1 0
  have n71 := blk_cell HQ.out.2.2.2.2.2.2.1 1
  have n90 := blk_cell HQ.out.2.2.2.2.2.2.2.2.1 0
  have n91 := blk_cell HQ.out.2.2.2.2.2.2.2.2.1 1
  simp at m0 m1 n50 n51 n70 n71 n90 n91
  go_wp2_with fail
  refine (H.out.2.2.2.1 w18).mono ?_
  rintro e w19 ⟨bn4, rfl, hm⟩
  clear m0 m1 n50 n51 n70 n71 n90 n91
  obtain ⟨q5, hD2, hr, hC1, q8, hC2, q10, hC3, q12, hB⟩ := HQ.out
  clear HQ
  have hst := hm.below
  have n4 := DR.of hm
  clear hm
  replace q5 := (hst.block _ (Array.getElem?_eq_some_iff.1 q5).1).trans q5
  replace hD2 := hD2.step hst
  replace hr := hr.step hst
  replace hC1 := hC1.step hst
  replace q8 := (hst.block _ (Array.getElem?_eq_some_iff.1 q8).1).trans q8
  replace hC2 := hC2.step hst
  replace q10 := (hst.block _ (Array.getElem?_eq_some_iff.1 q10).1).trans q10
  replace hC3 := hC3.step hst
  replace q12 := (hst.block _ (Array.getElem?_eq_some_iff.1 q12).1).trans q12
  replace hB := below_step hB hB.size hst
  clear hst
  have HQ := Lib.hid (And.intro q5 (And.intro hD2 (And.intro hr (And.intro hC1 (And.intro q8 (And.intro hC2 (And.intro q10 (And.intro hC3 (And.intro q12 (And.intro n4 hB))))))))))
  clear q5 hD2 hr hC1 q8 hC2 q10 hC3 q12 n4 hB
  go_wp2_with fail
  obtain ⟨q5, hD2, hr, hC1, q8, hC2, q10, hC3, q12, n4, hB⟩ := HQ.out
  clear HQ
  have hbl := byte_new w19
  have hst := (Below.refl w19.heap.size w19).alloc (Nat.le_refl _) (.cells #[.int .u8 1] 5)
  replace q5 := (hst.block _ (Array.getElem?_eq_some_iff.1 q5).1).trans q5
  replace hD2 := hD2.step hst
  replace hr := hr.step hst
  replace hC1 := hC1.step hst
  replace q8 := (hst.block _ (Array.getElem?_eq_some_iff.1 q8).1).trans q8
  replace hC2 := hC2.step hst
  replace q10 := (hst.block _ (Array.getElem?_eq_some_iff.1 q10).1).trans q10
  replace hC3 := hC3.step hst
  replace q12 := (hst.block _ (Array.getElem?_eq_some_iff.1 q12).1).trans q12
  replace n4 := n4.step hst
  replace hB := below_step hB hB.size hst
  obtain ⟨w20, hw⟩ : ∃ v, w19.alloc (.cells #[.int .u8 1] 5) = v := ⟨_, rfl⟩
  rw [hw] at hbl q5 hD2 hr hC1 q8 hC2 q10 hC3 q12 n4 hB ⊢
  generalize w19.heap.size = gl20 at *
  clear hw hst
  have HQ := Lib.hid (And.intro q5 (And.intro hD2 (And.intro hr (And.intro hC1 (And.intro q8 (And.intro hC2 (And.intro q10 (And.intro hC3 (And.intro q12 (And.intro n4 (And.intro hbl hB)))))))))))
  clear q5 hD2 hr hC1 q8 hC2 q10 hC3 q12 n4 hbl hB
  go_wp2_with fail
  refine (H.out.2.2.2.2.2.2.2.2.2.2.2.1 _ _ _ w20 HQ.out.2.2.2.2.2.2.2.2.2.1.v0 HQ.out.2.2.2.2.2.2.2.2.2.2.1).mono ?_
  rintro e w21 ⟨b0y, u0y, rfl, hm⟩
  obtain ⟨q5, hD2, hr, hC1, q8, hC2, q10, hC3, q12, n4, hbl, hB⟩ := HQ.out
  clear HQ
  have hst := hm.below
  have hX4 := DR.of hm
  clear hm
  obtain ⟨ay, cy, rfl, -, -, -, -⟩ := hX4.v.1
  obtain ⟨az, cz, rfl, -, -, -, -⟩ := hX4.v.2
  clear n4 hbl
  replace q5 := (hst.block _ (Array.getElem?_eq_some_iff.1 q5).1).trans q5
  replace hD2 := hD2.step hst
  replace hr := hr.step hst
  replace hC1 := hC1.step hst
  replace q8 := (hst.block _ (Array.getElem?_eq_some_iff.1 q8).1).trans q8
  replace hC2 := hC2.step hst
  replace q10 := (hst.block _ (Array.getElem?_eq_some_iff.1 q10).1).trans q10
  replace hC3 := hC3.step hst
  replace q12 := (hst.block _ (Array.getElem?_eq_some_iff.1 q12).1).trans q12
  replace hB := below_step hB hB.size hst
  clear hst
  have HQ := Lib.hid (And.intro q5 (And.intro hD2 (And.intro hr (And.intro hC1 (And.intro q8 (And.intro hC2 (And.intro q10 (And.intro hC3 (And.intro q12 (And.intro hX4 hB))))))))))
  clear q5 hD2 hr hC1 q8 hC2 q10 hC3 q12 hX4 hB
  go_upto_region 11 with (fail)
  obtain ⟨q5, hD2, hr, hC1, q8, hC2, q10, hC3, q12, hX4, hB⟩ := HQ.out
  clear HQ
  have q14 := World.alloc_heap_new w21 (.cells #[.slice ay X4.blocks.length cy, .slice az X4.waits.length cz] 39)
  have hst := (Below.refl w21.heap.size w21).alloc (Nat.le_refl _) (.cells #[.slice ay X4.blocks.length cy, .slice az X4.waits.length cz] 39)
  replace q5 := (hst.block _ (Array.getElem?_eq_some_iff.1 q5).1).trans q5
  replace hD2 := hD2.step hst
  replace hr := hr.step hst
  replace hC1 := hC1.step hst
  replace q8 := (hst.block _ (Array.getElem?_eq_some_iff.1 q8).1).trans q8
  replace hC2 := hC2.step hst
  replace q10 := (hst.block _ (Array.getElem?_eq_some_iff.1 q10).1).trans q10
  replace hC3 := hC3.step hst
  replace q12 := (hst.block _ (Array.getElem?_eq_some_iff.1 q12).1).trans q12
  replace hX4 := hX4.step hst
  replace hB := below_step hB hB.size hst
  obtain ⟨w22, hw⟩ : ∃ v, w21.alloc (.cells #[.slice ay X4.blocks.length cy, .slice az X4.waits.length cz] 39) = v := ⟨_, rfl⟩
  rw [hw] at q14 q5 hD2 hr hC1 q8 hC2 q10 hC3 q12 hX4 hB ⊢
  generalize hg : w21.heap.size = g14 at *
  clear hw hst hg
  have HQ := Lib.hid (And.intro q5 (And.intro hD2 (And.intro hr (And.intro hC1 (And.intro q8 (And.intro hC2 (And.intro q10 (And.intro hC3 (And.intro q12 (And.intro hX4 (And.intro q14 hB)))))))))))
  clear q5 hD2 hr hC1 q8 hC2 q10 hC3 q12 hX4 q14 hB
  have m0 := blk_cell HQ.out.1 0
  have m1 := blk_cell HQ.out.1 1
  have n50 := blk_cell HQ.out.2.2.2.2.1 0
  have n51 := blk_cell HQ.out.2.2.2.2.1 1
  have n70 := blk_cell HQ.out.2.2.2.2.2.2.1 0
  have n71 := blk_cell HQ.out.2.2.2.2.2.2.1 1
  have n90 := blk_cell HQ.out.2.2.2.2.2.2.2.2.1 0
  have n91 := blk_cell HQ.out.2.2.2.2.2.2.2.2.1 1
  have nn0 := blk_cell HQ.out.2.2.2.2.2.2.2.2.2.2.1 0
  have nn1 := blk_cell HQ.out.2.2.2.2.2.2.2.2.2.2.1 1
  simp at m0 m1 n50 n51 n70 n71 n90 n91 nn0 nn1
  have b1 := (HN.out.1).1
  have b2 := (HN.out.1).2.1
  have b3 := (HN.out.2).1
  have j1 : (C1.blocks.length : Int) = 256 := by omega
  have j2 : (C2.blocks.length : Int) = 256 := by omega
  have j3 : (C1.waits.length : Int) = 0 := by omega
  have p1 : 9 < C1.blocks.length := by omega
  have p2 : 9 < C2.blocks.length := by omega
  clear b1 b2 b3
  obtain ⟨x1, o1, k1, e1, -, -, z1a, z1b, hb1⟩ := HQ.out.2.2.2.1.v0.1.at_ (by omega)
  injection e1 with ea _ ec
  subst ea ec
  obtain ⟨x2, o2, k2, e2, -, -, z2a, z2b, hb2⟩ := HQ.out.2.2.2.2.2.1.v0.1.at_ (by omega)
  injection e2 with ea _ ec
  subst ea ec
  obtain ⟨s1, f1, h1⟩ := hb1 9 (C1.blocks.getD 9 []) (get_l _ _ _ p1)
  obtain ⟨s2, f2, h2⟩ := hb2 9 (C2.blocks.getD 9 []) (get_l _ _ _ p2)
  rw [HN.out.1.2.2] at h1
  rw [HN.out.2.2] at h2
  have y1 : w22.cell? ⟨x1, o1 + 9, none⟩ = some s1 := by simpa [rBytes] using f1
  have y2 : w22.cell? ⟨x2, o2 + 9, none⟩ = some s2 := by simpa [rBytes] using f2
  obtain ⟨as1, ks1, rfl, -, -⟩ := h1.form rfl
  obtain ⟨as2, ks2, rfl, -, -⟩ := h2.form rfl
  unfold maxLen at z1b z2b
  clear hb1 hb2 f1 f2
  clear m0 m1 n50 n51 n70 n71 n90 n91 nn0 nn1
  obtain ⟨q5, hD2, hr, hC1, q8, hC2, q10, hC3, q12, hX4, q14, hB⟩ := HQ.out
  clear HQ
  clear q5 hD2 hC1 hC2 hC3 hX4
  have HQ := Lib.hid (And.intro hr (And.intro q8 (And.intro q10 (And.intro q12 (And.intro q14 (And.intro h1 (And.intro h2 (And.intro y1 (And.intro y2 hB)))))))))
  clear hr q8 q10 q12 q14 h1 h2 y1 y2 hB
  have n50 := blk_cell HQ.out.2.1 0
  have n51 := blk_cell HQ.out.2.1 1
  have n70 := blk_cell HQ.out.2.2.1 0
  have n71 := blk_cell HQ.out.2.2.1 1
  have n90 := blk_cell HQ.out.2.2.2.1 0
  have n91 := blk_cell HQ.out.2.2.2.1 1
  have nn0 := blk_cell HQ.out.2.2.2.2.1 0
  have nn1 := blk_cell HQ.out.2.2.2.2.1 1
  simp at n50 n51 n70 n71 n90 n91 nn0 nn1
  go_upto_region 13 with (fail)
  clear n50 n51 n70 n71 n90 n91 nn0 nn1
  obtain ⟨hB, HB⟩ : ∃ _ : Below w.heap.size w w22, True := ⟨HQ.out.2.2.2.2.2.2.2.2.2, True.intro⟩
  clear HB
  have HBB := Lib.hid hB
  clear hB
  obtain ⟨hr, q8, q10, q12, q14, h1, h2, y1, y2, hB⟩ := HQ.out
  clear HQ
  clear hB
  have hl := hr
  have HQ := Lib.hid (And.intro hr (And.intro q8 (And.intro q10 (And.intro q12 (And.intro q14 (And.intro h1 (And.intro h2 (And.intro y1 (And.intro y2 hl)))))))))
  clear hr q8 q10 q12 q14 h1 h2 y1 y2 hl
  have p80 := fun X => ((aft_below w22 X).cell (p := ⟨g8, 0, none⟩) (cell_lt' (blk_cell HQ.out.2.1 0))).trans (blk_cell HQ.out.2.1 0)
  have p81 := fun X => ((aft_below w22 X).cell (p := ⟨g8, 1, none⟩) (cell_lt' (blk_cell HQ.out.2.1 1))).trans (blk_cell HQ.out.2.1 1)
  have p100 := fun X => ((aft_below w22 X).cell (p := ⟨g10, 0, none⟩) (cell_lt' (blk_cell HQ.out.2.2.1 0))).trans (blk_cell HQ.out.2.2.1 0)
  have p101 := fun X => ((aft_below w22 X).cell (p := ⟨g10, 1, none⟩) (cell_lt' (blk_cell HQ.out.2.2.1 1))).trans (blk_cell HQ.out.2.2.1 1)
  have xy1 := fun X => ((aft_below w22 X).cell (p := ⟨x1, o1 + 9, none⟩) (cell_lt' HQ.out.2.2.2.2.2.2.2.1)).trans HQ.out.2.2.2.2.2.2.2.1
  have xy2 := fun X => ((aft_below w22 X).cell (p := ⟨x2, o2 + 9, none⟩) (cell_lt' HQ.out.2.2.2.2.2.2.2.2.1)).trans HQ.out.2.2.2.2.2.2.2.2.1
  simp at p80 p81 p100 p101 xy1 xy2
  have th1 := fun X => cv_of (HQ.out.2.2.2.2.2.1.step (aft_below w22 X))
  have th2 := fun X => cv_of (HQ.out.2.2.2.2.2.2.1.step (aft_below w22 X))
  have tr := fun X => cv_of (HQ.out.1.v0.step (aft_below w22 X))
  have tl := fun X => cv_of (HQ.out.2.2.2.2.2.2.2.2.2.v0.step (aft_below w22 X))
  refine wp_region_held_drew (S := Cls w22) (by kernel_rfl) (Cls.drew w22) (fun hCl => ?_)
  refine wpAnyH_seg (fuel := 64) (by kernel_rfl) (fun _ d _ _ _ h => by cases d <;> exact h) hCl [0, 1, 2, 3, 4, 5, 6] _ _ _ (by kernel_rfl) (by kernel_rfl) ?_
  simp only [opsOf_cons, opsOf_nil, consOp_some, List.getElem?_toArray, List.getElem?_cons_succ, List.getElem?_cons_zero]
  repeat (first | go_big_quiet_step (fail) | quiet_step (fail))
  refine wpQuiet_nil ?_
  refine wpAnyH_each (fuel := 63) [7] (by kernel_rfl) (by simp) (by kernel_rfl) ?_
  refine Each.cons _ rfl (fun K' hK => ?_) Each.nil
  go_simp
  refine (H.out.1 _).mono ?_
  rintro e z1 ⟨vz1, rfl, hm⟩
  have hst := below_step hCl.below hCl.below.size hm.below
  have hl0 : BR _ _ _ _ _ := ⟨hm.bytes, Nat.le_refl _⟩
  clear hm
  obtain ⟨hr, q8, q10, q12, q14, h1, h2, y1, y2, hl⟩ := HQ.out
  clear HQ
  clear hl
  replace hr := hr.step hst
  replace q8 := (hst.block _ (Array.getElem?_eq_some_iff.1 q8).1).trans q8
  replace q10 := (hst.block _ (Array.getElem?_eq_some_iff.1 q10).1).trans q10
  replace q12 := (hst.block _ (Array.getElem?_eq_some_iff.1 q12).1).trans q12
  replace q14 := (hst.block _ (Array.getElem?_eq_some_iff.1 q14).1).trans q14
  replace h1 := h1.step hst
  replace h2 := h2.step hst
  replace y1 := (hst.cell (p := ⟨x1, o1 + 9, none⟩) (cell_lt' y1)).trans y1
  replace y2 := (hst.cell (p := ⟨x2, o2 + 9, none⟩) (cell_lt' y2)).trans y2
  have hl := hl0
  clear hl0
  have hBs := below_step HBB.out HBB.out.size hst
  have HBB := Lib.hid hBs
  clear hBs
  have HQ := Lib.hid (And.intro hr (And.intro q8 (And.intro q10 (And.intro q12 (And.intro q14 (And.intro h1 (And.intro h2 (And.intro y1 (And.intro y2 hl)))))))))
  clear hr q8 q10 q12 q14 h1 h2 y1 y2 hl
  clear p80 p81 p100 p101 xy1 xy2 th1 th2 tr tl
  have p80 := fun X => ((aft_below z1 X).cell (p := ⟨g8, 0, none⟩) (cell_lt' (blk_cell HQ.out.2.1 0))).trans (blk_cell HQ.out.2.1 0)
  have p81 := fun X => ((aft_below z1 X).cell (p := ⟨g8, 1, none⟩) (cell_lt' (blk_cell HQ.out.2.1 1))).trans (blk_cell HQ.out.2.1 1)
  have p100 := fun X => ((aft_below z1 X).cell (p := ⟨g10, 0, none⟩) (cell_lt' (blk_cell HQ.out.2.2.1 0))).trans (blk_cell HQ.out.2.2.1 0)
  have p101 := fun X => ((aft_below z1 X).cell (p := ⟨g10, 1, none⟩) (cell_lt' (blk_cell HQ.out.2.2.1 1))).trans (blk_cell HQ.out.2.2.1 1)
  have xy1 := fun X => ((aft_below z1 X).cell (p := ⟨x1, o1 + 9, none⟩) (cell_lt' HQ.out.2.2.2.2.2.2.2.1)).trans HQ.out.2.2.2.2.2.2.2.1
  have xy2 := fun X => ((aft_below z1 X).cell (p := ⟨x2, o2 + 9, none⟩) (cell_lt' HQ.out.2.2.2.2.2.2.2.2.1)).trans HQ.out.2.2.2.2.2.2.2.2.1
  simp at p80 p81 p100 p101 xy1 xy2
  have th1 := fun X => cv_of (HQ.out.2.2.2.2.2.1.step (aft_below z1 X))
  have th2 := fun X => cv_of (HQ.out.2.2.2.2.2.2.1.step (aft_below z1 X))
  have tr := fun X => cv_of (HQ.out.1.v0.step (aft_below z1 X))
  have tl := fun X => cv_of (HQ.out.2.2.2.2.2.2.2.2.2.v0.step (aft_below z1 X))
  refine hK.out (Cls z1) (Cls.sub hst) (Cls.refl z1) ?_
  have hCl := Cls.refl z1
  clear hK K'
  refine wpAnyH_seg (fuel := 38) (by kernel_rfl) (fun _ d _ _ _ h => by cases d <;> exact h) hCl [8, 9, 10, 11, 12, 13, 14, 15, 16, 17, 18, 19, 20, 21, 22, 23, 24, 25, 26, 27, 28, 29, 30, 31, 32] _ _ _ (by kernel_rfl) (by kernel_rfl) ?_
  simp only [opsOf_cons, opsOf_nil, consOp_some, List.getElem?_toArray, List.getElem?_cons_succ, List.getElem?_cons_zero]
  repeat (first | go_big_quiet_step (fail) | quiet_step (fail))
  refine wpQuiet_nil ?_
  refine wpAnyH_each (fuel := 37) [33] (by kernel_rfl) (by simp) (by kernel_rfl) ?_
  refine Each.cons _ rfl (fun K' hK => ?_) Each.nil
  go_simp
  refine (H.out.2.1 _).mono ?_
  rintro e z2 ⟨vz2, rfl, hm⟩
  have hst := below_step hCl.below hCl.below.size hm.below
  have hl0 : BR _ _ _ _ _ := ⟨hm.bytes, Nat.le_refl _⟩
  clear hm
  obtain ⟨hr, q8, q10, q12, q14, h1, h2, y1, y2, hl⟩ := HQ.out
  clear HQ
  clear hl
  replace hr := hr.step hst
  replace q8 := (hst.block _ (Array.getElem?_eq_some_iff.1 q8).1).trans q8
  replace q10 := (hst.block _ (Array.getElem?_eq_some_iff.1 q10).1).trans q10
  replace q12 := (hst.block _ (Array.getElem?_eq_some_iff.1 q12).1).trans q12
  replace q14 := (hst.block _ (Array.getElem?_eq_some_iff.1 q14).1).trans q14
  replace h1 := h1.step hst
  replace h2 := h2.step hst
  replace y1 := (hst.cell (p := ⟨x1, o1 + 9, none⟩) (cell_lt' y1)).trans y1
  replace y2 := (hst.cell (p := ⟨x2, o2 + 9, none⟩) (cell_lt' y2)).trans y2
  have hl := hl0
  clear hl0
  have hBs := below_step HBB.out HBB.out.size hst
  have HBB := Lib.hid hBs
  clear hBs
  have HQ := Lib.hid (And.intro hr (And.intro q8 (And.intro q10 (And.intro q12 (And.intro q14 (And.intro h1 (And.intro h2 (And.intro y1 (And.intro y2 hl)))))))))
  clear hr q8 q10 q12 q14 h1 h2 y1 y2 hl
  clear p80 p81 p100 p101 xy1 xy2 th1 th2 tr tl
  have p80 := fun X => ((aft_below z2 X).cell (p := ⟨g8, 0, none⟩) (cell_lt' (blk_cell HQ.out.2.1 0))).trans (blk_cell HQ.out.2.1 0)
  have p81 := fun X => ((aft_below z2 X).cell (p := ⟨g8, 1, none⟩) (cell_lt' (blk_cell HQ.out.2.1 1))).trans (blk_cell HQ.out.2.1 1)
  have p100 := fun X => ((aft_below z2 X).cell (p := ⟨g10, 0, none⟩) (cell_lt' (blk_cell HQ.out.2.2.1 0))).trans (blk_cell HQ.out.2.2.1 0)
  have p101 := fun X => ((aft_below z2 X).cell (p := ⟨g10, 1, none⟩) (cell_lt' (blk_cell HQ.out.2.2.1 1))).trans (blk_cell HQ.out.2.2.1 1)
  have xy1 := fun X => ((aft_below z2 X).cell (p := ⟨x1, o1 + 9, none⟩) (cell_lt' HQ.out.2.2.2.2.2.2.2.1)).trans HQ.out.2.2.2.2.2.2.2.1
  have xy2 := fun X => ((aft_below z2 X).cell (p := ⟨x2, o2 + 9, none⟩) (cell_lt' HQ.out.2.2.2.2.2.2.2.2.1)).trans HQ.out.2.2.2.2.2.2.2.2.1
  simp at p80 p81 p100 p101 xy1 xy2
  have th1 := fun X => cv_of (HQ.out.2.2.2.2.2.1.step (aft_below z2 X))
  have th2 := fun X => cv_of (HQ.out.2.2.2.2.2.2.1.step (aft_below z2 X))
  have tr := fun X => cv_of (HQ.out.1.v0.step (aft_below z2 X))
  have tl := fun X => cv_of (HQ.out.2.2.2.2.2.2.2.2.2.v0.step (aft_below z2 X))
  refine hK.out (Cls z2) (Cls.sub hst) (Cls.refl z2) ?_
  have hCl := Cls.refl z2
  clear hK K'
  refine wpAnyH_seg (fuel := 18) (by kernel_rfl) (fun _ d _ _ _ h => by cases d <;> exact h) hCl [34, 35, 36, 37, 38, 39, 40, 41, 42, 43, 44, 45, 46, 47, 48, 49, 50, 51, 52] _ _ _ (by kernel_rfl) (by kernel_rfl) ?_
  simp only [opsOf_cons, opsOf_nil, consOp_some, List.getElem?_toArray, List.getElem?_cons_succ, List.getElem?_cons_zero]
  repeat (first | go_big_quiet_step (fail) | quiet_step (fail))
  refine wpQuiet_nil ?_
  refine wpAnyH_each (fuel := 17) [53] (by kernel_rfl) (by simp) (by kernel_rfl) ?_
  refine Each.cons _ rfl (fun K' hK => ?_) Each.nil
  go_simp
  refine (H.out.1 _).mono ?_
  rintro e z3 ⟨vz3, rfl, hm⟩
  have hst := below_step hCl.below hCl.below.size hm.below
  have hl0 : BR _ _ _ _ _ := ⟨hm.bytes, Nat.le_refl _⟩
  clear hm
  obtain ⟨hr, q8, q10, q12, q14, h1, h2, y1, y2, hl⟩ := HQ.out
  clear HQ
  clear hl
  replace hr := hr.step hst
  replace q8 := (hst.block _ (Array.getElem?_eq_some_iff.1 q8).1).trans q8
  replace q10 := (hst.block _ (Array.getElem?_eq_some_iff.1 q10).1).trans q10
  replace q12 := (hst.block _ (Array.getElem?_eq_some_iff.1 q12).1).trans q12
  replace q14 := (hst.block _ (Array.getElem?_eq_some_iff.1 q14).1).trans q14
  replace h1 := h1.step hst
  replace h2 := h2.step hst
  replace y1 := (hst.cell (p := ⟨x1, o1 + 9, none⟩) (cell_lt' y1)).trans y1
  replace y2 := (hst.cell (p := ⟨x2, o2 + 9, none⟩) (cell_lt' y2)).trans y2
  have hl := hl0
  clear hl0
  have hBs := below_step HBB.out HBB.out.size hst
  have HBB := Lib.hid hBs
  clear hBs
  have HQ := Lib.hid (And.intro hr (And.intro q8 (And.intro q10 (And.intro q12 (And.intro q14 (And.intro h1 (And.intro h2 (And.intro y1 (And.intro y2 hl)))))))))
  clear hr q8 q10 q12 q14 h1 h2 y1 y2 hl
  clear p80 p81 p100 p101 xy1 xy2 th1 th2 tr tl
  have p80 := fun X => ((aft_below z3 X).cell (p := ⟨g8, 0, none⟩) (cell_lt' (blk_cell HQ.out.2.1 0))).trans (blk_cell HQ.out.2.1 0)
  have p81 := fun X => ((aft_below z3 X).cell (p := ⟨g8, 1, none⟩) (cell_lt' (blk_cell HQ.out.2.1 1))).trans (blk_cell HQ.out.2.1 1)
  have p100 := fun X => ((aft_below z3 X).cell (p := ⟨g10, 0, none⟩) (cell_lt' (blk_cell HQ.out.2.2.1 0))).trans (blk_cell HQ.out.2.2.1 0)
  have p101 := fun X => ((aft_below z3 X).cell (p := ⟨g10, 1, none⟩) (cell_lt' (blk_cell HQ.out.2.2.1 1))).trans (blk_cell HQ.out.2.2.1 1)
  have xy1 := fun X => ((aft_below z3 X).cell (p := ⟨x1, o1 + 9, none⟩) (cell_lt' HQ.out.2.2.2.2.2.2.2.1)).trans HQ.out.2.2.2.2.2.2.2.1
  have xy2 := fun X => ((aft_below z3 X).cell (p := ⟨x2, o2 + 9, none⟩) (cell_lt' HQ.out.2.2.2.2.2.2.2.2.1)).trans HQ.out.2.2.2.2.2.2.2.2.1
  simp at p80 p81 p100 p101 xy1 xy2
  have th1 := fun X => cv_of (HQ.out.2.2.2.2.2.1.step (aft_below z3 X))
  have th2 := fun X => cv_of (HQ.out.2.2.2.2.2.2.1.step (aft_below z3 X))
  have tr := fun X => cv_of (HQ.out.1.v0.step (aft_below z3 X))
  have tl := fun X => cv_of (HQ.out.2.2.2.2.2.2.2.2.2.v0.step (aft_below z3 X))
  refine hK.out (Cls z3) (Cls.sub hst) (Cls.refl z3) ?_
  have hCl := Cls.refl z3
  clear hK K'
  refine wpAnyH_seg (fuel := 5) (by kernel_rfl) (fun _ d _ _ _ h => by cases d <;> exact h) hCl [54, 55, 56, 57, 58, 59, 60, 61, 62, 63, 64, 65] _ _ _ (by kernel_rfl) (by kernel_rfl) ?_
  simp only [opsOf_cons, opsOf_nil, consOp_some, List.getElem?_toArray, List.getElem?_cons_succ, List.getElem?_cons_zero]
  repeat (first | go_big_quiet_step (fail) | quiet_step (fail))
  refine wpQuiet_nil ?_
  refine wpAnyH_each (fuel := 4) [66] (by kernel_rfl) (by simp) (by kernel_rfl) ?_
  refine Each.cons _ rfl (fun K' hK => ?_) Each.nil
  go_simp
  have hst := hCl.below
  have hCl := Cls.of hst
  refine hK.out (Cls z3) (fun _ h => h) hCl ?_
  clear hK K'
  refine wpAnyH_each (fuel := 3) [67] (by kernel_rfl) (by simp) (by kernel_rfl) ?_
  refine Each.cons _ rfl (fun K' hK => ?_) Each.nil
  go_simp
  refine (H.out.2.2.2.2.2.2.2.2.2.2.2.2 _).mono ?_
  rintro e z9 ⟨rfl, hm⟩
  have hst := below_step hCl.below hCl.below.size hm
  have HZ9 := Lib.hid hst
  clear hm
  have hCl := Cls.of hst
  refine hK.out (Cls z3) (fun _ h => h) hCl ?_
  clear hK K'
  refine wpAnyH_seg (fuel := 0) (by kernel_rfl) (fun _ d _ _ _ h => by cases d <;> exact h) hCl [68, 69, 70] _ _ _ (by kernel_rfl) (by kernel_rfl) ?_
  simp only [opsOf_cons, opsOf_nil, consOp_some, List.getElem?_toArray, List.getElem?_cons_succ, List.getElem?_cons_zero]
  repeat (first | go_big_quiet_step (fail) | quiet_step (fail))
  refine wpQuiet_nil ?_
  refine wpAnyH_done (by kernel_rfl) ?_ _
  go_wp2
  go_ret
  exact ⟨rfl, below_step HBB.out HBB.out.size HZ9.out⟩
end Go.Proofs.Ytldidclnfkmonaa
