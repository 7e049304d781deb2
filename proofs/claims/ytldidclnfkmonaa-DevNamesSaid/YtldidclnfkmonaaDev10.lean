/- Disks: what is written is read. -/
import Derived.Test.YtldidclnfkmonaaDev9
import Derived.Deep.RegionHeld
namespace Go.Proofs.Ytldidclnfkmonaa
open Go.RowKit

theorem new_may : mayD newD = true := by decide +kernel

set_option maxRecDepth 100000 in
set_option maxHeartbeats 1000000 in
theorem alive3_any (w : World) : Calls Try.prog 20 #[] w fun e w' => e = .returned (.bool true) ∧ Below w.heap.size w w' := by
  obtain ⟨l, hl⟩ : ∃ l : List UInt8, List.replicate 128 1 = l := ⟨_, rfl⟩
  have k1 : errW newD 9 l = 0 := by rw [← hl]; decide +kernel
  have k2 : errA (writeD newD 9 l) 9 = 0 := by rw [← hl]; decide +kernel
  have k3 : readB (writeD newD 9 l) 9 = l := by rw [← hl]; decide +kernel
  have k4 : (writeD newD 9 l).waits.length = 1 := by rw [← hl]; decide +kernel
  have hfu := fun w => full_any 1 w
  rw [hl] at hfu
  obtain ⟨nd, hnd⟩ : ∃ nd, newD = nd := ⟨_, rfl⟩
  have hne := fun w => dnew_any w
  rw [hnd] at k1 k2 k3 k4 hne
  obtain ⟨wd, hwd⟩ : ∃ wd, writeD nd 9 l = wd := ⟨_, rfl⟩
  have hwr := fun b u v w h1 h2 => dwrite_any b u nd 9 v l w h1 h2
  rw [k1, hwd] at hwr
  rw [hwd] at k2 k3 k4
  have hrd := fun b u w h => dread_any b u wd 9 w h
  rw [k2, k3] at hrd
  have H := Lib.hid (And.intro hne (And.intro hfu (And.intro hwr hrd)))
  have HK := Lib.hid (And.intro k4 hl)
  clear k1 k2 k3 k4 hne hfu hwr hrd hnd hwd hl
  go_enter Try.func20, Try.ntmps20
  go_wp2_with fail
  refine (H.out.1 w).mono ?_
  rintro e w1 ⟨b, rfl, hm1⟩
  go_wp2_with fail
  refine (H.out.2.1 w1).mono ?_
  rintro e w2 ⟨v, rfl, hm2⟩
  have hst := hm2.below
  have hD := hm1.v0.step hst
  have hB := below_step hm1.below hm1.below.size hst
  have hv := hm2.bytes.all0
  clear hm1 hm2 hst
  go_wp2_with fail
  refine (H.out.2.2.1 b _ v w2 hD hv).mono ?_
  rintro e w3 ⟨b', u', rfl, hm3⟩
  have hB3 := below_step hB hB.size hm3.below
  have hD3 := hm3.v0
  clear hm3 hB hD hv
  obtain ⟨ab, cb, rfl, -, -, -, -⟩ := hD3.1
  obtain ⟨au, cu, rfl, -, -, -, -⟩ := hD3.2
  go_upto_region 2 with (fail)
  have q1 := World.alloc_heap_new w3 (.cells #[.slice ab wd.blocks.length cb, .slice au wd.waits.length cu] 39)
  have hst := (Below.refl w3.heap.size w3).alloc (Nat.le_refl _) (.cells #[.slice ab wd.blocks.length cb, .slice au wd.waits.length cu] 39)
  replace hD3 := hD3.step hst
  replace hB3 := below_step hB3 hB3.size hst
  obtain ⟨w4, hw4⟩ : ∃ w4, w3.alloc (.cells #[.slice ab wd.blocks.length cb, .slice au wd.waits.length cu] 39) = w4 := ⟨_, rfl⟩
  rw [hw4] at q1 hst hD3 hB3 ⊢
  generalize w3.heap.size = g1 at *
  clear hw4 hst
  have d0 := blk_cell q1 0
  have d1 := blk_cell q1 1
  simp at d0 d1
  have HQ := Lib.hid (And.intro q1 (And.intro hD3 hB3))
  clear q1 hD3 hB3
  go_wp2_with fail
  refine (H.out.2.2.2 _ _ w4 HQ.out.2.1).mono ?_
  rintro e w5 ⟨r, rfl, hm5⟩
  obtain ⟨q1, hD3, hB3⟩ := HQ.out
  replace q1 := (hm5.below.block _ (Array.getElem?_eq_some_iff.1 q1).1).trans q1
  replace hB3 := below_step hB3 hB3.size hm5.below
  have hr := hm5.bytes.all0
  clear hm5 hD3 HQ d0 d1
  have d11 := fun X => ((aft_below w5 X).cell (p := ⟨g1, 1, none⟩) (Array.getElem?_eq_some_iff.1 q1).1).trans (blk_cell q1 1)
  have c24 := fun X => cv_of (hr.step (aft_below w5 X))
  simp at d11
  have hl1 : (wd.waits.length : Int) = 1 := by have := HK.out.1; omega
  have HQ := Lib.hid (And.intro q1 hB3)
  have HL := Lib.hid HK.out.2
  clear q1 hB3 hr
  go_upto_region 3 with (fail)

  refine wp_region_held_drew (S := Cls w5) (by kernel_rfl) (Cls.drew w5) (fun hCl => ?_)
  refine wpAnyH_seg (fuel := 11) (by kernel_rfl) (fun _ d _ _ _ h => by cases d <;> exact h) hCl [0, 1, 2, 3, 4, 5, 6, 7, 8] _ _ _ (by kernel_rfl) (by kernel_rfl) ?_
  simp only [opsOf_cons, opsOf_nil, consOp_some, List.getElem?_toArray, List.getElem?_cons_succ, List.getElem?_cons_zero]
  repeat (first | go_big_quiet_step (fail) | quiet_step (fail))
  refine wpQuiet_nil ?_
  refine wpAnyH_each (fuel := 10) [9] (by kernel_rfl) (by simp) (by kernel_rfl) ?_
  refine Each.cons _ rfl (fun K' hK => ?_) Each.nil
  go_simp
  refine (H.out.2.1 _).mono ?_
  rintro e z1 ⟨u2, rfl, hm⟩
  have hst := below_step hCl.below hCl.below.size hm.below
  have c26 := fun X => cv_of (hm.bytes.all0.step (aft_below z1 X))
  have d11b := fun X => ((aft_below z1 X).cell (p := ⟨g1, 1, none⟩) (Nat.lt_of_lt_of_le (Array.getElem?_eq_some_iff.1 HQ.out.1).1 hst.size)).trans ((hst.cell (p := ⟨g1, 1, none⟩) (Array.getElem?_eq_some_iff.1 HQ.out.1).1).trans (blk_cell HQ.out.1 1))
  simp at d11b
  have HST := Lib.hid hst
  refine hK.out (Cls z1) (Cls.sub hst) (Cls.refl z1) ?_
  have hCl := Cls.refl z1
  clear hK K'
  refine wpAnyH_seg (fuel := 0) (by kernel_rfl) (fun _ d _ _ _ h => by cases d <;> exact h) hCl [10, 11, 12, 13, 14, 15, 16, 17, 18, 19] _ _ _ (by kernel_rfl) (by kernel_rfl) ?_
  simp only [opsOf_cons, opsOf_nil, consOp_some, List.getElem?_toArray, List.getElem?_cons_succ, List.getElem?_cons_zero]
  repeat (first | go_big_quiet_step (fail) | quiet_step (fail))
  refine wpQuiet_nil ?_
  refine wpAnyH_done (by kernel_rfl) ?_ _
  go_wp2
  go_ret
  exact ⟨rfl, below_step HQ.out.2 HQ.out.2.size HST.out⟩
end Go.Proofs.Ytldidclnfkmonaa
