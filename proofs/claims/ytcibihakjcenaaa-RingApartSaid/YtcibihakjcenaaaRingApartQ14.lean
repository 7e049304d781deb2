/- RingApart: the words and contracts, part 14. -/
import Derived.Test.YtcibihakjcenaaaRingApartQ1
import Derived.Test.YtcibihakjcenaaaRingApartQ2
import Derived.Test.YtcibihakjcenaaaRingApartQ3
import Derived.Test.YtcibihakjcenaaaRingApartQ4
import Derived.Test.YtcibihakjcenaaaRingApartQ5
import Derived.Test.YtcibihakjcenaaaRingApartQ6
import Derived.Test.YtcibihakjcenaaaRingApartQ7
import Derived.Test.YtcibihakjcenaaaRingApartQ8
import Derived.Test.YtcibihakjcenaaaRingApartQ9
import Derived.Test.YtcibihakjcenaaaRingApartQ10
import Derived.Test.YtcibihakjcenaaaRingApartQ11
import Derived.Test.YtcibihakjcenaaaRingApartQ12
import Derived.Test.YtcibihakjcenaaaRingApartQ13
import Derived.WalkKit
import Derived.WalkLawsBesides
import Derived.WalkSpells
import Derived.Lib.Hide
import Derived.Laws.Rows
import Derived.Laws.AppendOwnNone
import Derived.Maps.AppendAt
import Derived.ProofKit
import Derived.Deep.Slices
import Derived.WideShapes
import Derived.RangeFuncNested
import Derived.RangeFuncBound
import Derived.RangeFuncCalls
import Derived.RangeFuncLeaves
import Derived.RangeFuncBox
import Derived.Shelf.Abstract
import Derived.Shelf.RegionOpen
import Derived.OwnWalkIn
import Derived.TacticsInMore
import Derived.LoopNIn
import Derived.LoopIn
import Derived.Lib.AppendZerosOnto
import Derived.Lib.SliceRun
import Derived.Lib.Walk
import Derived.Deep.LoopGhost
import Derived.Laws.CopyOwn
import Derived.Laws.CopyRow
import Derived.OrdersHeld
import Derived.Deep.QuietTactic
import Derived.BigQuiet
import Derived.StillTailTactics
import Derived.OpenShut
import Derived.Deep.DeepCutAuto
import Derived.Deep.RegionHeld
import Derived.Laws.MakeOwn
import Derived.KernelRfl
import Derived.BigFrameIn
import Derived.ShutString
import Derived.ChangeOld
import Derived.Below
namespace Go.Proofs.Ytcibihakjcenaaa
open Go.RowKit

def errPut (d : DiskL) (s : SupL) : Int := if mayD d then (if mayU s then errW d (slotU s.gen : Nat) (blockU s) else 8) else 8
def putU (d : DiskL) (s : SupL) : DiskL := if mayD d && mayU s then writeD d (slotU s.gen : Nat) (blockU s) else ⟨[], []⟩
set_option maxRecDepth 100000 in
set_option maxHeartbeats 1000000 in
/-- ring.Put. -/
theorem uput_any (b u : Value) (d : DiskL) (s : SupL) (v : Value) (w : World) (h : DiskV w 0 w.heap.size b u d) (h_s : SupV w 0 w.heap.size v s) :
    Calls Try.prog 43 #[.agg #[b, u], .agg #[wV s.gen, .int .i64 s.root, wV s.next, wV s.table, v]] w fun e w' => ∃ b' u', e = .returned (.tuple #[.agg #[b', u'], .int .i64 (errPut d s)]) ∧ MadeD w w' b' u' (putU d s) := by
  obtain ⟨md, hmd⟩ : ∃ z, mayD d = z := ⟨_, rfl⟩
  obtain ⟨mu, hmu⟩ : ∃ z, mayU s = z := ⟨_, rfl⟩
  have h1 : errPut d s = if md then (if mu then errW d (slotU s.gen : Nat) (blockU s) else 8) else 8 := by unfold errPut; rw [hmd, hmu]
  have h2 : putU d s = if md && mu then writeD d (slotU s.gen : Nat) (blockU s) else ⟨[], []⟩ := by unfold putU; rw [hmd, hmu]
  have h3 : errUw s = if mu then 0 else 8 := by unfold errUw; rw [hmu]
  have kd := fun V hh => dcheck_any b u d V hh
  have kw := fun V hh => uwrite_any s v V ⟨h_s.1, hh⟩
  have kp := fun V x hh hb => dwrite_any b u d (slotU s.gen : Nat) x (blockU s) V hh hb
  have kt := fun V => uslot_any s.gen V
  rw [hmd] at kd
  rw [h3] at kw
  have hI := h_s.2
  clear hmd hmu h3 h_s
  rw [h1, h2]
  clear h1 h2
  generalize errW d (slotU s.gen : Nat) (blockU s) = ew at *
  generalize writeD d (slotU s.gen : Nat) (blockU s) = wd at *
  generalize blockU s = bl at *
  generalize slotU s.gen = sl at *
  generalize wV s.gen = vg at *
  generalize wV s.next = vn at *
  generalize wV s.table = vt at *
  generalize s.root = ro at *
  have hB := (((Below.refl w.heap.size w).alloc (Nat.le_refl _) (.cells #[b, u] 44)).alloc (by simp) (.cells #[vg, .int .i64 ro, vn, vt, v] 25)).alloc (by simp; omega) (.cells #[.slice none 0 0, .slice none 0 0] 44)
  have q0 := ((LK.new w (.cells #[b, u] 44)).step ((Below.refl _ _).alloc (Nat.le_refl _) (.cells #[vg, .int .i64 ro, vn, vt, v] 25))).step ((Below.refl _ _).alloc (Nat.le_refl _) (.cells #[.slice none 0 0, .slice none 0 0] 44))
  have q1 := (LK.new (w.alloc (.cells #[b, u] 44)) (.cells #[vg, .int .i64 ro, vn, vt, v] 25)).step ((Below.refl _ _).alloc (Nat.le_refl _) (.cells #[.slice none 0 0, .slice none 0 0] 44))
  have q2 := LK.new ((w.alloc (.cells #[b, u] 44)).alloc (.cells #[vg, .int .i64 ro, vn, vt, v] 25)) (.cells #[.slice none 0 0, .slice none 0 0] 44)
  simp only [World.size_alloc] at q1 q2
  replace h := h.step hB
  replace hI := hI.step hB
  have HQ := Lib.hid (And.intro hB (And.intro h (And.intro hI (And.intro q0 (And.intro q1 q2)))))
  have HK := Lib.hid (And.intro kd (And.intro kw (And.intro kp kt)))
  clear kd kw kp kt hB h hI q0 q1 q2
  go_enter Try.func43, Try.ntmps43
  go_upto_region 1 with (fail)
  obtain ⟨V, hV⟩ : ∃ V, ((w.alloc (.cells #[b, u] 44)).alloc (.cells #[vg, .int .i64 ro, vn, vt, v] 25)).alloc (.cells #[.slice none 0 0, .slice none 0 0] 44) = V := ⟨_, rfl⟩
  rw [hV] at HQ ⊢
  clear hV
  have c0 := LK.cell HQ.out.2.2.2.1 0
  have c1 := LK.cell HQ.out.2.2.2.1 1
  simp at c0 c1
  go_wp2_with fail
  refine (HK.out.1 _ HQ.out.2.1).mono ?_
  rintro e w1 ⟨rfl, hst⟩
  clear c0 c1
  obtain ⟨hB, h, hI, q0, q1, q2⟩ := HQ.out
  clear HQ
  replace hB := hB.trans (hst.mono hB.size)
  replace h := h.step hst
  replace hI := hI.step hst
  replace q0 := q0.step hst
  replace q1 := q1.step hst
  replace q2 := q2.step hst
  clear hst
  have HQ := Lib.hid (And.intro hB (And.intro h (And.intro hI (And.intro q0 (And.intro q1 q2)))))
  clear hB h hI q0 q1 q2
  have r0 := LK.cell HQ.out.2.2.2.2.2 0
  have r1 := LK.cell HQ.out.2.2.2.2.2 1
  have z0 := LK.frozen HQ.out.2.2.2.2.2 0
  have z1 := LK.frozen HQ.out.2.2.2.2.2 1
  simp at r0 r1
  have hfail : ∀ W : World, Below w.heap.size w W → Below w.heap.size w ((W.setCell ⟨w.heap.size + 2, 0, none⟩ (.slice none 0 0)).setCell ⟨w.heap.size + 2, 1, none⟩ (.slice none 0 0)) := fun W h =>
    (h.setCell (p := ⟨w.heap.size + 2, 0, none⟩) (Nat.le_add_right _ _) _).setCell (p := ⟨w.heap.size + 2, 1, none⟩) (Nat.le_add_right _ _) _
  have HF := Lib.hid hfail
  clear hfail
  cases md
  case false =>
    go_wp2
    refine bodyPost_ret (v := .tuple #[.agg #[.slice none 0 0, .slice none 0 0], .int .i64 8]) (by simp [results, Try.results43, go_sem, r0, r1]) rfl ⟨_, _, rfl, MadeD.nil_ (HF.out _ HQ.out.1)⟩
  have c0 := LK.cell HQ.out.2.2.2.2.1 0
  have c1 := LK.cell HQ.out.2.2.2.2.1 1
  have c2 := LK.cell HQ.out.2.2.2.2.1 2
  have c3 := LK.cell HQ.out.2.2.2.2.1 3
  have c4 := LK.cell HQ.out.2.2.2.2.1 4
  simp at c0 c1 c2 c3 c4
  clear r0 r1 z0 z1
  go_wp2_with fail
  refine (HK.out.2.1 _ HQ.out.2.2.1).mono ?_
  rintro e w2 ⟨xb, rfl, hm⟩
  clear c0 c1 c2 c3 c4
  have hst := hm.below
  have hbl := hm.bytes.all0
  obtain ⟨hB, h, hI, q0, q1, q2⟩ := HQ.out
  clear HQ
  replace hB := hB.trans (hst.mono hB.size)
  replace h := h.step hst
  replace hI := hI.step hst
  replace q0 := q0.step hst
  replace q1 := q1.step hst
  replace q2 := q2.step hst
  clear hst hm
  have HQ := Lib.hid (And.intro hB (And.intro h (And.intro hI (And.intro q0 (And.intro q1 (And.intro q2 hbl))))))
  clear hB h hI q0 q1 q2 hbl
  have r0 := LK.cell HQ.out.2.2.2.2.2.1 0
  have r1 := LK.cell HQ.out.2.2.2.2.2.1 1
  have z0 := LK.frozen HQ.out.2.2.2.2.2.1 0
  have z1 := LK.frozen HQ.out.2.2.2.2.2.1 1
  simp at r0 r1
  cases mu
  case false =>
    obtain ⟨ax, cx, rfl, -, -⟩ := HQ.out.2.2.2.2.2.2.form rfl
    go_wp2
    refine bodyPost_ret (v := .tuple #[.agg #[.slice none 0 0, .slice none 0 0], .int .i64 8]) (by simp [results, Try.results43, go_sem, r0, r1]) rfl ⟨_, _, rfl, MadeD.nil_ (HF.out _ HQ.out.1)⟩
  obtain ⟨Pr, hPr⟩ : ∃ Pr : World → Prop, ∀ X, Pr X ↔ LK w.heap.size (.cells #[b, u] 44) X ∧ LK (w.heap.size + 1) (.cells #[vg, .int .i64 ro, vn, vt, v] 25) X := ⟨_, fun _ => Iff.rfl⟩
  have hdr := (Below.refl w2.heap.size w2).drew
  have hP : Pr w2.drew := (hPr _).2 ⟨HQ.out.2.2.2.1.step hdr, HQ.out.2.2.2.2.1.step hdr⟩
  have HW := Lib.hid (And.intro (HQ.out.1.trans (hdr.mono HQ.out.1.size)) (And.intro (HQ.out.2.1.step hdr) (And.intro (HQ.out.2.2.2.2.2.1.step hdr) (HQ.out.2.2.2.2.2.2.step hdr))))
  clear hdr
  have hPs : ∀ X, Pr (selW Pr w2.drew X) := fun X => selW_pr hP X
  have e0 := fun X => LK.cell ((hPr _).1 (hPs X)).1 0
  have e1 := fun X => LK.cell ((hPr _).1 (hPs X)).1 1
  have f0 := fun X => LK.cell ((hPr _).1 (hPs X)).2 0
  simp at e0 e1 f0
  clear r0 r1 z0 z1
  go_wp2_with fail
  refine wp_region_L (S := Kl Pr w2.drew) 9 (by kernel_rfl) (Kl.of hP) (fun hCl => ?_)
  refine wpAnyL_seg (fuel := 6) (by kernel_rfl) (fun _ d _ _ _ h => by cases d <;> exact h) hCl [0, 1, 2, 4] _ _ _ (by kernel_rfl) (by kernel_rfl) (by kernel_rfl) (by kernel_rfl) ?_
  simp only [opsOf_cons, opsOf_nil, consOp_some, List.getElem?_toArray, List.getElem?_cons_succ, List.getElem?_cons_zero]
  repeat (first | go_big_quiet_step (fail) | quiet_step (fail))
  refine wpQuiet_nil ?_
  refine wpAnyL_each (fuel := 5) [3] (by kernel_rfl) (by simp) (by kernel_rfl) ?_
  refine EachL.cons _ rfl (fun K' hK => ?_) EachL.nil
  go_simp
  refine (HK.out.2.2.2 _).mono ?_
  rintro e z1 ⟨rfl, rfl⟩
  have hst := hP
  have hCl : Kl Pr w2.drew _ := Kl.of hst
  refine hK.out (.inr hCl) ?_
  clear hK K'
  refine wpAnyL_each (fuel := 4) [5] (by kernel_rfl) (by simp) (by kernel_rfl) ?_
  refine EachL.cons _ rfl (fun K' hK => ?_) EachL.nil
  go_simp
  refine (HK.out.2.2.1 _ _ HW.out.2.1 HW.out.2.2.2).mono ?_
  rintro e z2 ⟨b2, u2, rfl, hm⟩
  obtain ⟨a3, c3, rfl, -, -, -, -⟩ := id hm.disk.1
  obtain ⟨a4, c4, rfl, -, -, -, -⟩ := id hm.disk.2
  have q2 := HW.out.2.2.1.step hm.below
  have r0 := LK.cell q2 0
  have r1 := LK.cell q2 1
  have z0 := LK.frozen q2 0
  have z1 := LK.frozen q2 1
  simp at r0 r1
  have hst : Pr z2 := (hPr _).2 ⟨((hPr _).1 hP).1.step hm.below, ((hPr _).1 hP).2.step hm.below⟩
  have HM := Lib.hid (And.intro hm q2)
  clear hm q2
  have hCl : Kl Pr w2.drew _ := Kl.of hst
  refine hK.out (.inr hCl) ?_
  clear hK K'
  refine wpAnyL_seg (fuel := 2) (by kernel_rfl) (fun _ d _ _ _ h => by cases d <;> exact h) hCl [6, 7] _ _ _ (by kernel_rfl) (by kernel_rfl) (by kernel_rfl) (by kernel_rfl) ?_
  simp only [opsOf_cons, opsOf_nil, consOp_some, List.getElem?_toArray, List.getElem?_cons_succ, List.getElem?_cons_zero]
  repeat (first | go_big_quiet_step (fail) | quiet_step (fail))
  refine wpQuiet_nil ?_
  refine wpAnyL_each (fuel := 1) [8] (by kernel_rfl) (by simp) (by kernel_rfl) ?_
  refine EachL.cons _ rfl (fun K' hK => ?_) EachL.nil
  go_simp
  obtain ⟨z3, hz3⟩ : ∃ z, (z2.setCell ⟨w.heap.size + 2, 0, none⟩ (.slice a3 wd.blocks.length c3)).setCell ⟨w.heap.size + 2, 1, none⟩ (.slice a4 wd.waits.length c4) = z := ⟨_, rfl⟩
  rw [hz3]
  have hso : ∀ k, k ≠ w.heap.size + 2 → z3.heap[k]? = z2.heap[k]? := fun k hk => by rw [← hz3, set_other _ _ _ _ _ hk, set_other _ _ _ _ _ hk]
  have q3 : z3.heap[w.heap.size + 2]? = some (.cells #[.slice a3 wd.blocks.length c3, .slice a4 wd.waits.length c4] 44) := by rw [← hz3]; exact set_block (set_block HM.out.2.blk 0 _) 1 _
  have hsz : z3.heap.size = z2.heap.size := by rw [← hz3]; simp
  have hst : Pr z3 := (hPr _).2 ⟨LK.of ((hso _ (by omega)).trans ((hPr _).1 hst).1.blk), LK.of ((hso _ (by omega)).trans ((hPr _).1 hst).2.blk)⟩
  have hBz : Below w.heap.size w z3 := by rw [← hz3]; exact ((HW.out.1.trans (HM.out.1.below.mono HW.out.1.size)).setCell (p := ⟨w.heap.size + 2, 0, none⟩) (Nat.le_add_right _ _) _).setCell (p := ⟨w.heap.size + 2, 1, none⟩) (Nat.le_add_right _ _) _
  have HZ := Lib.hid (And.intro hso (And.intro q3 (And.intro hsz hBz)))
  clear hso q3 hsz hBz hz3 r0 r1 z0 z1
  have hCl : Kl Pr w2.drew _ := Kl.of hst
  refine hK.out (.inr hCl) ?_
  clear hK K'
  refine wpAnyL_each (fuel := 0) [9] (by kernel_rfl) (by simp) (by kernel_rfl) ?_
  refine EachL.cons _ rfl (fun K' hK => ?_) EachL.nil
  go_simp
  refine hK.out (.inl rfl) ?_
  clear hK K'
  refine wpAnyL_done (by kernel_rfl) ?_ _
  have y0 := blk_cell HZ.out.2.1 0
  have y1 := blk_cell HZ.out.2.1 1
  simp at y0 y1
  go_wp2
  refine bodyPost_ret (v := .tuple #[.agg #[.slice a3 wd.blocks.length c3, .slice a4 wd.waits.length c4], .int .i64 ew]) (by simp [results, Try.results43, go_sem, y0, y1]) rfl ⟨_, _, rfl, ?_, HZ.out.2.2.2⟩
  have hlt := HW.out.2.2.1.lt
  have hbs := HW.out.1.size
  have hzs := HZ.out.2.2.1
  have hkp : Kp w2.drew.heap.size z2.heap.size z2 z3 := fun k o h1 h2 => ⟨heap_cell (HZ.out.1 k (by omega)) o, heap_frozen (HZ.out.1 k (by omega)) o⟩
  exact (HM.out.1.disk.kept hkp).more hbs (by omega)
end Go.Proofs.Ytcibihakjcenaaa

