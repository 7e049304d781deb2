/- RingFinds: the words and contracts, part 14. -/
import Derived.Test.YtcibihakjcenaaaRingFindsQ1
import Derived.Test.YtcibihakjcenaaaRingFindsQ2
import Derived.Test.YtcibihakjcenaaaRingFindsQ3
import Derived.Test.YtcibihakjcenaaaRingFindsQ4
import Derived.Test.YtcibihakjcenaaaRingFindsQ5
import Derived.Test.YtcibihakjcenaaaRingFindsQ6
import Derived.Test.YtcibihakjcenaaaRingFindsQ7
import Derived.Test.YtcibihakjcenaaaRingFindsQ8
import Derived.Test.YtcibihakjcenaaaRingFindsQ9
import Derived.Test.YtcibihakjcenaaaRingFindsQ10
import Derived.Test.YtcibihakjcenaaaRingFindsQ11
import Derived.Test.YtcibihakjcenaaaRingFindsQ12
import Derived.Test.YtcibihakjcenaaaRingFindsQ13
import Derived.WalkKit
import Derived.WalkLawsBesides
import Derived.WalkSpells
import Derived.Lib.Hide
import Derived.Laws.Rows
import Derived.Laws.AppendOwnNone
import Derived.Maps.AppendAt
import Derived.ProofKit
import Derived.Deep.Slices
import Derived.WideShapes
import Derived.RangeFuncNested
import Derived.RangeFuncBound
import Derived.RangeFuncCalls
import Derived.RangeFuncLeaves
import Derived.RangeFuncBox
import Derived.Shelf.Abstract
import Derived.Shelf.RegionOpen
import Derived.OwnWalkIn
import Derived.TacticsInMore
import Derived.LoopNIn
import Derived.LoopIn
import Derived.Lib.AppendZerosOnto
import Derived.Lib.SliceRun
import Derived.Lib.Walk
import Derived.Deep.LoopGhost
import Derived.Laws.CopyOwn
import Derived.Laws.CopyRow
import Derived.OrdersHeld
import Derived.Deep.QuietTactic
import Derived.BigQuiet
import Derived.StillTailTactics
import Derived.OpenShut
import Derived.Deep.DeepCutAuto
import Derived.Deep.RegionHeld
import Derived.Laws.MakeOwn
import Derived.KernelRfl
import Derived.BigFrameIn
import Derived.ShutString
import Derived.ChangeOld
import Derived.Below
namespace Go.Proofs.Ytcibihakjcenaaa
open Go.RowKit

set_option linter.unusedSimpArgs false
theorem hide_ck {z z' : World} {S : Nat → Bool} (h : ∀ k, k < z.heap.size → S k = false → z'.heap[k]? = z.heap[k]?) : CKc (hideW z S) z' :=
  (hideW_ck (S' := fun _ => false) fun k h1 h2 => ⟨rfl, h k h1 h2⟩).trans (hideW_out z' _)
theorem hideW_size (w : World) (S : Nat → Bool) : (hideW w S).heap.size = w.heap.size := by simp [hideW]
set_option maxRecDepth 100000 in
set_option maxHeartbeats 2000000 in
theorem ruput_any (d : DiskL) (b_d u_d : Value) (s : SupL) (u_s : Value) (w : World) (h_d : DiskV w 0 w.heap.size b_d u_d d) (h_s : SupV w 0 w.heap.size u_s s) :
    Calls Try.prog 44 #[.agg #[b_d, u_d], .agg #[wV s.gen, .int .i64 s.root, wV s.next, wV s.table, u_s]] w fun e w' => ∃ b' u', e = .returned (.tuple #[.agg #[b', u'], .int .i64 (errPut d s)]) ∧ GotD w w' b' u' (putU d s) := by
  obtain ⟨ab_d, cb_d, rfl, gb_d, gc_d, -, -⟩ := h_d.1
  obtain ⟨au_d, cu_d, rfl, gu_d, gv_d, -, -⟩ := h_d.2
  unfold maxLen at gc_d gv_d
  obtain ⟨s_g, s_r, s_n, s_t, s_d⟩ := s
  obtain ⟨hw_s, h_s⟩ := h_s
  dsimp only at hw_s h_s
  obtain ⟨a_s, c_s, rfl, g_s, gm_s, -, -⟩ := id h_s
  unfold maxLen at gm_s
  simp only [bV, wV]
  have hst := ((((Below.refl w.heap.size w).alloc (Nat.le_refl _) (.cells #[.slice ab_d d.blocks.length cb_d, .slice au_d d.waits.length cu_d] 44)).alloc (by simp) (.cells #[.int .u32 (s_g.toNat : Int), .int .i64 s_r, .int .u32 (s_n.toNat : Int), .int .u32 (s_t.toNat : Int), .slice a_s s_d.length c_s] 25)).alloc (by simp; omega) (.cells #[.slice none 0 0, .slice none 0 0] 44))
  have hq := three_new w (.cells #[.slice ab_d d.blocks.length cb_d, .slice au_d d.waits.length cu_d] 44) (.cells #[.int .u32 (s_g.toNat : Int), .int .i64 s_r, .int .u32 (s_n.toNat : Int), .int .u32 (s_t.toNat : Int), .slice a_s s_d.length c_s] 25) (.cells #[.slice none 0 0, .slice none 0 0] 44)
  have q_d := LK.of hq.1
  have q_s := LK.of hq.2.1
  have q_r := LK.of hq.2.2
  have hB : LW w _ := hst
  have D_d := (LD.of h_d (Nat.le_refl _)).step hst
  have S_s := (LS.of h_s (Nat.le_refl _)).step hst
  have sz_V : w.heap.size + 2 < (((w.alloc (.cells #[.slice ab_d d.blocks.length cb_d, .slice au_d d.waits.length cu_d] 44)).alloc (.cells #[.int .u32 (s_g.toNat : Int), .int .i64 s_r, .int .u32 (s_n.toNat : Int), .int .u32 (s_t.toNat : Int), .slice a_s s_d.length c_s] 25)).alloc (.cells #[.slice none 0 0, .slice none 0 0] 44)).heap.size := by simp
  obtain ⟨V, hV⟩ : ∃ V, (((w.alloc (.cells #[.slice ab_d d.blocks.length cb_d, .slice au_d d.waits.length cu_d] 44)).alloc (.cells #[.int .u32 (s_g.toNat : Int), .int .i64 s_r, .int .u32 (s_n.toNat : Int), .int .u32 (s_t.toNat : Int), .slice a_s s_d.length c_s] 25)).alloc (.cells #[.slice none 0 0, .slice none 0 0] 44)) = V := ⟨_, rfl⟩
  rw [hV] at sz_V q_d q_s q_r D_d S_s hB
  clear hst h_d h_s hq
  have HQ := Lib.hid (And.intro q_d (And.intro q_s (And.intro q_r (And.intro D_d (And.intro S_s hB)))))
  clear q_d q_s q_r D_d S_s hB
  have c_q_d0 := LK.cell HQ.out.1 0
  have c_q_d1 := LK.cell HQ.out.1 1
  have c_q_s0 := LK.cell HQ.out.2.1 0
  have c_q_s1 := LK.cell HQ.out.2.1 1
  have c_q_s2 := LK.cell HQ.out.2.1 2
  have c_q_s3 := LK.cell HQ.out.2.1 3
  have c_q_s4 := LK.cell HQ.out.2.1 4
  have c_q_r0 := LK.cell HQ.out.2.2.1 0
  have c_q_r1 := LK.cell HQ.out.2.2.1 1
  simp at c_q_d0 c_q_d1 c_q_s0 c_q_s1 c_q_s2 c_q_s3 c_q_s4 c_q_r0 c_q_r1
  obtain ⟨md, hmd⟩ : ∃ z, mayD d = z := ⟨_, rfl⟩
  obtain ⟨mu, hmu⟩ : ∃ z, mayU (⟨s_g, s_r, s_n, s_t, s_d⟩ : SupL) = z := ⟨_, rfl⟩
  have h1 : errPut d (⟨s_g, s_r, s_n, s_t, s_d⟩ : SupL) = if md then (if mu then errW d (slotU s_g : Nat) (blockU (⟨s_g, s_r, s_n, s_t, s_d⟩ : SupL)) else 8) else 8 := by unfold errPut; rw [hmd, hmu]
  have h2 : putU d (⟨s_g, s_r, s_n, s_t, s_d⟩ : SupL) = if md && mu then writeD d (slotU s_g : Nat) (blockU (⟨s_g, s_r, s_n, s_t, s_d⟩ : SupL)) else ⟨[], []⟩ := by unfold putU; rw [hmd, hmu]
  have kd := fun V b u hh => rmayd_any b u d V hh
  have km := fun V hh => rumay_any (⟨s_g, s_r, s_n, s_t, s_d⟩ : SupL) (.slice a_s s_d.length c_s) V (⟨hw_s, hh⟩ : SupV _ _ _ _ (⟨s_g, s_r, s_n, s_t, s_d⟩ : SupL))
  have kb := fun V hh hm => rublock_any (⟨s_g, s_r, s_n, s_t, s_d⟩ : SupL) (.slice a_s s_d.length c_s) V (⟨hw_s, hh⟩ : SupV _ _ _ _ (⟨s_g, s_r, s_n, s_t, s_d⟩ : SupL)) hm
  have kt := fun V => ruslot_any s_g V
  have kp := fun V T b u x hc hs h1 h2 => rdwriteT b u d (slotU s_g : Nat) x (blockU (⟨s_g, s_r, s_n, s_t, s_d⟩ : SupL)) V T hc hs h1 h2
  rw [hmd] at kd
  rw [hmu] at km kb
  clear hmd hmu
  rw [h1, h2]
  clear h1 h2
  generalize errW d (slotU s_g : Nat) (blockU (⟨s_g, s_r, s_n, s_t, s_d⟩ : SupL)) = ew at *
  generalize writeD d (slotU s_g : Nat) (blockU (⟨s_g, s_r, s_n, s_t, s_d⟩ : SupL)) = wd at *
  generalize blockU (⟨s_g, s_r, s_n, s_t, s_d⟩ : SupL) = bl at *
  generalize slotU s_g = sl at *
  simp only [wV] at km kb kt
  have HC := Lib.hid (And.intro kd (And.intro km (And.intro kb (And.intro kt kp))))
  clear kd km kb kt kp
  go_enter Try.func44, Try.ntmps44
  go_upto_region 1 with (fail)
  clear hV
  go_wp2_with fail
  refine (HC.out.1 _ _ _ HQ.out.2.2.2.1.v).mono ?_
  rintro e w1 ⟨rfl, hst⟩
  clear c_q_d0 c_q_d1 c_q_s0 c_q_s1 c_q_s2 c_q_s3 c_q_s4 c_q_r0 c_q_r1
  obtain ⟨q_d, q_s, q_r, D_d, S_s, hB⟩ := HQ.out
  clear HQ
  have sz_w1 : V.heap.size ≤ w1.heap.size := hst.size
  replace q_d := q_d.step hst
  replace q_s := q_s.step hst
  replace q_r := q_r.step hst
  replace D_d := D_d.step hst
  replace S_s := S_s.step hst
  replace hB := hB.step hst
  clear hst
  have HQ := Lib.hid (And.intro q_d (And.intro q_s (And.intro q_r (And.intro D_d (And.intro S_s hB)))))
  clear q_d q_s q_r D_d S_s hB
  have c_q_d0 := LK.cell HQ.out.1 0
  have c_q_d1 := LK.cell HQ.out.1 1
  have c_q_s0 := LK.cell HQ.out.2.1 0
  have c_q_s1 := LK.cell HQ.out.2.1 1
  have c_q_s2 := LK.cell HQ.out.2.1 2
  have c_q_s3 := LK.cell HQ.out.2.1 3
  have c_q_s4 := LK.cell HQ.out.2.1 4
  have c_q_r0 := LK.cell HQ.out.2.2.1 0
  have c_q_r1 := LK.cell HQ.out.2.2.1 1
  simp at c_q_d0 c_q_d1 c_q_s0 c_q_s1 c_q_s2 c_q_s3 c_q_s4 c_q_r0 c_q_r1
  cases md
  case false =>
    clear c_q_d0 c_q_d1 c_q_s0 c_q_s1 c_q_s2 c_q_s3 c_q_s4 c_q_r0 c_q_r1
    have c_q_d0 := LK.cell HQ.out.1 0
    have c_q_d1 := LK.cell HQ.out.1 1
    have c_q_s0 := LK.cell HQ.out.2.1 0
    have c_q_s1 := LK.cell HQ.out.2.1 1
    have c_q_s2 := LK.cell HQ.out.2.1 2
    have c_q_s3 := LK.cell HQ.out.2.1 3
    have c_q_s4 := LK.cell HQ.out.2.1 4
    have c_q_r0 := LK.cell HQ.out.2.2.1 0
    have c_q_r1 := LK.cell HQ.out.2.2.1 1
    have z_q_r0 := LK.frozen HQ.out.2.2.1 0
    have z_q_r1 := LK.frozen HQ.out.2.2.1 1
    simp at c_q_d0 c_q_d1 c_q_s0 c_q_s1 c_q_s2 c_q_s3 c_q_s4 c_q_r0 c_q_r1
    have hBf := HQ.out.2.2.2.2.2
    go_wp2
    refine bodyPost_ret (v := .tuple #[.agg #[.slice none 0 0, .slice none 0 0], .int .i64 8]) (by simp [results, Try.results44, go_sem, c_q_r0, c_q_r1]) rfl ⟨_, _, rfl, GotD.nil_ ?_⟩
    exact (hBf.setCell (p := ⟨w.heap.size + 2, 0, none⟩) (Nat.le_add_right _ _) _).setCell (p := ⟨w.heap.size + 2, 1, none⟩) (Nat.le_add_right _ _) _
  go_wp2_with fail
  refine (HC.out.2.1 _ HQ.out.2.2.2.2.1.v).mono ?_
  rintro e w2 ⟨rfl, hst⟩
  clear c_q_d0 c_q_d1 c_q_s0 c_q_s1 c_q_s2 c_q_s3 c_q_s4 c_q_r0 c_q_r1
  obtain ⟨q_d, q_s, q_r, D_d, S_s, hB⟩ := HQ.out
  clear HQ
  have sz_w2 : w1.heap.size ≤ w2.heap.size := hst.size
  replace q_d := q_d.step hst
  replace q_s := q_s.step hst
  replace q_r := q_r.step hst
  replace D_d := D_d.step hst
  replace S_s := S_s.step hst
  replace hB := hB.step hst
  clear hst
  have HQ := Lib.hid (And.intro q_d (And.intro q_s (And.intro q_r (And.intro D_d (And.intro S_s hB)))))
  clear q_d q_s q_r D_d S_s hB
  have c_q_d0 := LK.cell HQ.out.1 0
  have c_q_d1 := LK.cell HQ.out.1 1
  have c_q_s0 := LK.cell HQ.out.2.1 0
  have c_q_s1 := LK.cell HQ.out.2.1 1
  have c_q_s2 := LK.cell HQ.out.2.1 2
  have c_q_s3 := LK.cell HQ.out.2.1 3
  have c_q_s4 := LK.cell HQ.out.2.1 4
  have c_q_r0 := LK.cell HQ.out.2.2.1 0
  have c_q_r1 := LK.cell HQ.out.2.2.1 1
  simp at c_q_d0 c_q_d1 c_q_s0 c_q_s1 c_q_s2 c_q_s3 c_q_s4 c_q_r0 c_q_r1
  cases mu
  case false =>
    clear c_q_d0 c_q_d1 c_q_s0 c_q_s1 c_q_s2 c_q_s3 c_q_s4 c_q_r0 c_q_r1
    have c_q_d0 := LK.cell HQ.out.1 0
    have c_q_d1 := LK.cell HQ.out.1 1
    have c_q_s0 := LK.cell HQ.out.2.1 0
    have c_q_s1 := LK.cell HQ.out.2.1 1
    have c_q_s2 := LK.cell HQ.out.2.1 2
    have c_q_s3 := LK.cell HQ.out.2.1 3
    have c_q_s4 := LK.cell HQ.out.2.1 4
    have c_q_r0 := LK.cell HQ.out.2.2.1 0
    have c_q_r1 := LK.cell HQ.out.2.2.1 1
    have z_q_r0 := LK.frozen HQ.out.2.2.1 0
    have z_q_r1 := LK.frozen HQ.out.2.2.1 1
    simp at c_q_d0 c_q_d1 c_q_s0 c_q_s1 c_q_s2 c_q_s3 c_q_s4 c_q_r0 c_q_r1
    have hBf := HQ.out.2.2.2.2.2
    go_wp2
    refine bodyPost_ret (v := .tuple #[.agg #[.slice none 0 0, .slice none 0 0], .int .i64 8]) (by simp [results, Try.results44, go_sem, c_q_r0, c_q_r1]) rfl ⟨_, _, rfl, GotD.nil_ ?_⟩
    exact (hBf.setCell (p := ⟨w.heap.size + 2, 0, none⟩) (Nat.le_add_right _ _) _).setCell (p := ⟨w.heap.size + 2, 1, none⟩) (Nat.le_add_right _ _) _
  clear c_q_d0 c_q_d1 c_q_s0 c_q_s1 c_q_s2 c_q_s3 c_q_s4 c_q_r0 c_q_r1
  obtain ⟨Pr, hPr⟩ : ∃ Pr : World → Prop, ∀ X, Pr X ↔ LK w.heap.size (.cells #[.slice ab_d d.blocks.length cb_d, .slice au_d d.waits.length cu_d] 44) X ∧ LK (w.heap.size + 1) (.cells #[.int .u32 (s_g.toNat : Int), .int .i64 s_r, .int .u32 (s_n.toNat : Int), .int .u32 (s_t.toNat : Int), .slice a_s s_d.length c_s] 25) X := ⟨_, fun _ => Iff.rfl⟩
  have hdr := (Below.refl w2.heap.size w2).drew
  have hP : Pr w2.drew := (hPr _).2 ⟨HQ.out.1.step hdr, HQ.out.2.1.step hdr⟩
  have HW := Lib.hid (And.intro (LW.step HQ.out.2.2.2.2.2 hdr) (And.intro (HQ.out.2.2.2.1.step hdr) (And.intro (HQ.out.2.2.1.step hdr) (HQ.out.2.2.2.2.1.step hdr))))
  clear hdr
  have hPs : ∀ X, Pr (selW Pr w2.drew X) := fun X => selW_pr hP X
  have e0 := fun X => LK.cell ((hPr _).1 (hPs X)).1 0
  have e1 := fun X => LK.cell ((hPr _).1 (hPs X)).1 1
  have f0 := fun X => LK.cell ((hPr _).1 (hPs X)).2 0
  have f1 := fun X => LK.cell ((hPr _).1 (hPs X)).2 1
  have f2 := fun X => LK.cell ((hPr _).1 (hPs X)).2 2
  have f3 := fun X => LK.cell ((hPr _).1 (hPs X)).2 3
  have f4 := fun X => LK.cell ((hPr _).1 (hPs X)).2 4
  simp at e0 e1 f0 f1 f2 f3 f4
  go_wp2_with fail
  refine wp_region_L (S := Kl Pr w2.drew) 10 (by kernel_rfl) (Kl.of hP) (fun hCl => ?_)
  refine wpAnyL_seg (fuel := 7) (by kernel_rfl) (fun _ d _ _ _ h => by cases d <;> exact h) hCl [0, 1, 2, 4] _ _ _ (by kernel_rfl) (by kernel_rfl) (by kernel_rfl) (by kernel_rfl) ?_
  simp only [opsOf_cons, opsOf_nil, consOp_some, List.getElem?_toArray, List.getElem?_cons_succ, List.getElem?_cons_zero]
  repeat (first | go_big_quiet_step (fail) | quiet_step (fail))
  refine wpQuiet_nil ?_
  refine wpAnyL_each (fuel := 6) [3] (by kernel_rfl) (by simp) (by kernel_rfl) ?_
  refine EachL.cons _ rfl (fun K' hK => ?_) EachL.nil
  go_simp
  refine (HC.out.2.2.2.1 _).mono ?_
  rintro e z1 ⟨rfl, rfl⟩
  have hst := hP
  have hCl : Kl Pr w2.drew _ := Kl.of hst
  refine hK.out (.inr hCl) ?_
  clear hK K'
  refine wpAnyL_each (fuel := 5) [5] (by kernel_rfl) (by simp) (by kernel_rfl) ?_
  refine EachL.cons _ rfl (fun K' hK => ?_) EachL.nil
  go_simp
  refine (HC.out.2.2.1 _ HW.out.2.2.2.v (by trivial)).mono ?_
  rintro e z2 ⟨xb, rfl, hm⟩
  have hst : Pr z2 := (hPr _).2 ⟨((hPr _).1 hP).1.step hm.below, ((hPr _).1 hP).2.step hm.below⟩
  have HX := Lib.hid (And.intro (LW.step HW.out.1 hm.below) (And.intro (HW.out.2.1.step hm.below) (And.intro (HW.out.2.2.1.step hm.below) hm)))
  clear hm
  have hCl : Kl Pr w2.drew _ := Kl.of hst
  refine hK.out (.inr hCl) ?_
  clear hK K'
  refine wpAnyL_each (fuel := 4) [6] (by kernel_rfl) (by simp) (by kernel_rfl) ?_
  refine EachL.cons _ rfl (fun K' hK => ?_) EachL.nil
  go_simp
  obtain ⟨T, hT⟩ : ∃ T, hideW z2 (fun k => decide (k = w.heap.size + 2)) = T := ⟨_, rfl⟩
  have hTs : T.heap.size = z2.heap.size := by rw [← hT]; exact hideW_size _ _
  have hTk : ∀ k, k ≠ w.heap.size + 2 → T.heap[k]? = z2.heap[k]? := fun k hk => by rw [← hT]; exact hideW_get _ _ _ (by simp [hk])
  have hTc : ∀ z : World, (∀ k, k < z2.heap.size → k ≠ w.heap.size + 2 → z.heap[k]? = z2.heap[k]?) → CKc T z := fun z hz => by rw [← hT]; exact hide_ck fun k h1 h2 => hz k h1 (by simpa using h2)
  have szx := HX.out.2.2.2.below.size
  have szr := HW.out.2.2.1.lt
  have hTd : DiskV T 0 T.heap.size (.slice ab_d d.blocks.length cb_d) (.slice au_d d.waits.length cu_d) d := (LD.out (n0 := w.heap.size + 2) (h0 := w.heap.size + 3) HX.out.2.1 (Nat.le_of_eq hTs.symm) (fun x _ h => hTk x (by omega)) (by omega)).v
  have hTb : Bytes T 0 T.heap.size xb bl := (LB.out (n0 := w.heap.size + 2) (h0 := w.heap.size + 3) (LM.of HX.out.2.2.2).b (Nat.le_of_eq hTs.symm) (fun x _ h => hTk x (by omega)) (by omega)).v
  refine (HC.out.2.2.2.2 _ T _ _ _ (hTc _ fun _ _ _ => rfl) (Nat.le_of_eq hTs) hTd hTb).mono ?_
  rintro e z3 ⟨b2, u2, rfl, hg⟩
  have hgd := (hg.got (hTc _ fun _ _ _ => rfl)).disk
  obtain ⟨a3, c3, rfl, -, -, -, -⟩ := id hgd.1
  obtain ⟨a4, c4, rfl, -, -, -, -⟩ := id hgd.2
  have q3 := HX.out.2.2.1.step hg.below
  have r0 := LK.cell q3 0
  have r1 := LK.cell q3 1
  have z0 := LK.frozen q3 0
  have z1 := LK.frozen q3 1
  simp at r0 r1
  have hst : Pr z3 := (hPr _).2 ⟨((hPr _).1 hst).1.step hg.below, ((hPr _).1 hst).2.step hg.below⟩
  have HM := Lib.hid (And.intro hg (And.intro q3 hTc))
  clear hg q3 hT hTk hTc hTd hTb hgd
  have hCl : Kl Pr w2.drew _ := Kl.of hst
  refine hK.out (.inr hCl) ?_
  clear hK K'
  refine wpAnyL_seg (fuel := 2) (by kernel_rfl) (fun _ d _ _ _ h => by cases d <;> exact h) hCl [7, 8] _ _ _ (by kernel_rfl) (by kernel_rfl) (by kernel_rfl) (by kernel_rfl) ?_
  simp only [opsOf_cons, opsOf_nil, consOp_some, List.getElem?_toArray, List.getElem?_cons_succ, List.getElem?_cons_zero]
  repeat (first | go_big_quiet_step (fail) | quiet_step (fail))
  refine wpQuiet_nil ?_
  refine wpAnyL_each (fuel := 1) [9] (by kernel_rfl) (by simp) (by kernel_rfl) ?_
  refine EachL.cons _ rfl (fun K' hK => ?_) EachL.nil
  go_simp
  obtain ⟨z4, hz4⟩ : ∃ z, (z3.setCell ⟨w.heap.size + 2, 0, none⟩ (.slice a3 wd.blocks.length c3)).setCell ⟨w.heap.size + 2, 1, none⟩ (.slice a4 wd.waits.length c4) = z := ⟨_, rfl⟩
  rw [hz4]
  have hso : ∀ k, k ≠ w.heap.size + 2 → z4.heap[k]? = z3.heap[k]? := fun k hk => by rw [← hz4, set_other _ _ _ _ _ hk, set_other _ _ _ _ _ hk]
  have q4 : z4.heap[w.heap.size + 2]? = some (.cells #[.slice a3 wd.blocks.length c3, .slice a4 wd.waits.length c4] 44) := by rw [← hz4]; exact set_block (set_block HM.out.2.1.blk 0 _) 1 _
  have hsz : z4.heap.size = z3.heap.size := by rw [← hz4]; simp
  have hst : Pr z4 := (hPr _).2 ⟨LK.of ((hso _ (by omega)).trans ((hPr _).1 hst).1.blk), LK.of ((hso _ (by omega)).trans ((hPr _).1 hst).2.blk)⟩
  have hBz : Below w.heap.size w z4 := by rw [← hz4]; exact ((LW.step HX.out.1 HM.out.1.below).setCell (p := ⟨w.heap.size + 2, 0, none⟩) (Nat.le_add_right _ _) _).setCell (p := ⟨w.heap.size + 2, 1, none⟩) (Nat.le_add_right _ _) _
  have HZ := Lib.hid (And.intro hso (And.intro q4 (And.intro hsz hBz)))
  clear hso q4 hsz hBz hz4 r0 r1 z0 z1
  have hCl : Kl Pr w2.drew _ := Kl.of hst
  refine hK.out (.inr hCl) ?_
  clear hK K'
  refine wpAnyL_each (fuel := 0) [10] (by kernel_rfl) (by simp) (by kernel_rfl) ?_
  refine EachL.cons _ rfl (fun K' hK => ?_) EachL.nil
  go_simp
  refine hK.out (.inl rfl) ?_
  clear hK K'
  refine wpAnyL_done (by kernel_rfl) ?_ _
  have c_q_r0 := blk_cell HZ.out.2.1 0
  have c_q_r1 := blk_cell HZ.out.2.1 1
  simp at c_q_r0 c_q_r1
  go_wp2
  refine bodyPost_ret (v := .tuple #[.agg #[.slice a3 wd.blocks.length c3, .slice a4 wd.waits.length c4], .int .i64 ew]) (by simp [results, Try.results44, go_sem, c_q_r0, c_q_r1]) rfl ⟨_, _, rfl, ?_, HZ.out.2.2.2⟩
  have hzs := HZ.out.2.2.1
  have hzb := HM.out.1.below.size
  exact HM.out.1.disk z4 (Nat.le_of_eq hzs.symm) (HM.out.2.2 z4 fun k h1 h2 => (HZ.out.1 k h2).trans (HM.out.1.below.block k h1)) (fun k h1 h2 => HZ.out.1 k (by omega))

end Go.Proofs.Ytcibihakjcenaaa

