/- FindDoes: the words and contracts, part 13. -/
import Derived.Test.YtcibihakjcenaaaFindDoesQ1
import Derived.Test.YtcibihakjcenaaaFindDoesQ2
import Derived.Test.YtcibihakjcenaaaFindDoesQ3
import Derived.Test.YtcibihakjcenaaaFindDoesQ4
import Derived.Test.YtcibihakjcenaaaFindDoesQ5
import Derived.Test.YtcibihakjcenaaaFindDoesQ6
import Derived.Test.YtcibihakjcenaaaFindDoesQ7
import Derived.Test.YtcibihakjcenaaaFindDoesQ8
import Derived.Test.YtcibihakjcenaaaFindDoesQ9
import Derived.Test.YtcibihakjcenaaaFindDoesQ10
import Derived.Test.YtcibihakjcenaaaFindDoesQ11
import Derived.Test.YtcibihakjcenaaaFindDoesQ12
import Derived.WalkKit
import Derived.WalkLawsBesides
import Derived.WalkSpells
import Derived.Lib.Hide
import Derived.Laws.Rows
import Derived.Laws.AppendOwnNone
import Derived.Maps.AppendAt
import Derived.RangeFuncNested
import Derived.RangeFuncBound
import Derived.RangeFuncCalls
import Derived.RangeFuncLeaves
import Derived.RangeFuncBox
import Derived.Shelf.Abstract
import Derived.Shelf.RegionOpen
import Derived.OwnWalkIn
import Derived.TacticsInMore
import Derived.LoopNIn
import Derived.LoopIn
import Derived.ProofKit
import Derived.Deep.Slices
import Derived.WideShapes
import Derived.OrdersHeld
import Derived.Deep.QuietTactic
import Derived.BigQuiet
import Derived.StillTailTactics
import Derived.OpenShut
import Derived.Lib.SliceRun
import Derived.Lib.AppendZerosOnto
import Derived.Lib.Walk
import Derived.Deep.LoopGhost
import Derived.Laws.CopyOwn
import Derived.Deep.DeepCutAuto
import Derived.Laws.CopyRow
import Derived.Laws.MakeOwn
import Derived.Deep.RegionHeld
import Derived.KernelRfl
import Derived.BigFrameIn
import Derived.OrdersIn
namespace Go.Proofs.Ytcibihakjcenaaa
open Go.RowKit

set_option linter.unusedSimpArgs false
set_option maxRecDepth 100000 in
set_option maxHeartbeats 1000000 in
theorem rsmay_any (b_s u_s x_s y_s : Value) (s : StoreL) (w : World) (h_s : StoreV w 0 w.heap.size b_s u_s x_s y_s s) :
    Calls Try.prog 75 #[.agg #[b_s, u_s, x_s, y_s]] w fun e w' => e = .returned (.bool (mayS s)) ∧ Below w.heap.size w w' := by
  obtain ⟨ab_s, cb_s, rfl, gb_s, gc_s, -, -⟩ := h_s.1.1
  obtain ⟨au_s, cu_s, rfl, gu_s, gv_s, -, -⟩ := h_s.1.2
  obtain ⟨ax_s, cx_s, rfl, gx_s, gz_s⟩ := h_s.2.1.form rfl
  obtain ⟨ay_s, cy_s, rfl, gy_s, gw_s⟩ := h_s.2.2.form rfl
  unfold maxLen at gc_s gv_s gz_s gw_s
  have hst := ((Below.refl w.heap.size w).alloc (Nat.le_refl _) (.cells #[.slice ab_s s.disk.blocks.length cb_s, .slice au_s s.disk.waits.length cu_s, .slice ax_s s.now.length cx_s, .slice ay_s s.last.length cy_s] 46))
  have q_s := LK.new w (.cells #[.slice ab_s s.disk.blocks.length cb_s, .slice au_s s.disk.waits.length cu_s, .slice ax_s s.now.length cx_s, .slice ay_s s.last.length cy_s] 46)
  have hB : LW w _ := hst
  have O_s := (LO.of h_s (Nat.le_refl _)).step hst
  have sz_V : w.heap.size + 0 < (w.alloc (.cells #[.slice ab_s s.disk.blocks.length cb_s, .slice au_s s.disk.waits.length cu_s, .slice ax_s s.now.length cx_s, .slice ay_s s.last.length cy_s] 46)).heap.size := by simp
  obtain ⟨V, hV⟩ : ∃ V, (w.alloc (.cells #[.slice ab_s s.disk.blocks.length cb_s, .slice au_s s.disk.waits.length cu_s, .slice ax_s s.now.length cx_s, .slice ay_s s.last.length cy_s] 46)) = V := ⟨_, rfl⟩
  rw [hV] at sz_V q_s O_s hB
  clear hst h_s
  have HQ := Lib.hid (And.intro q_s (And.intro O_s hB))
  clear q_s O_s hB
  have c_q_s0 := LK.cell HQ.out.1 0
  have c_q_s1 := LK.cell HQ.out.1 1
  have c_q_s2 := LK.cell HQ.out.1 2
  have c_q_s3 := LK.cell HQ.out.1 3
  simp at c_q_s0 c_q_s1 c_q_s2 c_q_s3
  have hms : mayS s = (mayD s.disk && (mayT s.now && mayT s.last)) := rfl
  rw [hms]
  clear hms
  have k_d := fun V b u hh => rmayd_any b u s.disk V hh
  have k_n := fun V v hh => rmayt_any v s.now V hh
  have k_l := fun V v hh => rmayt_any v s.last V hh
  generalize mayD s.disk = m1 at *
  generalize mayT s.now = m2 at *
  generalize mayT s.last = m3 at *
  have HC := Lib.hid (And.intro k_d (And.intro k_n k_l))
  clear k_d k_n k_l
  go_enter Try.func75, Try.ntmps75
  go_upto_region 1 with (fail)
  clear hV
  go_wp2_with fail
  refine (HC.out.1 _ _ _ HQ.out.2.1.d).mono ?_
  rintro e w1 ⟨rfl, hst⟩
  clear c_q_s0 c_q_s1 c_q_s2 c_q_s3
  obtain ⟨q_s, O_s, hB⟩ := HQ.out
  clear HQ
  have sz_w1 : V.heap.size ≤ w1.heap.size := hst.size
  replace q_s := q_s.step hst
  replace O_s := O_s.step hst
  replace hB := hB.step hst
  clear hst
  have HQ := Lib.hid (And.intro q_s (And.intro O_s hB))
  clear q_s O_s hB
  have c_q_s0 := LK.cell HQ.out.1 0
  have c_q_s1 := LK.cell HQ.out.1 1
  have c_q_s2 := LK.cell HQ.out.1 2
  have c_q_s3 := LK.cell HQ.out.1 3
  simp at c_q_s0 c_q_s1 c_q_s2 c_q_s3
  cases m1
  case false =>
    go_wp2
    go_ret
    exact ⟨rfl, HQ.out.2.2⟩
  go_wp2_with fail
  refine (HC.out.2.1 _ _ HQ.out.2.1.n).mono ?_
  rintro e w0 ⟨rfl, hw0⟩
  rw [hw0]
  clear hw0 w0
  cases m2
  case false =>
    go_wp2
    go_ret
    exact ⟨rfl, HQ.out.2.2⟩
  go_wp2_with fail
  refine (HC.out.2.2 _ _ HQ.out.2.1.l).mono ?_
  rintro e w0 ⟨rfl, hw0⟩
  rw [hw0]
  clear hw0 w0
  cases m3
  case false =>
    go_wp2
    go_ret
    exact ⟨rfl, HQ.out.2.2⟩
  case true =>
    go_wp2
    go_ret
    exact ⟨rfl, HQ.out.2.2⟩

set_option maxRecDepth 100000 in
set_option maxHeartbeats 2000000 in
theorem rssame_any (b_s u_s x_s y_s : Value) (s : StoreL) (b_t u_t x_t y_t : Value) (t : StoreL) (w : World) (h_s : StoreV w 0 w.heap.size b_s u_s x_s y_s s) (h_t : StoreV w 0 w.heap.size b_t u_t x_t y_t t) :
    Calls Try.prog 32 #[.agg #[b_s, u_s, x_s, y_s], .agg #[b_t, u_t, x_t, y_t]] w fun e w' => e = .returned (.bool (decide (s = t))) ∧ Below w.heap.size w w' := by
  obtain ⟨ab_s, cb_s, rfl, gb_s, gc_s, -, -⟩ := h_s.1.1
  obtain ⟨au_s, cu_s, rfl, gu_s, gv_s, -, -⟩ := h_s.1.2
  obtain ⟨ax_s, cx_s, rfl, gx_s, gz_s⟩ := h_s.2.1.form rfl
  obtain ⟨ay_s, cy_s, rfl, gy_s, gw_s⟩ := h_s.2.2.form rfl
  unfold maxLen at gc_s gv_s gz_s gw_s
  obtain ⟨ab_t, cb_t, rfl, gb_t, gc_t, -, -⟩ := h_t.1.1
  obtain ⟨au_t, cu_t, rfl, gu_t, gv_t, -, -⟩ := h_t.1.2
  obtain ⟨ax_t, cx_t, rfl, gx_t, gz_t⟩ := h_t.2.1.form rfl
  obtain ⟨ay_t, cy_t, rfl, gy_t, gw_t⟩ := h_t.2.2.form rfl
  unfold maxLen at gc_t gv_t gz_t gw_t
  have hst := (((Below.refl w.heap.size w).alloc (Nat.le_refl _) (.cells #[.slice ab_s s.disk.blocks.length cb_s, .slice au_s s.disk.waits.length cu_s, .slice ax_s s.now.length cx_s, .slice ay_s s.last.length cy_s] 46)).alloc (by simp) (.cells #[.slice ab_t t.disk.blocks.length cb_t, .slice au_t t.disk.waits.length cu_t, .slice ax_t t.now.length cx_t, .slice ay_t t.last.length cy_t] 46))
  have hq := two_new w (.cells #[.slice ab_s s.disk.blocks.length cb_s, .slice au_s s.disk.waits.length cu_s, .slice ax_s s.now.length cx_s, .slice ay_s s.last.length cy_s] 46) (.cells #[.slice ab_t t.disk.blocks.length cb_t, .slice au_t t.disk.waits.length cu_t, .slice ax_t t.now.length cx_t, .slice ay_t t.last.length cy_t] 46)
  have q_s := LK.of hq.1
  have q_t := LK.of hq.2
  have hB : LW w _ := hst
  have O_s := (LO.of h_s (Nat.le_refl _)).step hst
  have O_t := (LO.of h_t (Nat.le_refl _)).step hst
  have sz_V : w.heap.size + 1 < ((w.alloc (.cells #[.slice ab_s s.disk.blocks.length cb_s, .slice au_s s.disk.waits.length cu_s, .slice ax_s s.now.length cx_s, .slice ay_s s.last.length cy_s] 46)).alloc (.cells #[.slice ab_t t.disk.blocks.length cb_t, .slice au_t t.disk.waits.length cu_t, .slice ax_t t.now.length cx_t, .slice ay_t t.last.length cy_t] 46)).heap.size := by simp
  obtain ⟨V, hV⟩ : ∃ V, ((w.alloc (.cells #[.slice ab_s s.disk.blocks.length cb_s, .slice au_s s.disk.waits.length cu_s, .slice ax_s s.now.length cx_s, .slice ay_s s.last.length cy_s] 46)).alloc (.cells #[.slice ab_t t.disk.blocks.length cb_t, .slice au_t t.disk.waits.length cu_t, .slice ax_t t.now.length cx_t, .slice ay_t t.last.length cy_t] 46)) = V := ⟨_, rfl⟩
  rw [hV] at sz_V q_s q_t O_s O_t hB
  clear hst h_s h_t hq
  have HQ := Lib.hid (And.intro q_s (And.intro q_t (And.intro O_s (And.intro O_t hB))))
  clear q_s q_t O_s O_t hB
  have c_q_s0 := LK.cell HQ.out.1 0
  have c_q_s1 := LK.cell HQ.out.1 1
  have c_q_s2 := LK.cell HQ.out.1 2
  have c_q_s3 := LK.cell HQ.out.1 3
  have c_q_t0 := LK.cell HQ.out.2.1 0
  have c_q_t1 := LK.cell HQ.out.2.1 1
  have c_q_t2 := LK.cell HQ.out.2.1 2
  have c_q_t3 := LK.cell HQ.out.2.1 3
  simp at c_q_s0 c_q_s1 c_q_s2 c_q_s3 c_q_t0 c_q_t1 c_q_t2 c_q_t3
  have hq : decide (s = t) = (decide (s.disk = t.disk) && (decide (s.now = t.now) && decide (s.last = t.last))) := by
    cases s
    cases t
    simp [Bool.decide_and]
  rw [hq]
  clear hq
  have k_d := fun V b u b2 u2 h1 h2 => rdsame_any b u b2 u2 s.disk t.disk V h1 h2
  generalize decide (s.disk = t.disk) = m1 at *
  have HC := Lib.hid (k_d)
  clear k_d
  go_enter Try.func32, Try.ntmps32
  go_upto_region 1 with (fail)
  clear hV
  go_wp2_with fail
  refine (HC.out _ _ _ _ _ HQ.out.2.2.1.d HQ.out.2.2.2.1.d).mono ?_
  rintro e w1 ⟨rfl, hst⟩
  clear c_q_s0 c_q_s1 c_q_s2 c_q_s3 c_q_t0 c_q_t1 c_q_t2 c_q_t3
  obtain ⟨q_s, q_t, O_s, O_t, hB⟩ := HQ.out
  clear HQ
  have sz_w1 : V.heap.size ≤ w1.heap.size := hst.size
  replace q_s := q_s.step hst
  replace q_t := q_t.step hst
  replace O_s := O_s.step hst
  replace O_t := O_t.step hst
  replace hB := hB.step hst
  clear hst
  have HQ := Lib.hid (And.intro q_s (And.intro q_t (And.intro O_s (And.intro O_t hB))))
  clear q_s q_t O_s O_t hB
  have c_q_s0 := LK.cell HQ.out.1 0
  have c_q_s1 := LK.cell HQ.out.1 1
  have c_q_s2 := LK.cell HQ.out.1 2
  have c_q_s3 := LK.cell HQ.out.1 3
  have c_q_t0 := LK.cell HQ.out.2.1 0
  have c_q_t1 := LK.cell HQ.out.2.1 1
  have c_q_t2 := LK.cell HQ.out.2.1 2
  have c_q_t3 := LK.cell HQ.out.2.1 3
  simp at c_q_s0 c_q_s1 c_q_s2 c_q_s3 c_q_t0 c_q_t1 c_q_t2 c_q_t3
  cases m1
  case false =>
    go_wp2
    go_ret
    exact ⟨rfl, HQ.out.2.2.2.2⟩
  have t1 := cv_of HQ.out.2.2.1.n
  have t2 := cv_of HQ.out.2.2.2.1.n
  have t3 := cv_of HQ.out.2.2.1.l
  have t4 := cv_of HQ.out.2.2.2.1.l
  by_cases h1 : s.now = t.now
  case neg =>
    have i1 : (s.now == t.now) = false := by simp [h1]
    go_wp2
    go_ret
    exact ⟨by simp [h1], HQ.out.2.2.2.2⟩
  by_cases h2 : s.last = t.last
  case neg =>
    have i1 : (s.now == t.now) = true := by simp [h1]
    have i2 : (s.last == t.last) = false := by simp [h2]
    have HH := Lib.hid h1
    clear h1
    go_wp2
    go_ret
    exact ⟨by simp [h2], HQ.out.2.2.2.2⟩
  have i1 : (s.now == t.now) = true := by simp [h1]
  have i2 : (s.last == t.last) = true := by simp [h2]
  have HH := Lib.hid (And.intro h1 h2)
  clear h1 h2
  go_wp2
  go_ret
  exact ⟨by simp [HH.out.1, HH.out.2], HQ.out.2.2.2.2⟩

set_option maxRecDepth 100000 in
set_option maxHeartbeats 1000000 in
theorem rstwin_any (b_s u_s x_s y_s : Value) (s : StoreL) (w : World) (h_s : StoreV w 0 w.heap.size b_s u_s x_s y_s s) (hf : FewS s) :
    Calls Try.prog 26 #[.agg #[b_s, u_s, x_s, y_s]] w fun e w' => ∃ b u x y, e = .returned (.agg #[b, u, x, y]) ∧ StoreV w' w.heap.size w'.heap.size b u x y s ∧ Below w.heap.size w w' := by
  obtain ⟨ab_s, cb_s, rfl, gb_s, gc_s, -, -⟩ := h_s.1.1
  obtain ⟨au_s, cu_s, rfl, gu_s, gv_s, -, -⟩ := h_s.1.2
  obtain ⟨ax_s, cx_s, rfl, gx_s, gz_s⟩ := h_s.2.1.form rfl
  obtain ⟨ay_s, cy_s, rfl, gy_s, gw_s⟩ := h_s.2.2.form rfl
  unfold maxLen at gc_s gv_s gz_s gw_s
  have hst := (((Below.refl w.heap.size w).alloc (Nat.le_refl _) (.cells #[.slice ab_s s.disk.blocks.length cb_s, .slice au_s s.disk.waits.length cu_s, .slice ax_s s.now.length cx_s, .slice ay_s s.last.length cy_s] 46)).alloc (by simp) (.cells #[.slice none 0 0, .slice none 0 0, .slice none 0 0, .slice none 0 0] 46))
  have hq := two_new w (.cells #[.slice ab_s s.disk.blocks.length cb_s, .slice au_s s.disk.waits.length cu_s, .slice ax_s s.now.length cx_s, .slice ay_s s.last.length cy_s] 46) (.cells #[.slice none 0 0, .slice none 0 0, .slice none 0 0, .slice none 0 0] 46)
  have q_s := LK.of hq.1
  have q_r := LK.of hq.2
  have hB : LW w _ := hst
  have O_s := (LO.of h_s (Nat.le_refl _)).step hst
  have sz_V : w.heap.size + 1 < ((w.alloc (.cells #[.slice ab_s s.disk.blocks.length cb_s, .slice au_s s.disk.waits.length cu_s, .slice ax_s s.now.length cx_s, .slice ay_s s.last.length cy_s] 46)).alloc (.cells #[.slice none 0 0, .slice none 0 0, .slice none 0 0, .slice none 0 0] 46)).heap.size := by simp
  obtain ⟨V, hV⟩ : ∃ V, ((w.alloc (.cells #[.slice ab_s s.disk.blocks.length cb_s, .slice au_s s.disk.waits.length cu_s, .slice ax_s s.now.length cx_s, .slice ay_s s.last.length cy_s] 46)).alloc (.cells #[.slice none 0 0, .slice none 0 0, .slice none 0 0, .slice none 0 0] 46)) = V := ⟨_, rfl⟩
  rw [hV] at sz_V q_s q_r O_s hB
  clear hst h_s hq
  have HQ := Lib.hid (And.intro q_s (And.intro q_r (And.intro O_s hB)))
  clear q_s q_r O_s hB
  have c_q_s0 := LK.cell HQ.out.1 0
  have c_q_s1 := LK.cell HQ.out.1 1
  have c_q_s2 := LK.cell HQ.out.1 2
  have c_q_s3 := LK.cell HQ.out.1 3
  have c_q_r0 := LK.cell HQ.out.2.1 0
  have c_q_r1 := LK.cell HQ.out.2.1 1
  have c_q_r2 := LK.cell HQ.out.2.1 2
  have c_q_r3 := LK.cell HQ.out.2.1 3
  simp at c_q_s0 c_q_s1 c_q_s2 c_q_s3 c_q_r0 c_q_r1 c_q_r2 c_q_r3
  obtain ⟨f1, f2, f3, f4, f5⟩ := hf
  have k_d := fun V b u hh => rdtwin_new b u s.disk V hh f1 f2 f3
  clear f1 f2 f3
  have HC := Lib.hid (k_d)
  clear k_d
  go_enter Try.func26, Try.ntmps26
  go_upto_region 1 with (fail)
  clear hV
  clear c_q_s0 c_q_s1 c_q_s2 c_q_s3 c_q_r0 c_q_r1 c_q_r2 c_q_r3
  obtain ⟨Pr, hPr⟩ : ∃ Pr : World → Prop, ∀ X, Pr X ↔ Below V.heap.size V X := ⟨_, fun _ => Iff.rfl⟩
  have hp0 : Pr V.drew := (hPr _).2 (Below.refl _ V).drew
  have x0 := fun X => LK.cell (HQ.out.1.step ((hPr _).1 (selW_pr hp0 X))) 0
  have x1 := fun X => LK.cell (HQ.out.1.step ((hPr _).1 (selW_pr hp0 X))) 1
  have x2 := fun X => LK.cell (HQ.out.1.step ((hPr _).1 (selW_pr hp0 X))) 2
  have x3 := fun X => LK.cell (HQ.out.1.step ((hPr _).1 (selW_pr hp0 X))) 3
  simp at x0 x1 x2 x3
  refine wp_region_L (S := Kl Pr V.drew) 10 (by kernel_rfl) (Kl.of hp0) (fun hCl => ?_)
  refine wpAnyL_seg (fuel := 5) (by kernel_rfl) (fun _ d _ _ _ h => by cases d <;> exact h) hCl [0, 1, 3, 4, 6, 7] _ _ _ (by kernel_rfl) (by kernel_rfl) (by kernel_rfl) (by kernel_rfl) ?_
  simp only [opsOf_cons, opsOf_nil, consOp_some, List.getElem?_toArray, List.getElem?_cons_succ, List.getElem?_cons_zero]
  repeat (first | go_big_quiet_step (fail) | quiet_step (fail))
  refine wpQuiet_nil ?_
  refine wpAnyL_each (fuel := 4) [2] (by kernel_rfl) (by simp) (by kernel_rfl) ?_
  refine EachL.cons _ rfl (fun K' hK => ?_) EachL.nil
  go_simp
  refine (HC.out _ _ _ (HQ.out.2.2.1.step (Below.refl _ V).drew).d).mono ?_
  rintro e z1 ⟨b1, u1, rfl, hm1, hb1⟩
  obtain ⟨ab_r, cb_r, rfl, -, -, -, -⟩ := id hm1.1
  obtain ⟨au_r, cu_r, rfl, -, -, -, -⟩ := id hm1.2
  have hst1 : Below V.heap.size V z1 := (Below.refl _ V).drew.trans hb1
  have hst := (hPr _).2 hst1
  have sz1 := hb1.size
  have sz0 := hst1.size
  have HM1 := Lib.hid (And.intro hm1 (And.intro hst1 hb1))
  clear hm1 hst1 hb1
  have hCl : Kl Pr V.drew _ := Kl.of hst
  refine hK.out (.inr hCl) ?_
  clear hK K'
  refine wpAnyL_each (fuel := 3) [5] (by kernel_rfl) (by simp) (by kernel_rfl) ?_
  refine EachL.cons _ rfl (fun K' hK => ?_) EachL.nil
  refine if_yes (by kernel_rfl) ?_
  refine wp_appB (.const (.slice none 0 0)) (.tmp 7) 26 rfl 5 Try.underlying26 info_u8 z1.heap.size (.slice none 0 0) [] rfl (OwnB.nil_ _ _ _) 0 z1.heap.size _ s.now rfl (HQ.out.2.2.1.step HM1.out.2.1).n (by show 0 + s.now.length ≤ _; omega) (Nat.le_refl _) ?_
  intro v2 z2 hown hB _hf
  rw [List.nil_append] at hown
  have hm := OwnB.made hown hB
  obtain ⟨ax_r, cx_r, rfl, -, -⟩ := hm.bytes.form rfl
  have hst2 := below_step HM1.out.2.1 HM1.out.2.1.size hB
  have hst := (hPr _).2 hst2
  have sz2 := hB.size
  have HM2 := Lib.hid (And.intro hm.bytes (And.intro hst2 hB))
  clear hm hst2 hB hown _hf
  have hCl : Kl Pr V.drew _ := Kl.of hst
  refine hK.out (.inr hCl) ?_
  clear hK K'
  refine wpAnyL_each (fuel := 2) [8] (by kernel_rfl) (by simp) (by kernel_rfl) ?_
  refine EachL.cons _ rfl (fun K' hK => ?_) EachL.nil
  refine if_yes (by kernel_rfl) ?_
  refine wp_appB (.const (.slice none 0 0)) (.tmp 10) 26 rfl 5 Try.underlying26 info_u8 z2.heap.size (.slice none 0 0) [] rfl (OwnB.nil_ _ _ _) 0 z2.heap.size _ s.last rfl (HQ.out.2.2.1.step HM2.out.2.1).l (by show 0 + s.last.length ≤ _; omega) (Nat.le_refl _) ?_
  intro v3 z3 hown hB _hf
  rw [List.nil_append] at hown
  have hm := OwnB.made hown hB
  obtain ⟨ay_r, cy_r, rfl, -, -⟩ := hm.bytes.form rfl
  have hst3 := below_step HM2.out.2.1 HM2.out.2.1.size hB
  have hst := (hPr _).2 hst3
  have sz3 := hB.size
  have HM3 := Lib.hid (And.intro hm.bytes (And.intro hst3 hB))
  clear hm hst3 hB hown _hf
  have hCl : Kl Pr V.drew _ := Kl.of hst
  refine hK.out (.inr hCl) ?_
  clear hK K'
  refine wpAnyL_each (fuel := 1) [9] (by kernel_rfl) (by simp) (by kernel_rfl) ?_
  refine EachL.cons _ rfl (fun K' hK => ?_) EachL.nil
  go_simp
  have hst := (hPr _).2 HM3.out.2.1
  have r0 := LK.cell (HQ.out.2.1.step HM3.out.2.1) 0
  have r1 := LK.cell (HQ.out.2.1.step HM3.out.2.1) 1
  have r2 := LK.cell (HQ.out.2.1.step HM3.out.2.1) 2
  have r3 := LK.cell (HQ.out.2.1.step HM3.out.2.1) 3
  simp at r0 r1 r2 r3
  have s0 := LK.frozen (HQ.out.2.1.step HM3.out.2.1) 0
  have s1 := LK.frozen (HQ.out.2.1.step HM3.out.2.1) 1
  have s2 := LK.frozen (HQ.out.2.1.step HM3.out.2.1) 2
  have s3 := LK.frozen (HQ.out.2.1.step HM3.out.2.1) 3
  have hCl : Kl Pr V.drew _ := Kl.of hst
  refine hK.out (.inr hCl) ?_
  clear hK K'
  refine wpAnyL_each (fuel := 0) [10] (by kernel_rfl) (by simp) (by kernel_rfl) ?_
  refine EachL.cons _ rfl (fun K' hK => ?_) EachL.nil
  go_simp
  refine hK.out (.inl rfl) ?_
  clear hK K'
  refine wpAnyL_done (by kernel_rfl) ?_ _
  clear x0 x1 x2 x3
  go_wp2
  refine bodyPost_ret (v := .agg #[.slice ab_r s.disk.blocks.length cb_r, .slice au_r s.disk.waits.length cu_r, .slice ax_r s.now.length cx_r, .slice ay_r s.last.length cy_r]) (by simp [results, Try.results26, go_sem, r0, r1, r2, r3]) rfl ⟨_, _, _, _, rfl, ?_⟩
  have gV : w.heap.size + 1 < V.heap.size := sz_V
  have hd1 := Sl.below HM1.out.1.1 (HM2.out.2.2.trans (HM3.out.2.2.mono sz2)) (Nat.le_refl _)
  have hd2 := Sl.below HM1.out.1.2 (HM2.out.2.2.trans (HM3.out.2.2.mono sz2)) (Nat.le_refl _)
  have hn := HM2.out.1.below HM3.out.2.2 (Nat.le_refl _)
  have hdl : V.drew.heap.size = V.heap.size := rfl
  have hs : StoreV z3 (w.heap.size + 2) z3.heap.size (.slice ab_r s.disk.blocks.length cb_r) (.slice au_r s.disk.waits.length cu_r) (.slice ax_r s.now.length cx_r) (.slice ay_r s.last.length cy_r) s := ⟨⟨hd1.more (by omega) (by omega), hd2.more (by omega) (by omega)⟩, hn.more (by omega) (by omega), HM3.out.1.more (by omega) (Nat.le_refl _)⟩
  have hsz : ∀ a b c d : Value, ((((z3.setCell ⟨w.heap.size + 1, 0, none⟩ a).setCell ⟨w.heap.size + 1, 1, none⟩ b).setCell ⟨w.heap.size + 1, 2, none⟩ c).setCell ⟨w.heap.size + 1, 3, none⟩ d).heap.size = z3.heap.size := fun a b c d => by simp only [World.size_setCell]
  refine ⟨(hs.keep (kp_four z3 _ _ _ _ (.inl (Nat.lt_succ_self _)))).more (by omega) (by rw [hsz]; exact Nat.le_refl _), ?_⟩
  exact Below.trans (LW.step HQ.out.2.2.2 HM3.out.2.1) (below_four z3 _ _ _ _ (Nat.le_succ _))

/-- A block that is referred to holds a node. -/
def isR (s : StoreL) (p : Int) : Bool := decide (8 ≤ p ∧ p < 256 ∧ errBn s p.toNat = 0)
def rdR (s : StoreL) (p : Int) : NodeL := if isR s p then nodeB s p.toNat else ⟨0, []⟩
theorem isR_nat {s : StoreL} {q : Nat} (h8 : 8 ≤ q) (h9 : q < 256) (h0 : s.now.getD q 0 ≠ 0) : isR s (q : Int) = decide (errNd (seenD s.disk q) = 0) ∧ rdR s (q : Int) = readNd (seenD s.disk q) := by
  have h1 : errBn s q = if errNd (seenD s.disk q) = 0 then 0 else 8 := by unfold errBn; rw [if_neg h0]
  have h2 : isR s (q : Int) = decide (errNd (seenD s.disk q) = 0) := by
    unfold isR
    rw [Int.toNat_natCast, h1]
    by_cases he : errNd (seenD s.disk q) = 0
    · rw [if_pos he, decide_eq_true he, decide_eq_true_eq]; omega
    · rw [if_neg he, decide_eq_false he, decide_eq_false_iff_not]; omega
  refine ⟨h2, ?_⟩
  unfold rdR
  rw [h2, Int.toNat_natCast]
  by_cases he : errNd (seenD s.disk q) = 0
  · rw [decide_eq_true he, if_pos rfl]
    unfold nodeB
    rw [h1, if_pos he, if_pos rfl]
  · rw [decide_eq_false he, if_neg (by simp)]
    unfold readNd
    rw [if_neg he]
theorem isR_no {s : StoreL} {p : Int} (h : p < 8 ∨ 256 ≤ p ∨ s.now.getD p.toNat 0 = 0) : isR s p = false ∧ rdR s p = ⟨0, []⟩ := by
  have h1 : isR s p = false := by
    unfold isR
    rw [decide_eq_false_iff_not]
    rintro ⟨h1, h2, h3⟩
    unfold errBn at h3
    rcases h with h | h | h
    · omega
    · omega
    · rw [if_pos h] at h3; cases h3
  exact ⟨h1, by unfold rdR; rw [h1]; rfl⟩

set_option maxRecDepth 100000 in
set_option maxHeartbeats 2000000 in
theorem rsread_any (b_s u_s x_s y_s : Value) (s : StoreL) (p : Int) (w : World) (h_s : StoreV w 0 w.heap.size b_s u_s x_s y_s s) (hm : mayS s = true) :
    Calls Try.prog 117 #[.agg #[b_s, u_s, x_s, y_s], .int .i64 p] w fun e w' => ∃ v, e = .returned (.tuple #[.agg #[.int .i64 (rdR s p).level, v], .bool (isR s p)]) ∧ Sl rItem w' w.heap.size w'.heap.size v (rdR s p).items ∧ Below w.heap.size w w' := by
  obtain ⟨ab_s, cb_s, rfl, gb_s, gc_s, -, -⟩ := h_s.1.1
  obtain ⟨au_s, cu_s, rfl, gu_s, gv_s, -, -⟩ := h_s.1.2
  obtain ⟨ax_s, cx_s, rfl, gx_s, gz_s⟩ := h_s.2.1.form rfl
  obtain ⟨ay_s, cy_s, rfl, gy_s, gw_s⟩ := h_s.2.2.form rfl
  unfold maxLen at gc_s gv_s gz_s gw_s
  have hst := (((Below.refl w.heap.size w).alloc (Nat.le_refl _) (.cells #[.slice ab_s s.disk.blocks.length cb_s, .slice au_s s.disk.waits.length cu_s, .slice ax_s s.now.length cx_s, .slice ay_s s.last.length cy_s] 46)).alloc (by simp) (.cells #[.int .i64 0, .slice none 0 0] 119))
  have hq := two_new w (.cells #[.slice ab_s s.disk.blocks.length cb_s, .slice au_s s.disk.waits.length cu_s, .slice ax_s s.now.length cx_s, .slice ay_s s.last.length cy_s] 46) (.cells #[.int .i64 0, .slice none 0 0] 119)
  have q_s := LK.of hq.1
  have q_r := LK.of hq.2
  have hB : LW w _ := hst
  have O_s := (LO.of h_s (Nat.le_refl _)).step hst
  have sz_V : w.heap.size + 1 < ((w.alloc (.cells #[.slice ab_s s.disk.blocks.length cb_s, .slice au_s s.disk.waits.length cu_s, .slice ax_s s.now.length cx_s, .slice ay_s s.last.length cy_s] 46)).alloc (.cells #[.int .i64 0, .slice none 0 0] 119)).heap.size := by simp
  obtain ⟨V, hV⟩ : ∃ V, ((w.alloc (.cells #[.slice ab_s s.disk.blocks.length cb_s, .slice au_s s.disk.waits.length cu_s, .slice ax_s s.now.length cx_s, .slice ay_s s.last.length cy_s] 46)).alloc (.cells #[.int .i64 0, .slice none 0 0] 119)) = V := ⟨_, rfl⟩
  rw [hV] at sz_V q_s q_r O_s hB
  clear hst h_s hq
  have HQ := Lib.hid (And.intro q_s (And.intro q_r (And.intro O_s hB)))
  clear q_s q_r O_s hB
  have c_q_s0 := LK.cell HQ.out.1 0
  have c_q_s1 := LK.cell HQ.out.1 1
  have c_q_s2 := LK.cell HQ.out.1 2
  have c_q_s3 := LK.cell HQ.out.1 3
  have c_q_r0 := LK.cell HQ.out.2.1 0
  have c_q_r1 := LK.cell HQ.out.2.1 1
  simp at c_q_s0 c_q_s1 c_q_s2 c_q_s3 c_q_r0 c_q_r1
  obtain ⟨hmd, hmt, -⟩ := mayS_iff.1 hm
  have hbl := (may_len hmd).1
  have htl : s.now.length = 256 := by unfold mayT at hmt; rw [Bool.and_eq_true, beq_iff_eq] at hmt; exact hmt.1
  have hno := isR_no (s := s) (p := p)
  have hyes := fun (q : Nat) (h : p = q) h8 h9 h0 => h ▸ isR_nat (s := s) (q := q) h8 h9 h0
  have k_s := fun (q : Nat) V b u hh hq => rseen_any b u s.disk q V hh hq
  have k_r := fun l v V hh => rnread_any v l V hh
  generalize isR s p = ir at *
  generalize rdR s p = N at *
  have HN := Lib.hid (And.intro hno (And.intro hyes (And.intro hbl htl)))
  clear hno hyes hbl htl hmd hmt hm
  have HC := Lib.hid (And.intro k_s k_r)
  clear k_s k_r
  go_enter Try.func117, Try.ntmps117
  go_upto_region 1 with (fail)
  clear hV
  by_cases h8 : p < 8
  case pos =>
    obtain ⟨rfl, rfl⟩ := HN.out.1 (.inl h8)
    clear c_q_s0 c_q_s1 c_q_s2 c_q_s3 c_q_r0 c_q_r1
    have c_q_s0 := LK.cell HQ.out.1 0
    have c_q_s1 := LK.cell HQ.out.1 1
    have c_q_s2 := LK.cell HQ.out.1 2
    have c_q_s3 := LK.cell HQ.out.1 3
    have c_q_r0 := LK.cell HQ.out.2.1 0
    have c_q_r1 := LK.cell HQ.out.2.1 1
    have z_q_r0 := LK.frozen HQ.out.2.1 0
    have z_q_r1 := LK.frozen HQ.out.2.1 1
    simp at c_q_s0 c_q_s1 c_q_s2 c_q_s3 c_q_r0 c_q_r1
    have hBf := HQ.out.2.2.2
    go_wp2
    refine bodyPost_ret (v := .tuple #[.agg #[.int .i64 0, .slice none 0 0], .bool false]) (by simp [results, Try.results117, go_sem, c_q_r0, c_q_r1]) rfl ⟨_, rfl, Sl.nil_ _ _ _, ?_⟩
    exact (Below.setCell hBf (p := ⟨w.heap.size + 1, 0, none⟩) (Nat.le_succ _) _).setCell (p := ⟨w.heap.size + 1, 1, none⟩) (Nat.le_succ _) _
  by_cases h9 : 256 ≤ p
  case pos =>
    obtain ⟨rfl, rfl⟩ := HN.out.1 (.inr (.inl h9))
    clear c_q_s0 c_q_s1 c_q_s2 c_q_s3 c_q_r0 c_q_r1
    have c_q_s0 := LK.cell HQ.out.1 0
    have c_q_s1 := LK.cell HQ.out.1 1
    have c_q_s2 := LK.cell HQ.out.1 2
    have c_q_s3 := LK.cell HQ.out.1 3
    have c_q_r0 := LK.cell HQ.out.2.1 0
    have c_q_r1 := LK.cell HQ.out.2.1 1
    have z_q_r0 := LK.frozen HQ.out.2.1 0
    have z_q_r1 := LK.frozen HQ.out.2.1 1
    simp at c_q_s0 c_q_s1 c_q_s2 c_q_s3 c_q_r0 c_q_r1
    have hBf := HQ.out.2.2.2
    go_wp2
    refine bodyPost_ret (v := .tuple #[.agg #[.int .i64 0, .slice none 0 0], .bool false]) (by simp [results, Try.results117, go_sem, c_q_r0, c_q_r1]) rfl ⟨_, rfl, Sl.nil_ _ _ _, ?_⟩
    exact (Below.setCell hBf (p := ⟨w.heap.size + 1, 0, none⟩) (Nat.le_succ _) _).setCell (p := ⟨w.heap.size + 1, 1, none⟩) (Nat.le_succ _) _
  obtain ⟨q, rfl⟩ : ∃ q : Nat, p = q := ⟨p.toNat, by omega⟩
  obtain ⟨bn, on_, cn, e1, -, zn, zn1, zn2, hcn⟩ := HQ.out.2.2.1.n.at_n HN.out.2.2.2 (by omega)
  injection e1 with e1 e3 e2
  subst e1 e2
  have cq := hcn q (s.now.getD q 0) (get_l _ _ _ (by have := HN.out.2.2.2; omega))
  unfold maxLen at zn2
  have htl2 : ((s.now.length : Nat) : Int) = 256 := by have := HN.out.2.2.2; omega
  simp only [bV] at cq
  have hz := HN.out.1
  have hy := HN.out.2.1 q rfl (by omega) (by omega)
  rw [Int.toNat_natCast] at hz
  obtain ⟨x, hx⟩ : ∃ x, s.now.getD q 0 = x := ⟨_, rfl⟩
  rw [hx] at cq hz hy
  have HZ := Lib.hid (And.intro hz hy)
  clear hz hy hcn hx
  have iq : ¬ (s.now.length : Int) ≤ (q : Int) := by have := HN.out.2.2.2; omega
  have iq2 : (q : Int) < s.now.length := by have := HN.out.2.2.2; omega
  by_cases hx0 : x = 0
  case pos =>
    subst hx0
    obtain ⟨rfl, rfl⟩ := HZ.out.1 (.inr (.inr rfl))
    clear c_q_s0 c_q_s1 c_q_s2 c_q_s3 c_q_r0 c_q_r1
    have c_q_s0 := LK.cell HQ.out.1 0
    have c_q_s1 := LK.cell HQ.out.1 1
    have c_q_s2 := LK.cell HQ.out.1 2
    have c_q_s3 := LK.cell HQ.out.1 3
    have c_q_r0 := LK.cell HQ.out.2.1 0
    have c_q_r1 := LK.cell HQ.out.2.1 1
    have z_q_r0 := LK.frozen HQ.out.2.1 0
    have z_q_r1 := LK.frozen HQ.out.2.1 1
    simp at c_q_s0 c_q_s1 c_q_s2 c_q_s3 c_q_r0 c_q_r1
    have hBf := HQ.out.2.2.2
    go_wp2
    refine bodyPost_ret (v := .tuple #[.agg #[.int .i64 0, .slice none 0 0], .bool false]) (by simp [results, Try.results117, go_sem, c_q_r0, c_q_r1]) rfl ⟨_, rfl, Sl.nil_ _ _ _, ?_⟩
    exact (Below.setCell hBf (p := ⟨w.heap.size + 1, 0, none⟩) (Nat.le_succ _) _).setCell (p := ⟨w.heap.size + 1, 1, none⟩) (Nat.le_succ _) _
  have ix : ((x.toNat : Int) == 0) = false := by
    rw [beq_eq_false_iff_ne]
    intro e
    exact hx0 (UInt8.toNat_inj.1 (by simpa using e))
  obtain ⟨hi, hN⟩ := HZ.out.2 hx0
  subst hi hN
  clear HZ hx0
  go_wp2_with fail
  refine (HC.out.1 q _ _ _ HQ.out.2.2.1.d (by have := HN.out.2.2.1; omega)).mono ?_
  rintro e w1 ⟨vb, rfl, hb, hst⟩
  clear c_q_s0 c_q_s1 c_q_s2 c_q_s3 c_q_r0 c_q_r1
  obtain ⟨q_s, q_r, O_s, hB⟩ := HQ.out
  clear HQ
  have B_b := LB.of hb (Nat.le_refl _)
  obtain ⟨ao, co, rfl, -, -⟩ := hb.form rfl
  clear hb
  have sz_w1 : V.heap.size ≤ w1.heap.size := hst.size
  replace q_s := q_s.step hst
  replace q_r := q_r.step hst
  replace O_s := O_s.step hst
  replace hB := hB.step hst
  clear hst
  have HQ := Lib.hid (And.intro q_s (And.intro q_r (And.intro O_s (And.intro B_b hB))))
  clear q_s q_r O_s B_b hB
  have c_q_s0 := LK.cell HQ.out.1 0
  have c_q_s1 := LK.cell HQ.out.1 1
  have c_q_s2 := LK.cell HQ.out.1 2
  have c_q_s3 := LK.cell HQ.out.1 3
  have c_q_r0 := LK.cell HQ.out.2.1 0
  have c_q_r1 := LK.cell HQ.out.2.1 1
  simp at c_q_s0 c_q_s1 c_q_s2 c_q_s3 c_q_r0 c_q_r1
  have kr := HC.out.2 (seenD s.disk q) _ _ HQ.out.2.2.2.1.v
  obtain ⟨M, hM⟩ : ∃ M, readNd (seenD s.disk q) = M := ⟨_, rfl⟩
  obtain ⟨en, hen⟩ : ∃ M, errNd (seenD s.disk q) = M := ⟨_, rfl⟩
  rw [hM, hen] at kr
  have KR := Lib.hid kr
  have HME := Lib.hid (And.intro hM hen)
  clear kr hM hen
  go_wp2_with fail
  refine (KR.out).mono ?_
  rintro e w2 ⟨vn, rfl, hm, hst⟩
  clear c_q_s0 c_q_s1 c_q_s2 c_q_s3 c_q_r0 c_q_r1
  obtain ⟨q_s, q_r, O_s, B_b, hB⟩ := HQ.out
  clear HQ
  have S_n := LS.of hm (Nat.le_refl _)
  obtain ⟨an, cn2, rfl, -, -, -, -⟩ := id hm
  clear hm
  have sz_w2 : w1.heap.size ≤ w2.heap.size := hst.size
  replace q_s := q_s.step hst
  replace q_r := q_r.step hst
  replace O_s := O_s.step hst
  replace B_b := B_b.step hst
  replace hB := hB.step hst
  clear hst
  have HQ := Lib.hid (And.intro q_s (And.intro q_r (And.intro O_s (And.intro B_b (And.intro S_n hB)))))
  clear q_s q_r O_s B_b S_n hB
  have c_q_s0 := LK.cell HQ.out.1 0
  have c_q_s1 := LK.cell HQ.out.1 1
  have c_q_s2 := LK.cell HQ.out.1 2
  have c_q_s3 := LK.cell HQ.out.1 3
  have c_q_r0 := LK.cell HQ.out.2.1 0
  have c_q_r1 := LK.cell HQ.out.2.1 1
  simp at c_q_s0 c_q_s1 c_q_s2 c_q_s3 c_q_r0 c_q_r1
  go_upto_region 4 with (fail)
  clear c_q_s0 c_q_s1 c_q_s2 c_q_s3 c_q_r0 c_q_r1
  obtain ⟨q_s, q_r, O_s, B_b, S_n, hB⟩ := HQ.out
  clear HQ
  have hst := (Below.refl w2.heap.size w2).alloc (Nat.le_refl _) (.cells #[.int .i64 M.level, .slice an M.items.length cn2] 119)
  have hlt : w2.heap.size < (w2.alloc (.cells #[.int .i64 M.level, .slice an M.items.length cn2] 119)).heap.size := by simp
  have q_n := LK.new w2 (.cells #[.int .i64 M.level, .slice an M.items.length cn2] 119)
  replace q_s := q_s.step hst
  replace q_r := q_r.step hst
  replace O_s := O_s.step hst
  replace B_b := B_b.step hst
  replace S_n := S_n.step hst
  replace hB := hB.step hst
  obtain ⟨w3, hw⟩ : ∃ v, w2.alloc (.cells #[.int .i64 M.level, .slice an M.items.length cn2] 119) = v := ⟨_, rfl⟩
  rw [hw] at hlt q_n q_s q_r O_s B_b S_n hB ⊢
  clear hw hst
  have sz_w3 := hlt
  clear hlt
  have HQ := Lib.hid (And.intro q_s (And.intro q_r (And.intro O_s (And.intro B_b (And.intro S_n (And.intro q_n hB))))))
  clear q_s q_r O_s B_b S_n q_n hB
  have c_q_s0 := LK.cell HQ.out.1 0
  have c_q_s1 := LK.cell HQ.out.1 1
  have c_q_s2 := LK.cell HQ.out.1 2
  have c_q_s3 := LK.cell HQ.out.1 3
  have c_q_r0 := LK.cell HQ.out.2.1 0
  have c_q_r1 := LK.cell HQ.out.2.1 1
  have c_q_n0 := LK.cell HQ.out.2.2.2.2.2.1 0
  have c_q_n1 := LK.cell HQ.out.2.2.2.2.2.1 1
  simp at c_q_s0 c_q_s1 c_q_s2 c_q_s3 c_q_r0 c_q_r1 c_q_n0 c_q_n1
  clear c_q_s0 c_q_s1 c_q_s2 c_q_s3 c_q_r0 c_q_r1 c_q_n0 c_q_n1
  have c_q_r0 := LK.cell HQ.out.2.1 0
  have c_q_r1 := LK.cell HQ.out.2.1 1
  have z_q_r0 := LK.frozen HQ.out.2.1 0
  have z_q_r1 := LK.frozen HQ.out.2.1 1
  have c_q_n0 := LK.cell HQ.out.2.2.2.2.2.1 0
  have c_q_n1 := LK.cell HQ.out.2.2.2.2.2.1 1
  simp at c_q_r0 c_q_r1 c_q_n0 c_q_n1
  have hBf := HQ.out.2.2.2.2.2.2
  have hS := HQ.out.2.2.2.2.1
  by_cases he : en = 0
  case pos =>
    have ie : (en == 0) = true := by simp [he]
    have HE := Lib.hid he
    clear he
    go_wp2
    refine bodyPost_ret (v := .tuple #[.agg #[.int .i64 M.level, .slice an M.items.length cn2], .bool true]) (by simp [results, Try.results117, go_sem, c_q_r0, c_q_r1]) rfl ⟨_, by rw [HME.out.1, HME.out.2, decide_eq_true HE.out], ?_, (Below.setCell hBf (p := ⟨w.heap.size + 1, 0, none⟩) (Nat.le_succ _) _).setCell (p := ⟨w.heap.size + 1, 1, none⟩) (Nat.le_succ _) _⟩
    have hk2 : ∀ x, x ≠ w.heap.size + 1 → ((w3.setCell ⟨w.heap.size + 1, 0, none⟩ (.int .i64 M.level)).setCell ⟨w.heap.size + 1, 1, none⟩ (.slice an M.items.length cn2)).heap[x]? = w3.heap[x]? := fun x h => (set_other _ _ _ _ x h).trans (set_other w3 _ _ _ x h)
    have hsx : ((w3.setCell ⟨w.heap.size + 1, 0, none⟩ (.int .i64 M.level)).setCell ⟨w.heap.size + 1, 1, none⟩ (.slice an M.items.length cn2)).heap.size = w3.heap.size := by simp only [World.size_setCell]
    have hSo := Lv.get (hS.out (n0 := w.heap.size + 1) (h0 := w.heap.size + 2) (Nat.le_of_eq hsx.symm) (fun x _ h => hk2 x (by omega)) (by omega))
    rw [HME.out.1]
    exact hSo.more (by omega) (by rw [hsx]; omega)
  have ie : (en == 0) = false := by simp [he]
  have HE := Lib.hid he
  clear he
  go_wp2
  refine bodyPost_ret (v := .tuple #[.agg #[.int .i64 M.level, .slice an M.items.length cn2], .bool false]) (by simp [results, Try.results117, go_sem, c_q_r0, c_q_r1]) rfl ⟨_, by rw [HME.out.1, HME.out.2, decide_eq_false HE.out], ?_, (Below.setCell hBf (p := ⟨w.heap.size + 1, 0, none⟩) (Nat.le_succ _) _).setCell (p := ⟨w.heap.size + 1, 1, none⟩) (Nat.le_succ _) _⟩
  have hk2 : ∀ x, x ≠ w.heap.size + 1 → ((w3.setCell ⟨w.heap.size + 1, 0, none⟩ (.int .i64 M.level)).setCell ⟨w.heap.size + 1, 1, none⟩ (.slice an M.items.length cn2)).heap[x]? = w3.heap[x]? := fun x h => (set_other _ _ _ _ x h).trans (set_other w3 _ _ _ x h)
  have hsx : ((w3.setCell ⟨w.heap.size + 1, 0, none⟩ (.int .i64 M.level)).setCell ⟨w.heap.size + 1, 1, none⟩ (.slice an M.items.length cn2)).heap.size = w3.heap.size := by simp only [World.size_setCell]
  have hSo := Lv.get (hS.out (n0 := w.heap.size + 1) (h0 := w.heap.size + 2) (Nat.le_of_eq hsx.symm) (fun x _ h => hk2 x (by omega)) (by omega))
  rw [HME.out.1]
  exact hSo.more (by omega) (by rw [hsx]; omega)

end Go.Proofs.Ytcibihakjcenaaa

namespace Go.Proofs.Ytcibihakjcenaaa
open Go.RowKit

/-- A key lies above what came ahead. -/
def accOk (acc : Option (KeyL × KeyL)) (k : KeyL) : Bool := match acc with | none => true | some la => lessK la.2 k
/-- A node's items, gone through: the first key and the last one; none: it may not be in a tree. -/
def wkGo (f : ItemL → Option (KeyL × KeyL)) : Option (KeyL × KeyL) → List ItemL → Option (KeyL × KeyL)
  | acc, [] => acc
  | acc, x :: l => match f x with
    | none => none
    | some ab => if ab.1 = x.key ∧ accOk acc ab.1 = true then wkGo f (some ((acc.getD ab).1, ab.2)) l else none
/-- An item of a node of a level: the first key, and the last one, of what it refers to. -/
def oneW (s : StoreL) : Nat → ItemL → Option (KeyL × KeyL)
  | 0, x => if x.ref = 0 ∨ s.now.getD x.ref.toNat 0 ≠ 0 then some (x.key, x.key) else none
  | l + 1, x => if errBn s x.ref.toNat = 0 ∧ (nodeB s x.ref.toNat).level = (l : Int) ∧ (nodeB s x.ref.toNat).items ≠ [] then wkGo (oneW s l) none (nodeB s x.ref.toNat).items else none
/-- The items of the leaves below items of a level. -/
def allW (s : StoreL) : Nat → List ItemL → List ItemL
  | 0, its => its
  | l + 1, its => (its.map fun x => allW s l (nodeB s x.ref.toNat).items).flatten
/-- The item of a key. -/
def fndW (s : StoreL) : Nat → NodeL → KeyL → Option ItemL
  | 0, n, k => if isN n.items k then some (n.items.getD (cntN n.items k) nokI) else none
  | l + 1, n, k => if isN n.items k then fndW s l (nodeB s (n.items.getD (cntN n.items k) nokI).ref.toNat) k
    else if cntN n.items k = 0 then none else fndW s l (nodeB s (n.items.getD (cntN n.items k - 1) nokI).ref.toNat) k
def Ris (L : List ItemL) : Prop := L.Pairwise fun x y => lessK x.key y.key = true
/-- Items that rise, from a key up to another one. -/
structure From (L : List ItemL) (a b : KeyL) : Prop where
  ris : Ris L
  first : ∃ x r, L = x :: r ∧ x.key = a
  last : ∃ r x, L = r ++ [x] ∧ x.key = b
theorem From.lo {L : List ItemL} {a b : KeyL} (h : From L a b) : ∀ x ∈ L, x.key = a ∨ lessK a x.key = true := by
  obtain ⟨x, r, rfl, e⟩ := h.first
  intro y hy
  rcases List.mem_cons.1 hy with rfl | hy
  · exact .inl e
  · exact .inr (e ▸ (List.pairwise_cons.1 h.ris).1 y hy)
theorem From.hi {L : List ItemL} {a b : KeyL} (h : From L a b) : ∀ x ∈ L, x.key = b ∨ lessK x.key b = true := by
  obtain ⟨r, x, rfl, e⟩ := h.last
  intro y hy
  rcases List.mem_append.1 hy with hy | hy
  · exact .inr (e ▸ (List.pairwise_append.1 h.ris).2.2 y hy x (List.mem_singleton.2 rfl))
  · rw [List.mem_singleton.1 hy]; exact .inl e
theorem From.app {L M : List ItemL} {a b c d : KeyL} (h : From L a b) (k : From M c d) (hl : lessK b c = true) : From (L ++ M) a d := by
  refine ⟨List.pairwise_append.2 ⟨h.ris, k.ris, fun x hx y hy => ?_⟩, ?_, ?_⟩
  · have h1 : lessK x.key c = true := by
      rcases h.hi x hx with e | e
      · rw [e]; exact hl
      · exact lessK_trans e hl
    rcases k.lo y hy with e | e
    · rw [e]; exact h1
    · exact lessK_trans h1 e
  · obtain ⟨x, r, rfl, e⟩ := h.first
    exact ⟨x, r ++ M, rfl, e⟩
  · obtain ⟨r, x, rfl, e⟩ := k.last
    exact ⟨L ++ r, x, by rw [List.append_assoc], e⟩
/-- The parts of a node's items: each rises from its own key, and all behind one another. -/
theorem wkGo_is (f : ItemL → Option (KeyL × KeyL)) (g : ItemL → List ItemL) (hf : ∀ x a b, f x = some (a, b) → From (g x) a b) :
    ∀ (its : List ItemL) (acc : Option (KeyL × KeyL)) (P : List ItemL) (r : KeyL × KeyL), (∀ ab, acc = some ab → From P ab.1 ab.2) → (acc = none → P = []) → wkGo f acc its = some r →
      (P ++ (its.map g).flatten = [] ∨ From (P ++ (its.map g).flatten) r.1 r.2) ∧ ∀ x ∈ its, ∃ b, From (g x) x.key b
  | [], acc, P, r, h1, _, h => by
    rw [wkGo] at h
    refine ⟨.inr ?_, fun x hx => by cases hx⟩
    simpa using h1 r h
  | x :: l, acc, P, r, h1, h2, h => by
    rw [wkGo] at h
    cases hx : f x with
    | none => rw [hx] at h; cases h
    | some ab =>
      rw [hx] at h
      dsimp only at h
      by_cases hc : ab.1 = x.key ∧ accOk acc ab.1 = true
      case neg => rw [if_neg hc] at h; cases h
      rw [if_pos hc] at h
      have hg := hf x ab.1 ab.2 hx
      have hP : From (P ++ g x) (acc.getD ab).1 ab.2 := by
        cases acc with
        | none => rw [h2 rfl, List.nil_append]; exact hg
        | some la => exact (h1 la rfl).app hg hc.2
      obtain ⟨i1, i2⟩ := wkGo_is f g hf l _ (P ++ g x) r (fun ab' e => by cases e; exact hP) (fun e => by cases e) h
      rw [List.map_cons, List.flatten_cons, ← List.append_assoc]
      refine ⟨i1, fun y hy => ?_⟩
      rcases List.mem_cons.1 hy with rfl | hy
      · exact ⟨ab.2, hc.1 ▸ hg⟩
      · exact i2 y hy
theorem nodeB_may {s : StoreL} {p : Nat} (h : errBn s p = 0) : mayN (nodeB s p) = true := by
  unfold nodeB
  rw [if_pos h]
  unfold errBn at h
  split at h
  · cases h
  · split at h
    · rename_i h2; exact (back2 h2).1
    · cases h
/-- What an item of a node of a level refers to. -/
def partW (s : StoreL) : Nat → ItemL → List ItemL
  | 0, x => [x]
  | l + 1, x => allW s l (nodeB s x.ref.toNat).items
theorem allW_parts (s : StoreL) (l : Nat) (its : List ItemL) : allW s l its = (its.map (partW s l)).flatten := by
  cases l with
  | zero =>
    induction its with
    | nil => rfl
    | cons a L ih =>
      rw [List.map_cons, List.flatten_cons, ← ih]
      rfl
  | succ l => rfl
/-- What an item refers to rises. -/
theorem oneW_from (s : StoreL) : ∀ (l : Nat) (x : ItemL) (a b : KeyL), oneW s l x = some (a, b) → From (partW s l x) a b
  | 0, x, a, b, h => by
    rw [oneW] at h
    split at h
    · cases h
      exact ⟨List.pairwise_singleton _ _, ⟨x, [], rfl, rfl⟩, ⟨[], x, rfl, rfl⟩⟩
    · cases h
  | l + 1, x, a, b, h => by
    rw [oneW] at h
    by_cases hc : errBn s x.ref.toNat = 0 ∧ (nodeB s x.ref.toNat).level = (l : Int) ∧ (nodeB s x.ref.toNat).items ≠ []
    case neg => rw [if_neg hc] at h; cases h
    rw [if_pos hc] at h
    obtain ⟨i, i2⟩ := wkGo_is (oneW s l) (partW s l) (fun y c d hy => oneW_from s l y c d hy) _ none [] (a, b) (fun ab e => by cases e) (fun _ => rfl) h
    show From (allW s l (nodeB s x.ref.toNat).items) a b
    rw [allW_parts]
    rw [List.nil_append] at i
    rcases i with i | i
    · exfalso
      cases hi : (nodeB s x.ref.toNat).items with
      | nil => exact hc.2.2 hi
      | cons y r =>
        rw [hi] at i i2
        obtain ⟨c, hf⟩ := i2 y (List.mem_cons_self ..)
        obtain ⟨z, r2, hz, -⟩ := hf.first
        rw [List.map_cons, List.flatten_cons] at i
        have := (List.append_eq_nil_iff.1 i).1
        rw [hz] at this
        cases this
    · exact i
/-- Each item of a node above that may be in a tree refers to a node that may be in one. -/
theorem wkGo_each (f : ItemL → Option (KeyL × KeyL)) : ∀ (its : List ItemL) (acc : Option (KeyL × KeyL)) (r : KeyL × KeyL), wkGo f acc its = some r → ∀ x ∈ its, ∃ ab, f x = some ab
  | [], _, _, _, _, hx => by cases hx
  | y :: l, acc, r, h, x, hx => by
    rw [wkGo] at h
    cases hy : f y with
    | none => rw [hy] at h; cases h
    | some ab =>
      rw [hy] at h
      dsimp only at h
      by_cases hc : ab.1 = y.key ∧ accOk acc ab.1 = true
      case neg => rw [if_neg hc] at h; cases h
      rw [if_pos hc] at h
      rcases List.mem_cons.1 hx with rfl | hx
      · exact ⟨ab, hy⟩
      · exact wkGo_each f l _ r h x hx
theorem oneW_succ {s : StoreL} {l : Nat} {x : ItemL} {ab : KeyL × KeyL} (h : oneW s (l + 1) x = some ab) : errBn s x.ref.toNat = 0 ∧ (nodeB s x.ref.toNat).level = (l : Int) ∧ (nodeB s x.ref.toNat).items ≠ [] ∧ wkGo (oneW s l) none (nodeB s x.ref.toNat).items = some ab := by
  rw [oneW] at h
  by_cases hc : errBn s x.ref.toNat = 0 ∧ (nodeB s x.ref.toNat).level = (l : Int) ∧ (nodeB s x.ref.toNat).items ≠ []
  · rw [if_pos hc] at h; exact ⟨hc.1, hc.2.1, hc.2.2, h⟩
  · rw [if_neg hc] at h; cases h
end Go.Proofs.Ytcibihakjcenaaa

namespace Go.Proofs.Ytcibihakjcenaaa
open Go.RowKit

theorem may_refs {n : NodeL} (h : mayN n = true) : ∀ y ∈ n.items, y.ref = 0 ∨ (8 ≤ y.ref ∧ y.ref < 256) := by
  intro y hy
  have h := mayN_items h y hy
  unfold mayI at h
  simp at h
  omega
/-- Nothing turned below lo. -/
def LU (lo : Nat) (w V : World) : Prop := lo ≤ V.heap.size ∧ Below lo w V
theorem LU.step {lo : Nat} {w V V' : World} (h : LU lo w V) (hb : Below V.heap.size V V') : LU lo w V' := ⟨Nat.le_trans h.1 hb.size, h.2.trans (hb.mono h.1)⟩
theorem LU.outB {lo n0 : Nat} {w V V' : World} (h : LU lo w V) (hb : Below n0 V V') (hn : lo ≤ n0) : LU lo w V' := ⟨Nat.le_trans h.1 hb.size, h.2.trans (hb.mono hn)⟩
end Go.Proofs.Ytcibihakjcenaaa

namespace Go.Proofs.Ytcibihakjcenaaa
open Go.RowKit

/-- A node's items may be a tree's. -/
def topOk (s : StoreL) (n : NodeL) : Bool := n.items.isEmpty || (wkGo (oneW s n.level.toNat) none n.items).isSome
/-- What is wrong with a tree. -/
def errCk (s : StoreL) (p : Int) : Int := if errAs s p ≠ 0 then errAs s p else if errBn s p.toNat ≠ 0 then errBn s p.toNat else if topOk s (nodeB s p.toNat) then 0 else 8
/-- A tree's height. -/
def heiC (s : StoreL) (p : Int) : Int := if errCk s p = 0 then (nodeB s p.toNat).level + 1 else 0
def fndC (s : StoreL) (p : Int) (k : KeyL) : Option ItemL := fndW s (nodeB s p.toNat).level.toNat (nodeB s p.toNat) k
def errFd (s : StoreL) (p : Int) (k : KeyL) : Int := if errCk s p ≠ 0 then errCk s p else if (fndC s p k).isSome then 0 else 6
def itmF (s : StoreL) (p : Int) (k : KeyL) : ItemL := if errFd s p k = 0 then (fndC s p k).getD nokI else nokI
theorem errBn_zero {s : StoreL} {p : Nat} (h : errBn s p = 0) : s.now.getD p 0 ≠ 0 ∧ errNd (seenD s.disk p) = 0 ∧ nodeB s p = readNd (seenD s.disk p) := by
  have h0 := h
  unfold errBn at h
  by_cases h1 : s.now.getD p 0 = 0
  · rw [if_pos h1] at h; cases h
  rw [if_neg h1] at h
  by_cases h2 : errNd (seenD s.disk p) = 0
  · exact ⟨h1, h2, by unfold nodeB; rw [if_pos h0]⟩
  · rw [if_neg h2] at h; cases h
theorem errBn_of {s : StoreL} {p : Nat} (h1 : s.now.getD p 0 ≠ 0) (h2 : errNd (seenD s.disk p) = 0) : errBn s p = 0 := by unfold errBn; rw [if_neg h1, if_pos h2]
/-- A tree that may be. -/
structure TreeIs (s : StoreL) (p : Int) (l : Nat) : Prop where
  may : mayS s = true
  lo : 8 ≤ p
  hi : p < 256
  err : errBn s p.toNat = 0
  node : mayN (nodeB s p.toNat) = true
  level : (nodeB s p.toNat).level = (l : Int)
  lev : l < 6
  top : ((nodeB s p.toNat).items = [] ∧ l = 0) ∨ ∃ r, wkGo (oneW s l) none (nodeB s p.toNat).items = some r
theorem errCk_zero {s : StoreL} {p : Int} (h : errCk s p = 0) : TreeIs s p (nodeB s p.toNat).level.toNat := by
  unfold errCk at h
  by_cases h1 : errAs s p = 0
  case neg => rw [if_pos h1] at h; exact absurd h h1
  rw [if_neg (by simp [h1])] at h
  by_cases h2 : errBn s p.toNat = 0
  case neg => rw [if_pos h2] at h; exact absurd h h2
  rw [if_neg (by simp [h2])] at h
  by_cases h3 : topOk s (nodeB s p.toNat) = true
  case neg => rw [if_neg h3] at h; cases h
  obtain ⟨a1, a2, a3, -⟩ := errAs_zero h1
  have hm := nodeB_may h2
  obtain ⟨⟨m1, m2⟩, m3, m4, -⟩ := mayN_all hm
  have hl : (nodeB s p.toNat).level = ((nodeB s p.toNat).level.toNat : Int) := by omega
  refine ⟨a1, a2, a3, h2, hm, hl, by omega, ?_⟩
  unfold topOk at h3
  rw [Bool.or_eq_true] at h3
  rcases h3 with h3 | h3
  · refine .inl ⟨List.isEmpty_iff.1 h3, ?_⟩
    rcases m4 with m4 | m4
    · omega
    · rw [List.isEmpty_iff.1 h3] at m4; exact absurd rfl m4
  · exact .inr (Option.isSome_iff_exists.1 h3)
theorem ref_of {s : StoreL} {l : Nat} {x : ItemL} {ab : KeyL × KeyL} (hm : mayS s = true) (h : oneW s (l + 1) x = some ab) (hr : x.ref = 0 ∨ (8 ≤ x.ref ∧ x.ref < 256)) : 8 ≤ x.ref ∧ x.ref < 256 := by
  rcases hr with hr | hr
  case inr => exact hr
  exfalso
  obtain ⟨e1, -, -, -⟩ := oneW_succ h
  obtain ⟨a1, -, -⟩ := errBn_zero e1
  have hT := (mayS_iff.1 hm).2.1
  unfold mayT at hT
  rw [Bool.and_eq_true, beq_iff_eq, beq_iff_eq] at hT
  rw [hr] at a1
  refine a1 ?_
  obtain ⟨t1, t2⟩ := hT
  cases hn : s.now with
  | nil => rfl
  | cons a L =>
    rw [hn] at t2
    have := ((maxL_zero _).1 t2) a (by simp)
    simpa using this
/-- Stores alike where one is referred to. -/
structure SameAt (s t : StoreL) : Prop where
  may : mayS t = true
  now : ∀ q, s.now.getD q 0 ≠ 0 → t.now.getD q 0 ≠ 0
  seen : ∀ q : Nat, s.now.getD q 0 ≠ 0 → seenD t.disk q = seenD s.disk q
theorem SameAt.node {s t : StoreL} (h : SameAt s t) {q : Nat} (he : errBn s q = 0) : errBn t q = 0 ∧ nodeB t q = nodeB s q := by
  obtain ⟨a1, a2, a3⟩ := errBn_zero he
  have h1 : errBn t q = 0 := errBn_of (h.now q a1) (by rw [h.seen q a1]; exact a2)
  exact ⟨h1, by rw [(errBn_zero h1).2.2, h.seen q a1, a3]⟩
theorem SameAt.find {s t : StoreL} (h : SameAt s t) : ∀ (l : Nat) (n : NodeL) (k : KeyL), (l = 0 ∨ ∃ r, wkGo (oneW s l) none n.items = some r) → fndW t l n k = fndW s l n k
  | 0, n, k, _ => by rw [fndW, fndW]
  | l + 1, n, k, ht => by
    obtain ⟨r, hr⟩ := ht.resolve_left (by omega)
    have key : ∀ j, j < n.items.length → fndW t l (nodeB t (n.items.getD j nokI).ref.toNat) k = fndW s l (nodeB s (n.items.getD j nokI).ref.toNat) k := fun j hj => by
      have hx : n.items.getD j nokI ∈ n.items := by
        rw [List.getD_eq_getElem?_getD, List.getElem?_eq_getElem hj]
        exact List.getElem_mem hj
      obtain ⟨ab, ho⟩ := wkGo_each _ _ _ _ hr _ hx
      obtain ⟨e1, e2, e3, e4⟩ := oneW_succ ho
      rw [(h.node e1).2]
      exact h.find l _ k (.inr ⟨ab, e4⟩)
    rw [fndW, fndW]
    by_cases hi : isN n.items k = true
    · rw [if_pos hi, if_pos hi]
      refine key _ ?_
      unfold isN at hi
      rw [Bool.and_eq_true, decide_eq_true_eq] at hi
      exact hi.1
    · rw [if_neg hi, if_neg hi]
      by_cases h0 : cntN n.items k = 0
      · rw [if_pos h0, if_pos h0]
      · rw [if_neg h0, if_neg h0]
        exact key _ (by have := cntN_le n.items k; omega)
end Go.Proofs.Ytcibihakjcenaaa

