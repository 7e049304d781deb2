/- DropDoes: the words and contracts, part 15. -/
import Derived.Test.YtkfgegdnpinbdaaDropDoesQ1
import Derived.Test.YtkfgegdnpinbdaaDropDoesQ2
import Derived.Test.YtkfgegdnpinbdaaDropDoesQ3
import Derived.Test.YtkfgegdnpinbdaaDropDoesQ4
import Derived.Test.YtkfgegdnpinbdaaDropDoesQ5
import Derived.Test.YtkfgegdnpinbdaaDropDoesQ6
import Derived.Test.YtkfgegdnpinbdaaDropDoesQ7
import Derived.Test.YtkfgegdnpinbdaaDropDoesQ8
import Derived.Test.YtkfgegdnpinbdaaDropDoesQ9
import Derived.Test.YtkfgegdnpinbdaaDropDoesQ10
import Derived.Test.YtkfgegdnpinbdaaDropDoesQ11
import Derived.Test.YtkfgegdnpinbdaaDropDoesQ12
import Derived.Test.YtkfgegdnpinbdaaDropDoesQ13
import Derived.Test.YtkfgegdnpinbdaaDropDoesQ14
import Derived.WalkKit
import Derived.WalkLawsBesides
import Derived.WalkSpells
import Derived.Lib.Hide
import Derived.Laws.Rows
import Derived.Laws.AppendOwnNone
import Derived.Maps.AppendAt
import Derived.RangeFuncNested
import Derived.RangeFuncBound
import Derived.RangeFuncCalls
import Derived.RangeFuncLeaves
import Derived.RangeFuncBox
import Derived.Shelf.Abstract
import Derived.Shelf.RegionOpen
import Derived.OwnWalkIn
import Derived.TacticsInMore
import Derived.LoopNIn
import Derived.LoopIn
import Derived.ProofKit
import Derived.Deep.Slices
import Derived.WideShapes
import Derived.OrdersHeld
import Derived.Deep.QuietTactic
import Derived.BigQuiet
import Derived.StillTailTactics
import Derived.OpenShut
import Derived.Lib.SliceRun
import Derived.Lib.AppendZerosOnto
import Derived.Lib.Walk
import Derived.Deep.LoopGhost
import Derived.Laws.CopyOwn
import Derived.Deep.DeepCutAuto
import Derived.Laws.CopyRow
import Derived.Laws.MakeOwn
import Derived.Deep.RegionHeld
import Derived.KernelRfl
import Derived.BigFrameIn
import Derived.OrdersIn
namespace Go.Proofs.Ytkfgegdnpinbdaa
open Go.RowKit

set_option linter.unusedSimpArgs false
set_option maxRecDepth 100000 in
set_option maxHeartbeats 1000000 in
theorem rsmay_any (b_s u_s x_s y_s : Value) (s : StoreL) (w : World) (h_s : StoreV w 0 w.heap.size b_s u_s x_s y_s s) :
    Calls Try.prog 37 #[.agg #[b_s, u_s, x_s, y_s]] w fun e w' => e = .returned (.bool (mayS s)) ∧ Below w.heap.size w w' := by
  obtain ⟨ab_s, cb_s, rfl, gb_s, gc_s, -, -⟩ := h_s.1.1
  obtain ⟨au_s, cu_s, rfl, gu_s, gv_s, -, -⟩ := h_s.1.2
  obtain ⟨ax_s, cx_s, rfl, gx_s, gz_s⟩ := h_s.2.1.form rfl
  obtain ⟨ay_s, cy_s, rfl, gy_s, gw_s⟩ := h_s.2.2.form rfl
  unfold maxLen at gc_s gv_s gz_s gw_s
  have hst := ((Below.refl w.heap.size w).alloc (Nat.le_refl _) (.cells #[.slice ab_s s.disk.blocks.length cb_s, .slice au_s s.disk.waits.length cu_s, .slice ax_s s.now.length cx_s, .slice ay_s s.last.length cy_s] 28))
  have q_s := LK.new w (.cells #[.slice ab_s s.disk.blocks.length cb_s, .slice au_s s.disk.waits.length cu_s, .slice ax_s s.now.length cx_s, .slice ay_s s.last.length cy_s] 28)
  have hB : LW w _ := hst
  have O_s := (LO.of h_s (Nat.le_refl _)).step hst
  have sz_V : w.heap.size + 0 < (w.alloc (.cells #[.slice ab_s s.disk.blocks.length cb_s, .slice au_s s.disk.waits.length cu_s, .slice ax_s s.now.length cx_s, .slice ay_s s.last.length cy_s] 28)).heap.size := by simp
  obtain ⟨V, hV⟩ : ∃ V, (w.alloc (.cells #[.slice ab_s s.disk.blocks.length cb_s, .slice au_s s.disk.waits.length cu_s, .slice ax_s s.now.length cx_s, .slice ay_s s.last.length cy_s] 28)) = V := ⟨_, rfl⟩
  rw [hV] at sz_V q_s O_s hB
  clear hst h_s
  have HQ := Lib.hid (And.intro q_s (And.intro O_s hB))
  clear q_s O_s hB
  have c_q_s0 := LK.cell HQ.out.1 0
  have c_q_s1 := LK.cell HQ.out.1 1
  have c_q_s2 := LK.cell HQ.out.1 2
  have c_q_s3 := LK.cell HQ.out.1 3
  simp at c_q_s0 c_q_s1 c_q_s2 c_q_s3
  have hms : mayS s = (mayD s.disk && (mayT s.now && mayT s.last)) := rfl
  rw [hms]
  clear hms
  have k_d := fun V b u hh => rmayd_any b u s.disk V hh
  have k_n := fun V v hh => rmayt_any v s.now V hh
  have k_l := fun V v hh => rmayt_any v s.last V hh
  generalize mayD s.disk = m1 at *
  generalize mayT s.now = m2 at *
  generalize mayT s.last = m3 at *
  have HC := Lib.hid (And.intro k_d (And.intro k_n k_l))
  clear k_d k_n k_l
  go_enter Try.func37, Try.ntmps37
  go_upto_region 1 with (fail)
  clear hV
  go_wp2_with fail
  refine (HC.out.1 _ _ _ HQ.out.2.1.d).mono ?_
  rintro e w1 ⟨rfl, hst⟩
  clear c_q_s0 c_q_s1 c_q_s2 c_q_s3
  obtain ⟨q_s, O_s, hB⟩ := HQ.out
  clear HQ
  have sz_w1 : V.heap.size ≤ w1.heap.size := hst.size
  replace q_s := q_s.step hst
  replace O_s := O_s.step hst
  replace hB := hB.step hst
  clear hst
  have HQ := Lib.hid (And.intro q_s (And.intro O_s hB))
  clear q_s O_s hB
  have c_q_s0 := LK.cell HQ.out.1 0
  have c_q_s1 := LK.cell HQ.out.1 1
  have c_q_s2 := LK.cell HQ.out.1 2
  have c_q_s3 := LK.cell HQ.out.1 3
  simp at c_q_s0 c_q_s1 c_q_s2 c_q_s3
  cases m1
  case false =>
    go_wp2
    go_ret
    exact ⟨rfl, HQ.out.2.2⟩
  go_wp2_with fail
  refine (HC.out.2.1 _ _ HQ.out.2.1.n).mono ?_
  rintro e w0 ⟨rfl, hw0⟩
  rw [hw0]
  clear hw0 w0
  cases m2
  case false =>
    go_wp2
    go_ret
    exact ⟨rfl, HQ.out.2.2⟩
  go_wp2_with fail
  refine (HC.out.2.2 _ _ HQ.out.2.1.l).mono ?_
  rintro e w0 ⟨rfl, hw0⟩
  rw [hw0]
  clear hw0 w0
  cases m3
  case false =>
    go_wp2
    go_ret
    exact ⟨rfl, HQ.out.2.2⟩
  case true =>
    go_wp2
    go_ret
    exact ⟨rfl, HQ.out.2.2⟩

set_option maxRecDepth 100000 in
set_option maxHeartbeats 2000000 in
theorem rssame_any (b_s u_s x_s y_s : Value) (s : StoreL) (b_t u_t x_t y_t : Value) (t : StoreL) (w : World) (h_s : StoreV w 0 w.heap.size b_s u_s x_s y_s s) (h_t : StoreV w 0 w.heap.size b_t u_t x_t y_t t) :
    Calls Try.prog 16 #[.agg #[b_s, u_s, x_s, y_s], .agg #[b_t, u_t, x_t, y_t]] w fun e w' => e = .returned (.bool (decide (s = t))) ∧ Below w.heap.size w w' := by
  obtain ⟨ab_s, cb_s, rfl, gb_s, gc_s, -, -⟩ := h_s.1.1
  obtain ⟨au_s, cu_s, rfl, gu_s, gv_s, -, -⟩ := h_s.1.2
  obtain ⟨ax_s, cx_s, rfl, gx_s, gz_s⟩ := h_s.2.1.form rfl
  obtain ⟨ay_s, cy_s, rfl, gy_s, gw_s⟩ := h_s.2.2.form rfl
  unfold maxLen at gc_s gv_s gz_s gw_s
  obtain ⟨ab_t, cb_t, rfl, gb_t, gc_t, -, -⟩ := h_t.1.1
  obtain ⟨au_t, cu_t, rfl, gu_t, gv_t, -, -⟩ := h_t.1.2
  obtain ⟨ax_t, cx_t, rfl, gx_t, gz_t⟩ := h_t.2.1.form rfl
  obtain ⟨ay_t, cy_t, rfl, gy_t, gw_t⟩ := h_t.2.2.form rfl
  unfold maxLen at gc_t gv_t gz_t gw_t
  have hst := (((Below.refl w.heap.size w).alloc (Nat.le_refl _) (.cells #[.slice ab_s s.disk.blocks.length cb_s, .slice au_s s.disk.waits.length cu_s, .slice ax_s s.now.length cx_s, .slice ay_s s.last.length cy_s] 28)).alloc (by simp) (.cells #[.slice ab_t t.disk.blocks.length cb_t, .slice au_t t.disk.waits.length cu_t, .slice ax_t t.now.length cx_t, .slice ay_t t.last.length cy_t] 28))
  have hq := two_new w (.cells #[.slice ab_s s.disk.blocks.length cb_s, .slice au_s s.disk.waits.length cu_s, .slice ax_s s.now.length cx_s, .slice ay_s s.last.length cy_s] 28) (.cells #[.slice ab_t t.disk.blocks.length cb_t, .slice au_t t.disk.waits.length cu_t, .slice ax_t t.now.length cx_t, .slice ay_t t.last.length cy_t] 28)
  have q_s := LK.of hq.1
  have q_t := LK.of hq.2
  have hB : LW w _ := hst
  have O_s := (LO.of h_s (Nat.le_refl _)).step hst
  have O_t := (LO.of h_t (Nat.le_refl _)).step hst
  have sz_V : w.heap.size + 1 < ((w.alloc (.cells #[.slice ab_s s.disk.blocks.length cb_s, .slice au_s s.disk.waits.length cu_s, .slice ax_s s.now.length cx_s, .slice ay_s s.last.length cy_s] 28)).alloc (.cells #[.slice ab_t t.disk.blocks.length cb_t, .slice au_t t.disk.waits.length cu_t, .slice ax_t t.now.length cx_t, .slice ay_t t.last.length cy_t] 28)).heap.size := by simp
  obtain ⟨V, hV⟩ : ∃ V, ((w.alloc (.cells #[.slice ab_s s.disk.blocks.length cb_s, .slice au_s s.disk.waits.length cu_s, .slice ax_s s.now.length cx_s, .slice ay_s s.last.length cy_s] 28)).alloc (.cells #[.slice ab_t t.disk.blocks.length cb_t, .slice au_t t.disk.waits.length cu_t, .slice ax_t t.now.length cx_t, .slice ay_t t.last.length cy_t] 28)) = V := ⟨_, rfl⟩
  rw [hV] at sz_V q_s q_t O_s O_t hB
  clear hst h_s h_t hq
  have HQ := Lib.hid (And.intro q_s (And.intro q_t (And.intro O_s (And.intro O_t hB))))
  clear q_s q_t O_s O_t hB
  have c_q_s0 := LK.cell HQ.out.1 0
  have c_q_s1 := LK.cell HQ.out.1 1
  have c_q_s2 := LK.cell HQ.out.1 2
  have c_q_s3 := LK.cell HQ.out.1 3
  have c_q_t0 := LK.cell HQ.out.2.1 0
  have c_q_t1 := LK.cell HQ.out.2.1 1
  have c_q_t2 := LK.cell HQ.out.2.1 2
  have c_q_t3 := LK.cell HQ.out.2.1 3
  simp at c_q_s0 c_q_s1 c_q_s2 c_q_s3 c_q_t0 c_q_t1 c_q_t2 c_q_t3
  have hq : decide (s = t) = (decide (s.disk = t.disk) && (decide (s.now = t.now) && decide (s.last = t.last))) := by
    cases s
    cases t
    simp [Bool.decide_and]
  rw [hq]
  clear hq
  have k_d := fun V b u b2 u2 h1 h2 => rdsame_any b u b2 u2 s.disk t.disk V h1 h2
  generalize decide (s.disk = t.disk) = m1 at *
  have HC := Lib.hid (k_d)
  clear k_d
  go_enter Try.func16, Try.ntmps16
  go_upto_region 1 with (fail)
  clear hV
  go_wp2_with fail
  refine (HC.out _ _ _ _ _ HQ.out.2.2.1.d HQ.out.2.2.2.1.d).mono ?_
  rintro e w1 ⟨rfl, hst⟩
  clear c_q_s0 c_q_s1 c_q_s2 c_q_s3 c_q_t0 c_q_t1 c_q_t2 c_q_t3
  obtain ⟨q_s, q_t, O_s, O_t, hB⟩ := HQ.out
  clear HQ
  have sz_w1 : V.heap.size ≤ w1.heap.size := hst.size
  replace q_s := q_s.step hst
  replace q_t := q_t.step hst
  replace O_s := O_s.step hst
  replace O_t := O_t.step hst
  replace hB := hB.step hst
  clear hst
  have HQ := Lib.hid (And.intro q_s (And.intro q_t (And.intro O_s (And.intro O_t hB))))
  clear q_s q_t O_s O_t hB
  have c_q_s0 := LK.cell HQ.out.1 0
  have c_q_s1 := LK.cell HQ.out.1 1
  have c_q_s2 := LK.cell HQ.out.1 2
  have c_q_s3 := LK.cell HQ.out.1 3
  have c_q_t0 := LK.cell HQ.out.2.1 0
  have c_q_t1 := LK.cell HQ.out.2.1 1
  have c_q_t2 := LK.cell HQ.out.2.1 2
  have c_q_t3 := LK.cell HQ.out.2.1 3
  simp at c_q_s0 c_q_s1 c_q_s2 c_q_s3 c_q_t0 c_q_t1 c_q_t2 c_q_t3
  cases m1
  case false =>
    go_wp2
    go_ret
    exact ⟨rfl, HQ.out.2.2.2.2⟩
  have t1 := cv_of HQ.out.2.2.1.n
  have t2 := cv_of HQ.out.2.2.2.1.n
  have t3 := cv_of HQ.out.2.2.1.l
  have t4 := cv_of HQ.out.2.2.2.1.l
  by_cases h1 : s.now = t.now
  case neg =>
    have i1 : (s.now == t.now) = false := by simp [h1]
    go_wp2
    go_ret
    exact ⟨by simp [h1], HQ.out.2.2.2.2⟩
  by_cases h2 : s.last = t.last
  case neg =>
    have i1 : (s.now == t.now) = true := by simp [h1]
    have i2 : (s.last == t.last) = false := by simp [h2]
    have HH := Lib.hid h1
    clear h1
    go_wp2
    go_ret
    exact ⟨by simp [h2], HQ.out.2.2.2.2⟩
  have i1 : (s.now == t.now) = true := by simp [h1]
  have i2 : (s.last == t.last) = true := by simp [h2]
  have HH := Lib.hid (And.intro h1 h2)
  clear h1 h2
  go_wp2
  go_ret
  exact ⟨by simp [HH.out.1, HH.out.2], HQ.out.2.2.2.2⟩

set_option maxRecDepth 100000 in
set_option maxHeartbeats 1000000 in
theorem rstwin_any (b_s u_s x_s y_s : Value) (s : StoreL) (w : World) (h_s : StoreV w 0 w.heap.size b_s u_s x_s y_s s) (hf : FewS s) :
    Calls Try.prog 6 #[.agg #[b_s, u_s, x_s, y_s]] w fun e w' => ∃ b u x y, e = .returned (.agg #[b, u, x, y]) ∧ StoreV w' w.heap.size w'.heap.size b u x y s ∧ Below w.heap.size w w' := by
  obtain ⟨ab_s, cb_s, rfl, gb_s, gc_s, -, -⟩ := h_s.1.1
  obtain ⟨au_s, cu_s, rfl, gu_s, gv_s, -, -⟩ := h_s.1.2
  obtain ⟨ax_s, cx_s, rfl, gx_s, gz_s⟩ := h_s.2.1.form rfl
  obtain ⟨ay_s, cy_s, rfl, gy_s, gw_s⟩ := h_s.2.2.form rfl
  unfold maxLen at gc_s gv_s gz_s gw_s
  have hst := (((Below.refl w.heap.size w).alloc (Nat.le_refl _) (.cells #[.slice ab_s s.disk.blocks.length cb_s, .slice au_s s.disk.waits.length cu_s, .slice ax_s s.now.length cx_s, .slice ay_s s.last.length cy_s] 28)).alloc (by simp) (.cells #[.slice none 0 0, .slice none 0 0, .slice none 0 0, .slice none 0 0] 28))
  have hq := two_new w (.cells #[.slice ab_s s.disk.blocks.length cb_s, .slice au_s s.disk.waits.length cu_s, .slice ax_s s.now.length cx_s, .slice ay_s s.last.length cy_s] 28) (.cells #[.slice none 0 0, .slice none 0 0, .slice none 0 0, .slice none 0 0] 28)
  have q_s := LK.of hq.1
  have q_r := LK.of hq.2
  have hB : LW w _ := hst
  have O_s := (LO.of h_s (Nat.le_refl _)).step hst
  have sz_V : w.heap.size + 1 < ((w.alloc (.cells #[.slice ab_s s.disk.blocks.length cb_s, .slice au_s s.disk.waits.length cu_s, .slice ax_s s.now.length cx_s, .slice ay_s s.last.length cy_s] 28)).alloc (.cells #[.slice none 0 0, .slice none 0 0, .slice none 0 0, .slice none 0 0] 28)).heap.size := by simp
  obtain ⟨V, hV⟩ : ∃ V, ((w.alloc (.cells #[.slice ab_s s.disk.blocks.length cb_s, .slice au_s s.disk.waits.length cu_s, .slice ax_s s.now.length cx_s, .slice ay_s s.last.length cy_s] 28)).alloc (.cells #[.slice none 0 0, .slice none 0 0, .slice none 0 0, .slice none 0 0] 28)) = V := ⟨_, rfl⟩
  rw [hV] at sz_V q_s q_r O_s hB
  clear hst h_s hq
  have HQ := Lib.hid (And.intro q_s (And.intro q_r (And.intro O_s hB)))
  clear q_s q_r O_s hB
  have c_q_s0 := LK.cell HQ.out.1 0
  have c_q_s1 := LK.cell HQ.out.1 1
  have c_q_s2 := LK.cell HQ.out.1 2
  have c_q_s3 := LK.cell HQ.out.1 3
  have c_q_r0 := LK.cell HQ.out.2.1 0
  have c_q_r1 := LK.cell HQ.out.2.1 1
  have c_q_r2 := LK.cell HQ.out.2.1 2
  have c_q_r3 := LK.cell HQ.out.2.1 3
  simp at c_q_s0 c_q_s1 c_q_s2 c_q_s3 c_q_r0 c_q_r1 c_q_r2 c_q_r3
  obtain ⟨f1, f2, f3, f4, f5⟩ := hf
  have k_d := fun V b u hh => rdtwin_new b u s.disk V hh f1 f2 f3
  clear f1 f2 f3
  have HC := Lib.hid (k_d)
  clear k_d
  go_enter Try.func6, Try.ntmps6
  go_upto_region 1 with (fail)
  clear hV
  clear c_q_s0 c_q_s1 c_q_s2 c_q_s3 c_q_r0 c_q_r1 c_q_r2 c_q_r3
  obtain ⟨Pr, hPr⟩ : ∃ Pr : World → Prop, ∀ X, Pr X ↔ Below V.heap.size V X := ⟨_, fun _ => Iff.rfl⟩
  have hp0 : Pr V.drew := (hPr _).2 (Below.refl _ V).drew
  have x0 := fun X => LK.cell (HQ.out.1.step ((hPr _).1 (selW_pr hp0 X))) 0
  have x1 := fun X => LK.cell (HQ.out.1.step ((hPr _).1 (selW_pr hp0 X))) 1
  have x2 := fun X => LK.cell (HQ.out.1.step ((hPr _).1 (selW_pr hp0 X))) 2
  have x3 := fun X => LK.cell (HQ.out.1.step ((hPr _).1 (selW_pr hp0 X))) 3
  simp at x0 x1 x2 x3
  refine wp_region_L (S := Kl Pr V.drew) 10 (by kernel_rfl) (Kl.of hp0) (fun hCl => ?_)
  refine wpAnyL_seg (fuel := 5) (by kernel_rfl) (fun _ d _ _ _ h => by cases d <;> exact h) hCl [0, 1, 3, 4, 6, 7] _ _ _ (by kernel_rfl) (by kernel_rfl) (by kernel_rfl) (by kernel_rfl) ?_
  simp only [opsOf_cons, opsOf_nil, consOp_some, List.getElem?_toArray, List.getElem?_cons_succ, List.getElem?_cons_zero]
  repeat (first | go_big_quiet_step (fail) | quiet_step (fail))
  refine wpQuiet_nil ?_
  refine wpAnyL_each (fuel := 4) [2] (by kernel_rfl) (by simp) (by kernel_rfl) ?_
  refine EachL.cons _ rfl (fun K' hK => ?_) EachL.nil
  go_simp
  refine (HC.out _ _ _ (HQ.out.2.2.1.step (Below.refl _ V).drew).d).mono ?_
  rintro e z1 ⟨b1, u1, rfl, hm1, hb1⟩
  obtain ⟨ab_r, cb_r, rfl, -, -, -, -⟩ := id hm1.1
  obtain ⟨au_r, cu_r, rfl, -, -, -, -⟩ := id hm1.2
  have hst1 : Below V.heap.size V z1 := (Below.refl _ V).drew.trans hb1
  have hst := (hPr _).2 hst1
  have sz1 := hb1.size
  have sz0 := hst1.size
  have HM1 := Lib.hid (And.intro hm1 (And.intro hst1 hb1))
  clear hm1 hst1 hb1
  have hCl : Kl Pr V.drew _ := Kl.of hst
  refine hK.out (.inr hCl) ?_
  clear hK K'
  refine wpAnyL_each (fuel := 3) [5] (by kernel_rfl) (by simp) (by kernel_rfl) ?_
  refine EachL.cons _ rfl (fun K' hK => ?_) EachL.nil
  refine if_yes (by kernel_rfl) ?_
  refine wp_appB (.const (.slice none 0 0)) (.tmp 7) 26 rfl 5 Try.underlying26 info_u8 z1.heap.size (.slice none 0 0) [] rfl (OwnB.nil_ _ _ _) 0 z1.heap.size _ s.now rfl (HQ.out.2.2.1.step HM1.out.2.1).n (by show 0 + s.now.length ≤ _; omega) (Nat.le_refl _) ?_
  intro v2 z2 hown hB _hf
  rw [List.nil_append] at hown
  have hm := OwnB.made hown hB
  obtain ⟨ax_r, cx_r, rfl, -, -⟩ := hm.bytes.form rfl
  have hst2 := below_step HM1.out.2.1 HM1.out.2.1.size hB
  have hst := (hPr _).2 hst2
  have sz2 := hB.size
  have HM2 := Lib.hid (And.intro hm.bytes (And.intro hst2 hB))
  clear hm hst2 hB hown _hf
  have hCl : Kl Pr V.drew _ := Kl.of hst
  refine hK.out (.inr hCl) ?_
  clear hK K'
  refine wpAnyL_each (fuel := 2) [8] (by kernel_rfl) (by simp) (by kernel_rfl) ?_
  refine EachL.cons _ rfl (fun K' hK => ?_) EachL.nil
  refine if_yes (by kernel_rfl) ?_
  refine wp_appB (.const (.slice none 0 0)) (.tmp 10) 26 rfl 5 Try.underlying26 info_u8 z2.heap.size (.slice none 0 0) [] rfl (OwnB.nil_ _ _ _) 0 z2.heap.size _ s.last rfl (HQ.out.2.2.1.step HM2.out.2.1).l (by show 0 + s.last.length ≤ _; omega) (Nat.le_refl _) ?_
  intro v3 z3 hown hB _hf
  rw [List.nil_append] at hown
  have hm := OwnB.made hown hB
  obtain ⟨ay_r, cy_r, rfl, -, -⟩ := hm.bytes.form rfl
  have hst3 := below_step HM2.out.2.1 HM2.out.2.1.size hB
  have hst := (hPr _).2 hst3
  have sz3 := hB.size
  have HM3 := Lib.hid (And.intro hm.bytes (And.intro hst3 hB))
  clear hm hst3 hB hown _hf
  have hCl : Kl Pr V.drew _ := Kl.of hst
  refine hK.out (.inr hCl) ?_
  clear hK K'
  refine wpAnyL_each (fuel := 1) [9] (by kernel_rfl) (by simp) (by kernel_rfl) ?_
  refine EachL.cons _ rfl (fun K' hK => ?_) EachL.nil
  go_simp
  have hst := (hPr _).2 HM3.out.2.1
  have r0 := LK.cell (HQ.out.2.1.step HM3.out.2.1) 0
  have r1 := LK.cell (HQ.out.2.1.step HM3.out.2.1) 1
  have r2 := LK.cell (HQ.out.2.1.step HM3.out.2.1) 2
  have r3 := LK.cell (HQ.out.2.1.step HM3.out.2.1) 3
  simp at r0 r1 r2 r3
  have s0 := LK.frozen (HQ.out.2.1.step HM3.out.2.1) 0
  have s1 := LK.frozen (HQ.out.2.1.step HM3.out.2.1) 1
  have s2 := LK.frozen (HQ.out.2.1.step HM3.out.2.1) 2
  have s3 := LK.frozen (HQ.out.2.1.step HM3.out.2.1) 3
  have hCl : Kl Pr V.drew _ := Kl.of hst
  refine hK.out (.inr hCl) ?_
  clear hK K'
  refine wpAnyL_each (fuel := 0) [10] (by kernel_rfl) (by simp) (by kernel_rfl) ?_
  refine EachL.cons _ rfl (fun K' hK => ?_) EachL.nil
  go_simp
  refine hK.out (.inl rfl) ?_
  clear hK K'
  refine wpAnyL_done (by kernel_rfl) ?_ _
  clear x0 x1 x2 x3
  go_wp2
  refine bodyPost_ret (v := .agg #[.slice ab_r s.disk.blocks.length cb_r, .slice au_r s.disk.waits.length cu_r, .slice ax_r s.now.length cx_r, .slice ay_r s.last.length cy_r]) (by simp [results, Try.results6, go_sem, r0, r1, r2, r3]) rfl ⟨_, _, _, _, rfl, ?_⟩
  have gV : w.heap.size + 1 < V.heap.size := sz_V
  have hd1 := Sl.below HM1.out.1.1 (HM2.out.2.2.trans (HM3.out.2.2.mono sz2)) (Nat.le_refl _)
  have hd2 := Sl.below HM1.out.1.2 (HM2.out.2.2.trans (HM3.out.2.2.mono sz2)) (Nat.le_refl _)
  have hn := HM2.out.1.below HM3.out.2.2 (Nat.le_refl _)
  have hdl : V.drew.heap.size = V.heap.size := rfl
  have hs : StoreV z3 (w.heap.size + 2) z3.heap.size (.slice ab_r s.disk.blocks.length cb_r) (.slice au_r s.disk.waits.length cu_r) (.slice ax_r s.now.length cx_r) (.slice ay_r s.last.length cy_r) s := ⟨⟨hd1.more (by omega) (by omega), hd2.more (by omega) (by omega)⟩, hn.more (by omega) (by omega), HM3.out.1.more (by omega) (Nat.le_refl _)⟩
  have hsz : ∀ a b c d : Value, ((((z3.setCell ⟨w.heap.size + 1, 0, none⟩ a).setCell ⟨w.heap.size + 1, 1, none⟩ b).setCell ⟨w.heap.size + 1, 2, none⟩ c).setCell ⟨w.heap.size + 1, 3, none⟩ d).heap.size = z3.heap.size := fun a b c d => by simp only [World.size_setCell]
  refine ⟨(hs.keep (kp_four z3 _ _ _ _ (.inl (Nat.lt_succ_self _)))).more (by omega) (by rw [hsz]; exact Nat.le_refl _), ?_⟩
  exact Below.trans (LW.step HQ.out.2.2.2 HM3.out.2.1) (below_four z3 _ _ _ _ (Nat.le_succ _))

/-- A block that is referred to holds a node. -/
def isR (s : StoreL) (p : Int) : Bool := decide (8 ≤ p ∧ p < 256 ∧ errBn s p.toNat = 0)
def rdR (s : StoreL) (p : Int) : NodeL := if isR s p then nodeB s p.toNat else ⟨0, []⟩
theorem isR_nat {s : StoreL} {q : Nat} (h8 : 8 ≤ q) (h9 : q < 256) (h0 : s.now.getD q 0 ≠ 0) : isR s (q : Int) = decide (errNd (seenD s.disk q) = 0) ∧ rdR s (q : Int) = readNd (seenD s.disk q) := by
  have h1 : errBn s q = if errNd (seenD s.disk q) = 0 then 0 else 8 := by unfold errBn; rw [if_neg h0]
  have h2 : isR s (q : Int) = decide (errNd (seenD s.disk q) = 0) := by
    unfold isR
    rw [Int.toNat_natCast, h1]
    by_cases he : errNd (seenD s.disk q) = 0
    · rw [if_pos he, decide_eq_true he, decide_eq_true_eq]; omega
    · rw [if_neg he, decide_eq_false he, decide_eq_false_iff_not]; omega
  refine ⟨h2, ?_⟩
  unfold rdR
  rw [h2, Int.toNat_natCast]
  by_cases he : errNd (seenD s.disk q) = 0
  · rw [decide_eq_true he, if_pos rfl]
    unfold nodeB
    rw [h1, if_pos he, if_pos rfl]
  · rw [decide_eq_false he, if_neg (by simp)]
    unfold readNd
    rw [if_neg he]
theorem isR_no {s : StoreL} {p : Int} (h : p < 8 ∨ 256 ≤ p ∨ s.now.getD p.toNat 0 = 0) : isR s p = false ∧ rdR s p = ⟨0, []⟩ := by
  have h1 : isR s p = false := by
    unfold isR
    rw [decide_eq_false_iff_not]
    rintro ⟨h1, h2, h3⟩
    unfold errBn at h3
    rcases h with h | h | h
    · omega
    · omega
    · rw [if_pos h] at h3; cases h3
  exact ⟨h1, by unfold rdR; rw [h1]; rfl⟩

set_option maxRecDepth 100000 in
set_option maxHeartbeats 2000000 in
theorem rsread_any (b_s u_s x_s y_s : Value) (s : StoreL) (p : Int) (w : World) (h_s : StoreV w 0 w.heap.size b_s u_s x_s y_s s) (hm : mayS s = true) :
    Calls Try.prog 48 #[.agg #[b_s, u_s, x_s, y_s], .int .i64 p] w fun e w' => ∃ v, e = .returned (.tuple #[.agg #[.int .i64 (rdR s p).level, v], .bool (isR s p)]) ∧ Sl rItem w' w.heap.size w'.heap.size v (rdR s p).items ∧ Below w.heap.size w w' := by
  obtain ⟨ab_s, cb_s, rfl, gb_s, gc_s, -, -⟩ := h_s.1.1
  obtain ⟨au_s, cu_s, rfl, gu_s, gv_s, -, -⟩ := h_s.1.2
  obtain ⟨ax_s, cx_s, rfl, gx_s, gz_s⟩ := h_s.2.1.form rfl
  obtain ⟨ay_s, cy_s, rfl, gy_s, gw_s⟩ := h_s.2.2.form rfl
  unfold maxLen at gc_s gv_s gz_s gw_s
  have hst := (((Below.refl w.heap.size w).alloc (Nat.le_refl _) (.cells #[.slice ab_s s.disk.blocks.length cb_s, .slice au_s s.disk.waits.length cu_s, .slice ax_s s.now.length cx_s, .slice ay_s s.last.length cy_s] 28)).alloc (by simp) (.cells #[.int .i64 0, .slice none 0 0] 47))
  have hq := two_new w (.cells #[.slice ab_s s.disk.blocks.length cb_s, .slice au_s s.disk.waits.length cu_s, .slice ax_s s.now.length cx_s, .slice ay_s s.last.length cy_s] 28) (.cells #[.int .i64 0, .slice none 0 0] 47)
  have q_s := LK.of hq.1
  have q_r := LK.of hq.2
  have hB : LW w _ := hst
  have O_s := (LO.of h_s (Nat.le_refl _)).step hst
  have sz_V : w.heap.size + 1 < ((w.alloc (.cells #[.slice ab_s s.disk.blocks.length cb_s, .slice au_s s.disk.waits.length cu_s, .slice ax_s s.now.length cx_s, .slice ay_s s.last.length cy_s] 28)).alloc (.cells #[.int .i64 0, .slice none 0 0] 47)).heap.size := by simp
  obtain ⟨V, hV⟩ : ∃ V, ((w.alloc (.cells #[.slice ab_s s.disk.blocks.length cb_s, .slice au_s s.disk.waits.length cu_s, .slice ax_s s.now.length cx_s, .slice ay_s s.last.length cy_s] 28)).alloc (.cells #[.int .i64 0, .slice none 0 0] 47)) = V := ⟨_, rfl⟩
  rw [hV] at sz_V q_s q_r O_s hB
  clear hst h_s hq
  have HQ := Lib.hid (And.intro q_s (And.intro q_r (And.intro O_s hB)))
  clear q_s q_r O_s hB
  have c_q_s0 := LK.cell HQ.out.1 0
  have c_q_s1 := LK.cell HQ.out.1 1
  have c_q_s2 := LK.cell HQ.out.1 2
  have c_q_s3 := LK.cell HQ.out.1 3
  have c_q_r0 := LK.cell HQ.out.2.1 0
  have c_q_r1 := LK.cell HQ.out.2.1 1
  simp at c_q_s0 c_q_s1 c_q_s2 c_q_s3 c_q_r0 c_q_r1
  obtain ⟨hmd, hmt, -⟩ := mayS_iff.1 hm
  have hbl := (may_len hmd).1
  have htl : s.now.length = 256 := by unfold mayT at hmt; rw [Bool.and_eq_true, beq_iff_eq] at hmt; exact hmt.1
  have hno := isR_no (s := s) (p := p)
  have hyes := fun (q : Nat) (h : p = q) h8 h9 h0 => h ▸ isR_nat (s := s) (q := q) h8 h9 h0
  have k_s := fun (q : Nat) V b u hh hq => rseen_any b u s.disk q V hh hq
  have k_r := fun l v V hh => rnread_any v l V hh
  generalize isR s p = ir at *
  generalize rdR s p = N at *
  have HN := Lib.hid (And.intro hno (And.intro hyes (And.intro hbl htl)))
  clear hno hyes hbl htl hmd hmt hm
  have HC := Lib.hid (And.intro k_s k_r)
  clear k_s k_r
  go_enter Try.func48, Try.ntmps48
  go_upto_region 1 with (fail)
  clear hV
  by_cases h8 : p < 8
  case pos =>
    obtain ⟨rfl, rfl⟩ := HN.out.1 (.inl h8)
    clear c_q_s0 c_q_s1 c_q_s2 c_q_s3 c_q_r0 c_q_r1
    have c_q_s0 := LK.cell HQ.out.1 0
    have c_q_s1 := LK.cell HQ.out.1 1
    have c_q_s2 := LK.cell HQ.out.1 2
    have c_q_s3 := LK.cell HQ.out.1 3
    have c_q_r0 := LK.cell HQ.out.2.1 0
    have c_q_r1 := LK.cell HQ.out.2.1 1
    have z_q_r0 := LK.frozen HQ.out.2.1 0
    have z_q_r1 := LK.frozen HQ.out.2.1 1
    simp at c_q_s0 c_q_s1 c_q_s2 c_q_s3 c_q_r0 c_q_r1
    have hBf := HQ.out.2.2.2
    go_wp2
    refine bodyPost_ret (v := .tuple #[.agg #[.int .i64 0, .slice none 0 0], .bool false]) (by simp [results, Try.results48, go_sem, c_q_r0, c_q_r1]) rfl ⟨_, rfl, Sl.nil_ _ _ _, ?_⟩
    exact (Below.setCell hBf (p := ⟨w.heap.size + 1, 0, none⟩) (Nat.le_succ _) _).setCell (p := ⟨w.heap.size + 1, 1, none⟩) (Nat.le_succ _) _
  by_cases h9 : 256 ≤ p
  case pos =>
    obtain ⟨rfl, rfl⟩ := HN.out.1 (.inr (.inl h9))
    clear c_q_s0 c_q_s1 c_q_s2 c_q_s3 c_q_r0 c_q_r1
    have c_q_s0 := LK.cell HQ.out.1 0
    have c_q_s1 := LK.cell HQ.out.1 1
    have c_q_s2 := LK.cell HQ.out.1 2
    have c_q_s3 := LK.cell HQ.out.1 3
    have c_q_r0 := LK.cell HQ.out.2.1 0
    have c_q_r1 := LK.cell HQ.out.2.1 1
    have z_q_r0 := LK.frozen HQ.out.2.1 0
    have z_q_r1 := LK.frozen HQ.out.2.1 1
    simp at c_q_s0 c_q_s1 c_q_s2 c_q_s3 c_q_r0 c_q_r1
    have hBf := HQ.out.2.2.2
    go_wp2
    refine bodyPost_ret (v := .tuple #[.agg #[.int .i64 0, .slice none 0 0], .bool false]) (by simp [results, Try.results48, go_sem, c_q_r0, c_q_r1]) rfl ⟨_, rfl, Sl.nil_ _ _ _, ?_⟩
    exact (Below.setCell hBf (p := ⟨w.heap.size + 1, 0, none⟩) (Nat.le_succ _) _).setCell (p := ⟨w.heap.size + 1, 1, none⟩) (Nat.le_succ _) _
  obtain ⟨q, rfl⟩ : ∃ q : Nat, p = q := ⟨p.toNat, by omega⟩
  obtain ⟨bn, on_, cn, e1, -, zn, zn1, zn2, hcn⟩ := HQ.out.2.2.1.n.at_n HN.out.2.2.2 (by omega)
  injection e1 with e1 e3 e2
  subst e1 e2
  have cq := hcn q (s.now.getD q 0) (get_l _ _ _ (by have := HN.out.2.2.2; omega))
  unfold maxLen at zn2
  have htl2 : ((s.now.length : Nat) : Int) = 256 := by have := HN.out.2.2.2; omega
  simp only [bV] at cq
  have hz := HN.out.1
  have hy := HN.out.2.1 q rfl (by omega) (by omega)
  rw [Int.toNat_natCast] at hz
  obtain ⟨x, hx⟩ : ∃ x, s.now.getD q 0 = x := ⟨_, rfl⟩
  rw [hx] at cq hz hy
  have HZ := Lib.hid (And.intro hz hy)
  clear hz hy hcn hx
  have iq : ¬ (s.now.length : Int) ≤ (q : Int) := by have := HN.out.2.2.2; omega
  have iq2 : (q : Int) < s.now.length := by have := HN.out.2.2.2; omega
  by_cases hx0 : x = 0
  case pos =>
    subst hx0
    obtain ⟨rfl, rfl⟩ := HZ.out.1 (.inr (.inr rfl))
    clear c_q_s0 c_q_s1 c_q_s2 c_q_s3 c_q_r0 c_q_r1
    have c_q_s0 := LK.cell HQ.out.1 0
    have c_q_s1 := LK.cell HQ.out.1 1
    have c_q_s2 := LK.cell HQ.out.1 2
    have c_q_s3 := LK.cell HQ.out.1 3
    have c_q_r0 := LK.cell HQ.out.2.1 0
    have c_q_r1 := LK.cell HQ.out.2.1 1
    have z_q_r0 := LK.frozen HQ.out.2.1 0
    have z_q_r1 := LK.frozen HQ.out.2.1 1
    simp at c_q_s0 c_q_s1 c_q_s2 c_q_s3 c_q_r0 c_q_r1
    have hBf := HQ.out.2.2.2
    go_wp2
    refine bodyPost_ret (v := .tuple #[.agg #[.int .i64 0, .slice none 0 0], .bool false]) (by simp [results, Try.results48, go_sem, c_q_r0, c_q_r1]) rfl ⟨_, rfl, Sl.nil_ _ _ _, ?_⟩
    exact (Below.setCell hBf (p := ⟨w.heap.size + 1, 0, none⟩) (Nat.le_succ _) _).setCell (p := ⟨w.heap.size + 1, 1, none⟩) (Nat.le_succ _) _
  have ix : ((x.toNat : Int) == 0) = false := by
    rw [beq_eq_false_iff_ne]
    intro e
    exact hx0 (UInt8.toNat_inj.1 (by simpa using e))
  obtain ⟨hi, hN⟩ := HZ.out.2 hx0
  subst hi hN
  clear HZ hx0
  go_wp2_with fail
  refine (HC.out.1 q _ _ _ HQ.out.2.2.1.d (by have := HN.out.2.2.1; omega)).mono ?_
  rintro e w1 ⟨vb, rfl, hb, hst⟩
  clear c_q_s0 c_q_s1 c_q_s2 c_q_s3 c_q_r0 c_q_r1
  obtain ⟨q_s, q_r, O_s, hB⟩ := HQ.out
  clear HQ
  have B_b := LB.of hb (Nat.le_refl _)
  obtain ⟨ao, co, rfl, -, -⟩ := hb.form rfl
  clear hb
  have sz_w1 : V.heap.size ≤ w1.heap.size := hst.size
  replace q_s := q_s.step hst
  replace q_r := q_r.step hst
  replace O_s := O_s.step hst
  replace hB := hB.step hst
  clear hst
  have HQ := Lib.hid (And.intro q_s (And.intro q_r (And.intro O_s (And.intro B_b hB))))
  clear q_s q_r O_s B_b hB
  have c_q_s0 := LK.cell HQ.out.1 0
  have c_q_s1 := LK.cell HQ.out.1 1
  have c_q_s2 := LK.cell HQ.out.1 2
  have c_q_s3 := LK.cell HQ.out.1 3
  have c_q_r0 := LK.cell HQ.out.2.1 0
  have c_q_r1 := LK.cell HQ.out.2.1 1
  simp at c_q_s0 c_q_s1 c_q_s2 c_q_s3 c_q_r0 c_q_r1
  have kr := HC.out.2 (seenD s.disk q) _ _ HQ.out.2.2.2.1.v
  obtain ⟨M, hM⟩ : ∃ M, readNd (seenD s.disk q) = M := ⟨_, rfl⟩
  obtain ⟨en, hen⟩ : ∃ M, errNd (seenD s.disk q) = M := ⟨_, rfl⟩
  rw [hM, hen] at kr
  have KR := Lib.hid kr
  have HME := Lib.hid (And.intro hM hen)
  clear kr hM hen
  go_wp2_with fail
  refine (KR.out).mono ?_
  rintro e w2 ⟨vn, rfl, hm, hst⟩
  clear c_q_s0 c_q_s1 c_q_s2 c_q_s3 c_q_r0 c_q_r1
  obtain ⟨q_s, q_r, O_s, B_b, hB⟩ := HQ.out
  clear HQ
  have S_n := LS.of hm (Nat.le_refl _)
  obtain ⟨an, cn2, rfl, -, -, -, -⟩ := id hm
  clear hm
  have sz_w2 : w1.heap.size ≤ w2.heap.size := hst.size
  replace q_s := q_s.step hst
  replace q_r := q_r.step hst
  replace O_s := O_s.step hst
  replace B_b := B_b.step hst
  replace hB := hB.step hst
  clear hst
  have HQ := Lib.hid (And.intro q_s (And.intro q_r (And.intro O_s (And.intro B_b (And.intro S_n hB)))))
  clear q_s q_r O_s B_b S_n hB
  have c_q_s0 := LK.cell HQ.out.1 0
  have c_q_s1 := LK.cell HQ.out.1 1
  have c_q_s2 := LK.cell HQ.out.1 2
  have c_q_s3 := LK.cell HQ.out.1 3
  have c_q_r0 := LK.cell HQ.out.2.1 0
  have c_q_r1 := LK.cell HQ.out.2.1 1
  simp at c_q_s0 c_q_s1 c_q_s2 c_q_s3 c_q_r0 c_q_r1
  go_upto_region 4 with (fail)
  clear c_q_s0 c_q_s1 c_q_s2 c_q_s3 c_q_r0 c_q_r1
  obtain ⟨q_s, q_r, O_s, B_b, S_n, hB⟩ := HQ.out
  clear HQ
  have hst := (Below.refl w2.heap.size w2).alloc (Nat.le_refl _) (.cells #[.int .i64 M.level, .slice an M.items.length cn2] 47)
  have hlt : w2.heap.size < (w2.alloc (.cells #[.int .i64 M.level, .slice an M.items.length cn2] 47)).heap.size := by simp
  have q_n := LK.new w2 (.cells #[.int .i64 M.level, .slice an M.items.length cn2] 47)
  replace q_s := q_s.step hst
  replace q_r := q_r.step hst
  replace O_s := O_s.step hst
  replace B_b := B_b.step hst
  replace S_n := S_n.step hst
  replace hB := hB.step hst
  obtain ⟨w3, hw⟩ : ∃ v, w2.alloc (.cells #[.int .i64 M.level, .slice an M.items.length cn2] 47) = v := ⟨_, rfl⟩
  rw [hw] at hlt q_n q_s q_r O_s B_b S_n hB ⊢
  clear hw hst
  have sz_w3 := hlt
  clear hlt
  have HQ := Lib.hid (And.intro q_s (And.intro q_r (And.intro O_s (And.intro B_b (And.intro S_n (And.intro q_n hB))))))
  clear q_s q_r O_s B_b S_n q_n hB
  have c_q_s0 := LK.cell HQ.out.1 0
  have c_q_s1 := LK.cell HQ.out.1 1
  have c_q_s2 := LK.cell HQ.out.1 2
  have c_q_s3 := LK.cell HQ.out.1 3
  have c_q_r0 := LK.cell HQ.out.2.1 0
  have c_q_r1 := LK.cell HQ.out.2.1 1
  have c_q_n0 := LK.cell HQ.out.2.2.2.2.2.1 0
  have c_q_n1 := LK.cell HQ.out.2.2.2.2.2.1 1
  simp at c_q_s0 c_q_s1 c_q_s2 c_q_s3 c_q_r0 c_q_r1 c_q_n0 c_q_n1
  clear c_q_s0 c_q_s1 c_q_s2 c_q_s3 c_q_r0 c_q_r1 c_q_n0 c_q_n1
  have c_q_r0 := LK.cell HQ.out.2.1 0
  have c_q_r1 := LK.cell HQ.out.2.1 1
  have z_q_r0 := LK.frozen HQ.out.2.1 0
  have z_q_r1 := LK.frozen HQ.out.2.1 1
  have c_q_n0 := LK.cell HQ.out.2.2.2.2.2.1 0
  have c_q_n1 := LK.cell HQ.out.2.2.2.2.2.1 1
  simp at c_q_r0 c_q_r1 c_q_n0 c_q_n1
  have hBf := HQ.out.2.2.2.2.2.2
  have hS := HQ.out.2.2.2.2.1
  by_cases he : en = 0
  case pos =>
    have ie : (en == 0) = true := by simp [he]
    have HE := Lib.hid he
    clear he
    go_wp2
    refine bodyPost_ret (v := .tuple #[.agg #[.int .i64 M.level, .slice an M.items.length cn2], .bool true]) (by simp [results, Try.results48, go_sem, c_q_r0, c_q_r1]) rfl ⟨_, by rw [HME.out.1, HME.out.2, decide_eq_true HE.out], ?_, (Below.setCell hBf (p := ⟨w.heap.size + 1, 0, none⟩) (Nat.le_succ _) _).setCell (p := ⟨w.heap.size + 1, 1, none⟩) (Nat.le_succ _) _⟩
    have hk2 : ∀ x, x ≠ w.heap.size + 1 → ((w3.setCell ⟨w.heap.size + 1, 0, none⟩ (.int .i64 M.level)).setCell ⟨w.heap.size + 1, 1, none⟩ (.slice an M.items.length cn2)).heap[x]? = w3.heap[x]? := fun x h => (set_other _ _ _ _ x h).trans (set_other w3 _ _ _ x h)
    have hsx : ((w3.setCell ⟨w.heap.size + 1, 0, none⟩ (.int .i64 M.level)).setCell ⟨w.heap.size + 1, 1, none⟩ (.slice an M.items.length cn2)).heap.size = w3.heap.size := by simp only [World.size_setCell]
    have hSo := Lv.get (hS.out (n0 := w.heap.size + 1) (h0 := w.heap.size + 2) (Nat.le_of_eq hsx.symm) (fun x _ h => hk2 x (by omega)) (by omega))
    rw [HME.out.1]
    exact hSo.more (by omega) (by rw [hsx]; omega)
  have ie : (en == 0) = false := by simp [he]
  have HE := Lib.hid he
  clear he
  go_wp2
  refine bodyPost_ret (v := .tuple #[.agg #[.int .i64 M.level, .slice an M.items.length cn2], .bool false]) (by simp [results, Try.results48, go_sem, c_q_r0, c_q_r1]) rfl ⟨_, by rw [HME.out.1, HME.out.2, decide_eq_false HE.out], ?_, (Below.setCell hBf (p := ⟨w.heap.size + 1, 0, none⟩) (Nat.le_succ _) _).setCell (p := ⟨w.heap.size + 1, 1, none⟩) (Nat.le_succ _) _⟩
  have hk2 : ∀ x, x ≠ w.heap.size + 1 → ((w3.setCell ⟨w.heap.size + 1, 0, none⟩ (.int .i64 M.level)).setCell ⟨w.heap.size + 1, 1, none⟩ (.slice an M.items.length cn2)).heap[x]? = w3.heap[x]? := fun x h => (set_other _ _ _ _ x h).trans (set_other w3 _ _ _ x h)
  have hsx : ((w3.setCell ⟨w.heap.size + 1, 0, none⟩ (.int .i64 M.level)).setCell ⟨w.heap.size + 1, 1, none⟩ (.slice an M.items.length cn2)).heap.size = w3.heap.size := by simp only [World.size_setCell]
  have hSo := Lv.get (hS.out (n0 := w.heap.size + 1) (h0 := w.heap.size + 2) (Nat.le_of_eq hsx.symm) (fun x _ h => hk2 x (by omega)) (by omega))
  rw [HME.out.1]
  exact hSo.more (by omega) (by rw [hsx]; omega)

end Go.Proofs.Ytkfgegdnpinbdaa

namespace Go.Proofs.Ytkfgegdnpinbdaa
open Go.RowKit

set_option linter.unusedSimpArgs false
theorem row_intS {lo : Nat} {S : Nat → Bool} {W : World} {v : Value} {y : Int} (hp : (Lit.int .i64 y).wf = true) (T2 : TypeId) :
    ∀ j x, [y][j]? = some x → (rInt .i64).R (hideW (W.alloc (.cells #[.int .i64 y] T2)) (andOwn S v)) lo (W.alloc (.cells #[.int .i64 y] T2)).heap.size x (fun i => [(Value.int .i64 y)][j * (rInt .i64).n + i]?) := by
  intro j x hj
  cases j with
  | zero => cases hj; exact ⟨rfl, hp⟩
  | succ j => simp at hj
theorem intsOf_app (l : List Nat) (j : Nat) : intsOf (l ++ [j]) = intsOf l ++ [(j : Int)] := by unfold intsOf; rw [List.map_append]; rfl
theorem intsOf_len (l : List Nat) : (intsOf l).length = l.length := List.length_map _
theorem freeN_len (s : StoreL) : ∀ k, (freeN s k).length ≤ k := fun k => Nat.le_trans (List.length_filter_le _ _) (by simp)
set_option maxRecDepth 100000 in
set_option maxHeartbeats 2000000 in
theorem rsall_any (b_s u_s x_s y_s : Value) (s : StoreL) (w : World) (h_s : StoreV w 0 w.heap.size b_s u_s x_s y_s s) (hm : mayS s = true) :
    Calls Try.prog 38 #[.agg #[b_s, u_s, x_s, y_s]] w fun e w' => ∃ v, e = .returned v ∧ Sl (rInt .i64) w' w.heap.size w'.heap.size v (intsOf (freeS s)) ∧ Below w.heap.size w w' := by
  obtain ⟨ab_s, cb_s, rfl, gb_s, gc_s, -, -⟩ := h_s.1.1
  obtain ⟨au_s, cu_s, rfl, gu_s, gv_s, -, -⟩ := h_s.1.2
  obtain ⟨ax_s, cx_s, rfl, gx_s, gz_s⟩ := h_s.2.1.form rfl
  obtain ⟨ay_s, cy_s, rfl, gy_s, gw_s⟩ := h_s.2.2.form rfl
  unfold maxLen at gc_s gv_s gz_s gw_s
  have hst := ((Below.refl w.heap.size w).alloc (Nat.le_refl _) (.cells #[.slice ab_s s.disk.blocks.length cb_s, .slice au_s s.disk.waits.length cu_s, .slice ax_s s.now.length cx_s, .slice ay_s s.last.length cy_s] 28))
  have q_s := LK.new w (.cells #[.slice ab_s s.disk.blocks.length cb_s, .slice au_s s.disk.waits.length cu_s, .slice ax_s s.now.length cx_s, .slice ay_s s.last.length cy_s] 28)
  have hB : LW w _ := hst
  have O_s := (LO.of h_s (Nat.le_refl _)).step hst
  have sz_V : w.heap.size + 0 < (w.alloc (.cells #[.slice ab_s s.disk.blocks.length cb_s, .slice au_s s.disk.waits.length cu_s, .slice ax_s s.now.length cx_s, .slice ay_s s.last.length cy_s] 28)).heap.size := by simp
  obtain ⟨V, hV⟩ : ∃ V, (w.alloc (.cells #[.slice ab_s s.disk.blocks.length cb_s, .slice au_s s.disk.waits.length cu_s, .slice ax_s s.now.length cx_s, .slice ay_s s.last.length cy_s] 28)) = V := ⟨_, rfl⟩
  rw [hV] at sz_V q_s O_s hB
  clear hst h_s
  have HQ := Lib.hid (And.intro q_s (And.intro O_s hB))
  clear q_s O_s hB
  have c_q_s0 := LK.cell HQ.out.1 0
  have c_q_s1 := LK.cell HQ.out.1 1
  have c_q_s2 := LK.cell HQ.out.1 2
  have c_q_s3 := LK.cell HQ.out.1 3
  simp at c_q_s0 c_q_s1 c_q_s2 c_q_s3
  have h256 := mayT_len (mayS_iff.1 hm).2.1
  have h257 := mayT_len (mayS_iff.1 hm).2.2
  clear hm
  obtain ⟨bn, on_, cn, e1, -, zn, zn1, zn2, hcn⟩ := HQ.out.2.1.n.at_n h256 (by omega)
  injection e1 with e1 e3 e2
  subst e1 e2
  clear e3
  obtain ⟨bl, ol, cl, e1, -, zl, zl1, zl2, hcl⟩ := HQ.out.2.1.l.at_n h257 (by omega)
  injection e1 with e1 e3 e2
  subst e1 e2
  clear e3
  unfold maxLen at zn2 zl2
  have hsucc := fun j => freeN_succ s j
  have h8e := freeN_eight s
  have hlen := freeN_len s
  have hfs : freeS s = freeN s 256 := rfl
  rw [hfs]
  have hnone : ∀ j, 8 ≤ j → noneAt s j = ((s.now.getD j 0 == 0) && (s.last.getD j 0 == 0)) := fun j h => by
    unfold noneAt
    rw [decide_eq_true h, Bool.true_and]
  have hcn2 : ∀ j, j < 256 → V.cell? ⟨bn, on_ + j, none⟩ = some (bV (s.now.getD j 0)) := fun j hj => hcn j _ (get_l _ _ _ (by omega))
  have hcl2 : ∀ j, j < 256 → V.cell? ⟨bl, ol + j, none⟩ = some (bV (s.last.getD j 0)) := fun j hj => hcl j _ (get_l _ _ _ (by omega))
  have iq : ∀ j : Nat, j < 256 → ¬ (s.now.length : Int) ≤ (j : Int) ∧ ¬ (s.last.length : Int) ≤ (j : Int) ∧ (j : Int) < s.now.length ∧ (j : Int) < s.last.length := fun j hj => by omega
  have HN := Lib.hid (And.intro hsucc (And.intro h8e (And.intro hlen (And.intro hnone (And.intro hcn2 (And.intro hcl2 iq))))))
  clear hsucc h8e hlen hfs hnone hcn2 hcl2 hcn hcl iq h256 h257
  go_enter Try.func38, Try.ntmps38
  go_upto_region 1 with (fail)
  clear hV
  have hB0 := HQ.out.2.2
  have q0 := HQ.out.1
  have HV := Lib.hid (And.intro hB0 q0)
  clear hB0 q0
  clear c_q_s0 c_q_s1 c_q_s2 c_q_s3
  go_wp2_with fail
  go_loopw [3, 4] (fun v i wr => ∃ (j : Nat) (ar : Option Addr) (cr : Nat), 8 ≤ j ∧ j ≤ 256 ∧ i = .int .i64 j ∧ v = .slice ar (intsOf (freeN s j)).length cr ∧ OwnR (rInt .i64) V.heap.size 3 V.heap.size (fun _ => false) wr (.slice ar (intsOf (freeN s j)).length cr) (intsOf (freeN s j)) ∧ Below V.heap.size V wr) (fun _ i _ => 256 - (intOf i).toNat)
  case atStart =>
    refine ⟨8, none, 0, Nat.le_refl _, by omega, rfl, ?_, ?_, Below.refl _ _⟩
    · rw [HN.out.2.1]; rfl
    · rw [HN.out.2.1]; exact OwnR.nil_ _ _ _ _ _ _
  case round =>
  obtain ⟨j, ar, cr, h8, hj, rfl, rfl, hown, hBr⟩ := hrel
  have qs := HV.out.2.step hBr
  have c0 := LK.cell qs 0
  have c1 := LK.cell qs 1
  have c2 := LK.cell qs 2
  have c3 := LK.cell qs 3
  simp at c0 c1 c2 c3
  by_cases hlt : j < 256
  case neg =>
    obtain rfl : j = 256 := by omega
    have HO := Lib.hid (And.intro hown (And.intro hBr qs))
    clear hown hBr qs
    go_wp2
    go_ret
    obtain ⟨hown, hBr, qs⟩ := HO.out
    exact ⟨_, rfl, hown.sl (rInt_ck .i64) (by have := HV.out.1.size; omega) (by have := HV.out.1.size; omega), Below.trans HV.out.1 (hBr.mono (by have := HV.out.1.size; omega))⟩
  have kn := HN.out.2.2.2.2.1 j hlt
  have kl := HN.out.2.2.2.2.2.1 j hlt
  replace kn := (hBr.cell (p := ⟨bn, on_ + j, none⟩) (cell_lt' kn)).trans kn
  replace kl := (hBr.cell (p := ⟨bl, ol + j, none⟩) (cell_lt' kl)).trans kl
  obtain ⟨i1, i2, i3, i4⟩ := HN.out.2.2.2.2.2.2 j hlt
  have hno := HN.out.2.2.2.1 j h8
  have hsu := HN.out.1 j
  have hln := HN.out.2.2.1 j
  rw [hno] at hsu
  clear hno
  generalize s.now.getD j 0 = x at *
  generalize s.last.getD j 0 = y at *
  simp only [bV] at kn kl
  have HO := Lib.hid (And.intro hown (And.intro hBr (And.intro qs (And.intro hsu (And.intro hln h8)))))
  clear hown hBr qs hsu hln h8
  have hkeep : ¬ (x = 0 ∧ y = 0) → ∃ (j2 : Nat) (ar2 : Option Addr) (cr2 : Nat), 8 ≤ j2 ∧ j2 ≤ 256 ∧ Value.int .i64 ((j : Int) + 1) = .int .i64 j2 ∧ Value.slice ar (intsOf (freeN s j)).length cr = .slice ar2 (intsOf (freeN s j2)).length cr2 ∧ OwnR (rInt .i64) V.heap.size 3 V.heap.size (fun _ => false) wr (.slice ar2 (intsOf (freeN s j2)).length cr2) (intsOf (freeN s j2)) ∧ Below V.heap.size V wr := fun hxy => by
    have e1 := HO.out.2.2.2.1
    rw [if_neg (by simpa using hxy)] at e1
    refine ⟨j + 1, ar, cr, by have := HO.out.2.2.2.2.2; omega, by omega, by go_num, by rw [e1], ?_, HO.out.2.1⟩
    rw [e1]
    exact HO.out.1
  have HK := Lib.hid hkeep
  clear hkeep
  by_cases hx : x = 0
  case neg =>
    have ix : ((x.toNat : Int) == 0) = false := by
      rw [beq_eq_false_iff_ne]
      exact u8_nz hx
    have HX := Lib.hid hx
    clear hx
    go_wp2
    go_roundw
    case rel => exact HK.out (fun h => HX.out h.1)
    case measure => simp [intOf]; omega
  subst hx
  by_cases hy : y = 0
  case neg =>
    have ix : ((y.toNat : Int) == 0) = false := by
      rw [beq_eq_false_iff_ne]
      exact u8_nz hy
    have HX := Lib.hid hy
    clear hy
    go_wp2
    go_roundw
    case rel => exact HK.out (fun h => HX.out h.2)
    case measure => simp [intOf]; omega
  subst hy
  clear HK
  go_wp2_with (at_builtin; have hra := HO.out.1.alloc (rInt_ck .i64) (.cells #[.int .i64 (j : Int)] 3); refine wpList_appR (rInt_ck .i64) rfl (.tmp 23) (.tmp 25) 31 rfl 3 (.int .i64 0) 8 Try.underlying31 (by kernel_rfl) rfl (by decide) V.heap.size V.heap.size (fun _ => false) (.slice ar (intsOf (freeN s j)).length cr) (intsOf (freeN s j)) [(j : Int)] rfl hra (fun q hq => rfl) ⟨wr.heap.size, 0, none⟩ 1 [.int .i64 (j : Int)] rfl rfl (news_one #[.int .i64 (j : Int)] 3) (by intro u hu; simp at hu; subst hu; rfl) (row_intS (WalkArith.wf_i64 (by omega)) 3) (by have := HO.out.2.2.2.2.1; rw [intsOf_len]; show (freeN s j).length + 1 ≤ 1000000; omega) (by decide) (by have := HO.out.2.1.size; rw [World.size_alloc]; omega) ?_; intro a4 c4 z4 hown4 hB4 hf4; clear hra; have e1 := HO.out.2.2.2.1; rw [if_pos (by simp)] at e1; rw [← intsOf_app, ← e1] at hown4 ⊢; have HR := Lib.hid (And.intro hown4 hB4); clear hown4 hB4 hf4 e1)
  go_roundw
  case rel =>
    have hBr := HO.out.2.1
    exact ⟨j + 1, a4, c4, by have := HO.out.2.2.2.2.2; omega, by omega, by go_num, rfl, HR.out.1, (hBr.alloc hBr.size _).trans HR.out.2⟩
  case measure => simp [intOf]; omega

end Go.Proofs.Ytkfgegdnpinbdaa

namespace Go.Proofs.Ytkfgegdnpinbdaa
open Go.RowKit

theorem CKc.below {w w' : World} (h : Below w.heap.size w w') : CKc w w' := fun a _v e => ⟨(h.cell (p := a) (cell_lt' e)).trans e, h.frozen (p := a) (cell_lt' e)⟩
theorem SrcW.ck {T w w' : World} {sv : Value} {l : List WrL} (h : SrcW T w sv l) (hc : CKc w w') : SrcW T w' sv l := by
  obtain ⟨a, c, e, h1, bs, h2, h3, h4⟩ := h
  exact ⟨a, c, e, h1, bs, h2, h3, fun ad ha j u hu => (hc _ _ (h4 ad ha j u hu)).1⟩
theorem SrcW.ofT {T w : World} {sv : Value} {l : List WrL} (h : Sl rWrite T 0 T.heap.size sv l) (hc : CKc T w) : SrcW T w sv l := (SrcW.of h (Below.refl _ _)).ck hc
theorem OwnW.slC {base : Nat} {T w : World} {v : Value} {l : List WrL} (h : OwnW base T w v l) (hk : CKc T w) (hs : T.heap.size ≤ w.heap.size) : Sl rWrite w 0 w.heap.size v l := by
  obtain ⟨xs, ⟨hl, hrow⟩, hx⟩ := h
  rcases hrow with ⟨rfl, h0⟩ | ⟨g, cap, cur, rfl, hg, hh, h1, h2, h3, h4⟩
  · have : l = [] := List.eq_nil_of_length_eq_zero (by omega)
    subst this
    exact Sl.nil_ _ _ _
  · refine ⟨_, _, rfl, h1, h2, fun _ => ⟨g, 0, rfl, Nat.zero_le _, (Array.getElem?_eq_some_iff.1 hh).1, fun i x hxi => ?_⟩, fun h => by cases h⟩
    obtain ⟨⟨e1, e2⟩, y, e3, e4⟩ := hx i x hxi
    have hc : ∀ j u, xs[j]? = some u → w.cell? ⟨g, j, none⟩ = some u := by
      intro j u hj
      rw [blk_cell hh, ← hj, ← h4, List.getElem?_take, if_pos]
      · simp
      · have := (List.getElem?_eq_some_iff.1 hj).1
        rw [hl] at this
        exact this
    refine ⟨?_, e2, y, ?_, (e4.ck hk).more (Nat.le_refl _) hs⟩
    · show w.cell? ⟨g, 0 + i * 2 + 0, none⟩ = _
      rw [Nat.zero_add, Nat.add_zero]
      exact hc _ _ e1
    · show w.cell? ⟨g, 0 + i * 2 + 1, none⟩ = _
      rw [Nat.zero_add]
      exact hc _ _ e3

theorem diskT_at {T w : World} {b u : Value} {d : DiskL} (hc : CKc T w) (hs : T.heap.size ≤ w.heap.size) (h : DiskV T 0 T.heap.size b u d) : DiskV w 0 w.heap.size b u d :=
  ⟨(h.1.ck rBytes_ck hc).more (Nat.le_refl _) hs, (h.2.ck rWrite_ck hc).more (Nat.le_refl _) hs⟩
theorem bytesT_at {T w : World} {v : Value} {l : List UInt8} (hc : CKc T w) (hs : T.heap.size ≤ w.heap.size) (h : Bytes T 0 T.heap.size v l) : Bytes w 0 w.heap.size v l := (h.ck hc).more (Nat.le_refl _) hs
/-- A disk whose data lies in T, or in what was made from w on. -/
structure GotT (T w w' : World) (b u : Value) (d : DiskL) : Prop where
  disk : ∀ W : World, w'.heap.size ≤ W.heap.size → CKc T W → (∀ k, w.heap.size ≤ k → k < w'.heap.size → W.heap[k]? = w'.heap[k]?) → DiskV W 0 W.heap.size b u d
  below : Below w.heap.size w w'
theorem GotT.got {T w w' : World} {b u : Value} {d : DiskL} (h : GotT T w w' b u d) (hc : CKc T w) : GotD w w' b u d := ⟨h.disk w' (Nat.le_refl _) (hc.trans (CKc.below h.below)) (fun _ _ _ => rfl), h.below⟩
theorem GotT.nil_ {T w w' : World} (h : Below w.heap.size w w') : GotT T w w' (.slice none 0 0) (.slice none 0 0) ⟨[], []⟩ := ⟨fun _ _ _ _ => ⟨Sl.nil_ _ _ _, Sl.nil_ _ _ _⟩, h⟩

set_option maxRecDepth 100000 in
set_option maxHeartbeats 1000000 in
/-- The reference's With. -/
theorem rwithT (b u : Value) (d : DiskL) (p : Int) (v : Value) (l : List UInt8) (w T : World) (hck : CKc T w) (hsT : T.heap.size ≤ w.heap.size) (h : DiskV T 0 T.heap.size b u d) (hv : Bytes T 0 T.heap.size v l) (hp : (Lit.int .i64 p).wf = true) (hn : d.waits.length ≤ 5000) :
    Calls Try.prog 79 #[.agg #[b, u], .int .i64 p, v] w fun e w' => ∃ b' u', e = .returned (.agg #[b', u']) ∧ GotT T w w' b' u' ⟨d.blocks, d.waits ++ [⟨p, l⟩]⟩ := by
  have hB := ((Below.refl w.heap.size w).alloc (Nat.le_refl _) (.cells #[b, u] 25)).alloc (by simp) (.cells #[.slice none 0 0, .slice none 0 0] 25)
  have hD : DiskV _ 0 _ b u d := (diskT_at hck hsT h).step hB
  have hv0 := (bytesT_at hck hsT hv).step hB
  have hT := h
  have hvT := hv
  have hq := two_new w (.cells #[b, u] 25) (.cells #[.slice none 0 0, .slice none 0 0] 25)
  obtain ⟨ab, cb, rfl, g1, g2, -, -⟩ := h.1
  obtain ⟨au, cu, rfl, g3, g4, -, -⟩ := h.2
  obtain ⟨av, cv, rfl, y1, y2⟩ := hv.form rfl
  unfold maxLen at g2 g4 y2
  have HD0 := Lib.hid (And.intro hT (And.intro hvT (And.intro hck hsT)))
  clear hT hvT hck
  clear h hv
  obtain ⟨W, hW⟩ : ∃ W, (w.alloc (.cells #[.slice ab d.blocks.length cb, .slice au d.waits.length cu] 25)).alloc (.cells #[.slice none 0 0, .slice none 0 0] 25) = W := ⟨_, rfl⟩
  rw [hW] at hB hD hq hv0
  have c0 := blk_cell hq.1 0
  have c1 := blk_cell hq.1 1
  simp at c0 c1
  have HQ := Lib.hid (And.intro hD (And.intro hv0 (And.intro hB hq)))
  clear hB hD hq hv0
  go_enter Try.func79, Try.ntmps79
  go_upto_region 2 with (fail)
  have h7 := World.alloc_heap_new W (.cells #[.slice ab d.blocks.length cb, .slice none 0 0] 25)
  have hst := (Below.refl W.heap.size W).alloc (Nat.le_refl _) (.cells #[.slice ab d.blocks.length cb, .slice none 0 0] 25)
  have n0 := (Array.getElem?_eq_some_iff.1 HQ.out.2.2.2.2).1
  obtain ⟨w1, hw1⟩ : ∃ w1, W.alloc (.cells #[.slice ab d.blocks.length cb, .slice none 0 0] 25) = w1 := ⟨_, rfl⟩
  rw [hw1] at h7 hst ⊢
  clear hw1
  have q1 := (hst.block _ (Array.getElem?_eq_some_iff.1 HQ.out.2.2.2.2).1).trans HQ.out.2.2.2.2
  have d0 := (hst.cell (p := ⟨w.heap.size, 0, none⟩) (cell_lt' c0)).trans c0
  have d1 := (hst.cell (p := ⟨w.heap.size, 1, none⟩) (cell_lt' c1)).trans c1
  have hBw1 := below_step HQ.out.2.2.1 HQ.out.2.2.1.size hst
  generalize hg7 : W.heap.size = g7 at *
  have HG7 := Lib.hid hg7
  clear hg7
  have e0 := blk_cell h7 0
  have e1 := blk_cell h7 1
  have f1 := blk_frozen h7 1
  simp at e0 e1
  have hsrc : SrcW T w1 (.slice au d.waits.length cu) d.waits := SrcW.ofT HD0.out.1.2 (HD0.out.2.2.1.trans (CKc.below hBw1))
  have hown0 : OwnW w1.heap.size T w1 (.slice none 0 0) [] := OwnW.nil_ _ _ _
  have HS := Lib.hid (And.intro hsrc (And.intro hown0 (And.intro h7 (And.intro q1 (And.intro hst hBw1)))))
  clear c0 c1 hsrc hown0 h7 q1 hst hBw1
  go_upto_region 3 with (at_builtin; refine wpList_appW rfl (.tmp 12) (.tmp 14) rfl w1.heap.size T _ _ [] d.waits rfl rfl HS.out.2.1 HS.out.1 (by simp; omega) (Nat.le_refl _) ?_; intro a2 c2 w2 hown2 hB2; rw [List.nil_append] at hown2 ⊢; have k7 := (hB2.block _ (Array.getElem?_eq_some_iff.1 HS.out.2.2.1).1).trans HS.out.2.2.1; have k0 := blk_cell k7 0; have k1 := blk_cell k7 1; have kf := blk_frozen k7 1; simp at k0 k1; have HO := Lib.hid (And.intro hown2 (And.intro hB2 k7)); clear hown2 hB2 k7)
  have hown3 := HO.out.1.set g7 1 (.slice a2 d.waits.length c2) (Array.getElem?_eq_some_iff.1 HS.out.2.2.1).1
  have k73 := set_block HO.out.2.2 1 (.slice a2 d.waits.length c2)
  have hg1 : w.heap.size + 1 ≠ g7 := by have := (Array.getElem?_eq_some_iff.1 HQ.out.2.2.2.2).1; have := HG7.out; omega
  have q3 := (set_other w2 g7 1 (.slice a2 d.waits.length c2) (w.heap.size + 1) hg1).trans ((HO.out.2.1.block _ (Array.getElem?_eq_some_iff.1 HS.out.2.2.2.1).1).trans HS.out.2.2.2.1)
  have hgw : w.heap.size ≤ g7 := by have := HQ.out.2.2.1.size; have := HG7.out; omega
  have hBw : Below w.heap.size w w2 := below_step HS.out.2.2.2.2.2 HS.out.2.2.2.2.2.size HO.out.2.1
  have hBw3 := hBw.setCell (p := ⟨g7, 1, none⟩) hgw (.slice a2 d.waits.length c2)
  have hsz3 : w1.heap.size ≤ (w2.setCell ⟨g7, 1, none⟩ (.slice a2 d.waits.length c2)).heap.size := by rw [World.size_setCell]; exact HO.out.2.1.size
  obtain ⟨w3, hw3⟩ : ∃ w3, w2.setCell ⟨g7, 1, none⟩ (.slice a2 d.waits.length c2) = w3 := ⟨_, rfl⟩
  rw [hw3] at hown3 k73 q3 hBw3 hsz3 ⊢
  clear hw3 k0 k1 kf hBw
  have k0 := blk_cell k73 0
  have k1 := blk_cell k73 1
  have kf := blk_frozen k73 1
  simp at k0 k1
  have hone := SrcW.one (W := T) (w := w3) (p := p) hp HD0.out.2.1
  have hownA := hown3.alloc (.cells #[.int .i64 p, .slice av l.length cv] 92)
  have hBA := (Below.refl w3.heap.size w3).alloc (Nat.le_refl _) (.cells #[.int .i64 p, .slice av l.length cv] 92)
  have HO3 := Lib.hid (And.intro hone (And.intro hownA (And.intro k73 (And.intro q3 (And.intro hBw3 (And.intro hBA hgw))))))
  have hl7 := (Array.getElem?_eq_some_iff.1 k73).1
  have hszA : w1.heap.size ≤ (w3.alloc (.cells #[.int .i64 p, .slice av l.length cv] 92)).heap.size := Nat.le_trans hsz3 hBA.size
  clear hone hown3 hownA k73 q3 hBw3 hBA d0 d1 e0 e1 f1
  go_upto_region 4 with (at_builtin; refine wpList_appW rfl (.tmp 18) (.tmp 22) rfl w1.heap.size T _ _ d.waits [⟨p, l⟩] rfl rfl HO3.out.2.1 HO3.out.1 (by simp; omega) hszA ?_; intro a4 c4 w4 hown4 hB4; rw [show (d.waits ++ [(⟨p, l⟩ : WrL)]).length = d.waits.length + 1 by simp] at hown4; have k74 := (hB4.block g7 (Array.getElem?_eq_some_iff.1 HS.out.2.2.1).1).trans ((HO3.out.2.2.2.2.2.1.block g7 hl7).trans HO3.out.2.2.1); have j0 := blk_cell k74 0; have j1 := blk_cell k74 1; have jf := blk_frozen k74 1; simp at j0 j1; have HO4 := Lib.hid (And.intro hown4 (And.intro hB4 k74)); clear hown4 hB4 k74)
  have hBA := HO3.out.2.2.2.2.2.1
  have hB4 := HO4.out.2.1
  have hl71 : g7 < w1.heap.size := (Array.getElem?_eq_some_iff.1 HS.out.2.2.1).1
  have hq1l : w.heap.size + 1 < w1.heap.size := (Array.getElem?_eq_some_iff.1 HS.out.2.2.2.1).1
  have hl31 : w.heap.size + 1 < w3.heap.size := (Array.getElem?_eq_some_iff.1 HO3.out.2.2.2.1).1
  have hg1 : w.heap.size + 1 ≠ g7 := Nat.ne_of_lt n0
  have q4 := (hB4.block (w.heap.size + 1) hq1l).trans ((hBA.block _ hl31).trans HO3.out.2.2.2.1)
  have hgw := HO3.out.2.2.2.2.2.2
  have hBw5 := ((HO3.out.2.2.2.2.1.trans (hBA.mono HO3.out.2.2.2.2.1.size)).trans (hB4.mono (Nat.le_trans hgw (Nat.le_of_lt hl71)))).setCell (p := ⟨g7, 1, none⟩) hgw (.slice a4 (d.waits.length + 1) c4)
  have hown5 := HO4.out.1.set g7 1 (.slice a4 (d.waits.length + 1) c4) hl71
  have k75 := set_block HO4.out.2.2 1 (.slice a4 (d.waits.length + 1) c4)
  have q5 := (set_other w4 g7 1 (.slice a4 (d.waits.length + 1) c4) (w.heap.size + 1) hg1).trans q4
  have hsz5 : w1.heap.size ≤ (w4.setCell ⟨g7, 1, none⟩ (.slice a4 (d.waits.length + 1) c4)).heap.size := by rw [World.size_setCell]; exact Nat.le_trans hszA hB4.size
  obtain ⟨w5, hw5⟩ : ∃ w5, w4.setCell ⟨g7, 1, none⟩ (.slice a4 (d.waits.length + 1) c4) = w5 := ⟨_, rfl⟩
  rw [hw5] at hBw5 hown5 k75 q5 hsz5 ⊢
  have m0 := blk_cell k75 0
  have m1 := blk_cell k75 1
  have r0 := blk_cell q5 0
  have r1 := blk_cell q5 1
  have z0 := blk_frozen q5 0
  have z1 := blk_frozen q5 1
  simp at m0 m1 r0 r1
  have HF := Lib.hid (And.intro hBw5 (And.intro hown5 hsz5))
  clear hBw5 hown5 k75 q5 q4 hsz5 hw5 hBA hB4 j0 j1 jf k0 k1 kf
  go_wp2
  refine bodyPost_ret (v := .agg #[.slice ab d.blocks.length cb, .slice a4 (d.waits.length + 1) c4]) (by simp [results, Try.results79, go_sem, r0, r1]) rfl ?_
  obtain ⟨hBw5, hown5, hsz5⟩ := HF.out
  have hBf := (hBw5.setCell (p := ⟨w.heap.size + 1, 0, none⟩) (Nat.le_succ _) (.slice ab d.blocks.length cb)).setCell (p := ⟨w.heap.size + 1, 1, none⟩) (Nat.le_succ _) (.slice a4 (d.waits.length + 1) c4)
  have hown6 := (hown5.set (w.heap.size + 1) 0 (.slice ab d.blocks.length cb) hq1l).set (w.heap.size + 1) 1 (.slice a4 (d.waits.length + 1) c4) hq1l
  have hww1 : w.heap.size ≤ w1.heap.size := HS.out.2.2.2.2.2.size
  refine ⟨_, _, rfl, fun W hs hcT hk => ?_, hBf⟩
  have hTs : T.heap.size ≤ W.heap.size := Nat.le_trans HD0.out.2.2.2 (Nat.le_trans hBf.size hs)
  exact ⟨(HD0.out.1.1.ck rBytes_ck hcT).more (Nat.le_refl _) hTs, (hown6.same fun k h1 o h2 => (hk k (by omega) (Array.getElem?_eq_some_iff.1 h2).1).trans h2).slC hcT hTs⟩

end Go.Proofs.Ytkfgegdnpinbdaa

namespace Go.Proofs.Ytkfgegdnpinbdaa
open Go.RowKit

set_option linter.unusedSimpArgs false
theorem hide_ckT {z z' : World} {S : Nat → Bool} (h : ∀ k, k < z.heap.size → S k = false → z'.heap[k]? = z.heap[k]?) : CKc (hideW z S) z' :=
  (hideW_ck (S' := fun _ => false) fun k h1 h2 => ⟨rfl, h k h1 h2⟩).trans (hideW_out z' _)
theorem hide_sizeT (w : World) (S : Nat → Bool) : (hideW w S).heap.size = w.heap.size := by simp [hideW]
end Go.Proofs.Ytkfgegdnpinbdaa

