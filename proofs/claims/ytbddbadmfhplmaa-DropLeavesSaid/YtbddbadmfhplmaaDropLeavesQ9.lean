/- DropLeaves: the words and contracts, part 9. -/
import Derived.Test.YtbddbadmfhplmaaDropLeavesQ1
import Derived.Test.YtbddbadmfhplmaaDropLeavesQ2
import Derived.Test.YtbddbadmfhplmaaDropLeavesQ3
import Derived.Test.YtbddbadmfhplmaaDropLeavesQ4
import Derived.Test.YtbddbadmfhplmaaDropLeavesQ5
import Derived.Test.YtbddbadmfhplmaaDropLeavesQ6
import Derived.Test.YtbddbadmfhplmaaDropLeavesQ7
import Derived.Test.YtbddbadmfhplmaaDropLeavesQ8
import Derived.WalkKit
import Derived.WalkLawsBesides
import Derived.WalkSpells
import Derived.Lib.Hide
import Derived.Laws.Rows
import Derived.Laws.AppendOwnNone
import Derived.Maps.AppendAt
import Derived.RangeFuncNested
import Derived.RangeFuncBound
import Derived.RangeFuncCalls
import Derived.RangeFuncLeaves
import Derived.RangeFuncBox
import Derived.Shelf.Abstract
import Derived.Shelf.RegionOpen
import Derived.OwnWalkIn
import Derived.TacticsInMore
import Derived.LoopNIn
import Derived.LoopIn
import Derived.ProofKit
import Derived.Deep.Slices
import Derived.WideShapes
import Derived.OrdersHeld
import Derived.Deep.QuietTactic
import Derived.BigQuiet
import Derived.StillTailTactics
import Derived.OpenShut
import Derived.Lib.SliceRun
import Derived.Lib.AppendZerosOnto
import Derived.Lib.Walk
import Derived.Deep.LoopGhost
import Derived.Laws.CopyOwn
import Derived.Deep.DeepCutAuto
import Derived.Laws.CopyRow
import Derived.Laws.MakeOwn
import Derived.Deep.RegionHeld
import Derived.KernelRfl
import Derived.BigFrameIn
import Derived.OrdersIn
namespace Go.Proofs.Ytbddbadmfhplmaa
open Go.RowKit

theorem ext_getD {α : Type} (l m : List α) (d : α) (hl : l.length = m.length) (h : ∀ j, j < l.length → l.getD j d = m.getD j d) : l = m := by
  apply List.ext_getElem? 
  intro j
  rcases Nat.lt_or_ge j l.length with hj | hj
  · rw [get_l l d j hj, get_l m d j (by omega), h j hj]
  · rw [List.getElem?_eq_none hj, List.getElem?_eq_none (by omega)]

set_option maxRecDepth 100000 in
set_option maxHeartbeats 1000000 in
/-- slices.EqualFunc at slices of slices, by bytes.Equal. -/
theorem eqb_any (v u : Value) (l m : List (List UInt8)) (w : World) (hv : Sl rBytes w 0 w.heap.size v l) (hu : Sl rBytes w 0 w.heap.size u m) :
    Calls Try.prog 58 #[v, u, .func (.func 59) #[] #[]] w fun e w' => e = .returned (.bool (decide (l = m))) ∧ w' = w := by
  have HV := Lib.hid hv
  have HU := Lib.hid hu
  obtain ⟨av, cv, rfl, g1, g2, -, -⟩ := hv
  obtain ⟨au, cu, rfl, g1', g2', -, -⟩ := hu
  unfold maxLen at g2 g2'
  obtain ⟨r, hr⟩ : ∃ r, decide (l = m) = r := ⟨_, rfl⟩
  rw [hr]
  have HR := Lib.hid hr
  clear hr
  go_enter Try.func58, Try.ntmps58
  by_cases hl : l.length = m.length
  case neg =>
    obtain rfl : r = false := by
      rw [← HR.out]
      exact decide_eq_false (fun e => hl (by rw [e]))
    have i1 : ¬ (l.length : Int) = m.length := by omega
    go_wp2
    go_ret
    exact ⟨rfl, rfl⟩
  have i1 : ((l.length : Int) != m.length) = false := by simp; omega
  have HL := Lib.hid hl
  have hlm : l.length ≤ m.length := by omega
  clear hl
  go_wp2_with fail
  go_loopw [17] (fun i wr => ∃ k : Nat, k ≤ l.length ∧ i = .int .i64 k ∧ wr = w ∧ ∀ j, j < k → l.getD j [] = m.getD j []) (fun i _ => l.length - (intOf i).toNat)
  case atStart => exact ⟨0, Nat.zero_le _, rfl, rfl, fun j hj => absurd hj (Nat.not_lt_zero _)⟩
  case round =>
  obtain ⟨k, hk, rfl, rfl, hall⟩ := hrel
  by_cases hlt : k < l.length
  · obtain ⟨b1, o1, c1, e1, -, -, -, z3, hb1⟩ := HV.out.at_ (by omega)
    injection e1 with ea _ ec
    subst ea ec
    obtain ⟨b2, o2, c2, e2, -, -, -, z3', hb2⟩ := HU.out.at_ (by omega)
    injection e2 with ea _ ec
    subst ea ec
    obtain ⟨x, hx, hxb⟩ := hb1 k (l.getD k []) (get_l _ _ _ hlt)
    obtain ⟨y, hy, hyb⟩ := hb2 k (m.getD k []) (get_l _ _ _ (by omega))
    have hx' : wr.cell? ⟨b1, o1 + k, none⟩ = some x := by simpa [rBytes] using hx
    have hy' : wr.cell? ⟨b2, o2 + k, none⟩ = some y := by simpa [rBytes] using hy
    have heq := bequal_any x y _ _ wr _ _ _ _ hxb hyb
    have hkm : k < m.length := by omega
    unfold maxLen at z3 z3'
    have HP := Lib.hid (And.intro heq hall)
    clear heq hall hx hy hxb hyb hb1 hb2
    go_wp2_with fail
    refine HP.out.1.mono ?_
    rintro e w1 ⟨rfl, rfl⟩
    by_cases he : l.getD k [] = m.getD k []
    · rw [decide_eq_true he]
      have HE := Lib.hid he
      clear he
      go_wp2
      go_roundw
      case rel => exact ⟨k + 1, by omega, by go_num, trivial, fun j hj => by
        rcases Nat.lt_succ_iff_lt_or_eq.1 hj with hj | rfl
        · exact HP.out.2 j hj
        · exact HE.out⟩
      case measure => simp [intOf]; omega
    · rw [decide_eq_false he]
      obtain rfl : r = false := by
        rw [← HR.out]
        exact decide_eq_false (fun e => he (by rw [e]))
      clear he
      go_wp2
      go_ret
      exact ⟨rfl, rfl⟩
  obtain rfl : k = l.length := by omega
  obtain rfl : r = true := by
    rw [← HR.out]
    exact decide_eq_true (ext_getD l m [] HL.out hall)
  clear hall
  go_wp2
  go_ret
  exact ⟨rfl, rfl⟩

set_option maxRecDepth 100000 in
set_option maxHeartbeats 1000000 in
/-- The comparing of two writes. -/
theorem eqw1_any (p q : Int) (v u : Value) (l m : List UInt8) (w : World) (hv : Bytes w 0 w.heap.size v l) (hu : Bytes w 0 w.heap.size u m) :
    Calls Try.prog 61 #[.agg #[.int .i64 p, v], .agg #[.int .i64 q, u]] w fun e w' => e = .returned (.bool (decide ((⟨p, l⟩ : WrL) = ⟨q, m⟩))) ∧ Below w.heap.size w w' := by
  have hB := ((Below.refl w.heap.size w).alloc (Nat.le_refl _) (.cells #[.int .i64 p, v] 92)).alloc (by simp) (.cells #[.int .i64 q, u] 92)
  have hq := two_new w (.cells #[.int .i64 p, v] 92) (.cells #[.int .i64 q, u] 92)
  have hv0 := hv.step hB
  have hu0 := hu.step hB
  obtain ⟨av, cv, rfl, -, -⟩ := hv.form rfl
  obtain ⟨au, cu, rfl, -, -⟩ := hu.form rfl
  clear hv hu
  obtain ⟨W, hW⟩ : ∃ W, (w.alloc (.cells #[.int .i64 p, .slice av l.length cv] 92)).alloc (.cells #[.int .i64 q, .slice au m.length cu] 92) = W := ⟨_, rfl⟩
  rw [hW] at hB hq hv0 hu0
  have c0 := blk_cell hq.1 0
  have c1 := blk_cell hq.1 1
  have d0 := blk_cell hq.2 0
  have d1 := blk_cell hq.2 1
  simp at c0 c1 d0 d1
  obtain ⟨r, hr⟩ : ∃ r, decide ((⟨p, l⟩ : WrL) = ⟨q, m⟩) = r := ⟨_, rfl⟩
  rw [hr]
  have HR := Lib.hid hr
  have HP := Lib.hid (And.intro (bequal_any _ _ _ _ W _ _ _ _ hv0 hu0) hB)
  clear hr hq hv0 hu0 hB
  go_enter Try.func61, Try.ntmps61
  by_cases hpq : p = q
  case neg =>
    obtain rfl : r = false := by
      rw [← HR.out]
      exact decide_eq_false (fun e => hpq (congrArg WrL.at_ e))
    have i1 : (p == q) = false := by simp [hpq]
    clear hpq
    go_wp2
    go_ret
    exact ⟨rfl, HP.out.2⟩
  subst hpq
  have hr2 : r = decide (l = m) := by
    rw [← HR.out]
    by_cases e : l = m
    · subst e; rw [decide_eq_true rfl, decide_eq_true rfl]
    · rw [decide_eq_false e]
      exact decide_eq_false (fun h => e (congrArg WrL.data h))
  have HR2 := Lib.hid hr2
  clear hr2
  go_wp2_with fail
  refine HP.out.1.mono ?_
  rintro e w1 ⟨rfl, rfl⟩
  rw [← HR2.out]
  go_wp2
  go_ret
  exact ⟨rfl, HP.out.2⟩

set_option maxRecDepth 100000 in
set_option maxHeartbeats 1000000 in
/-- slices.EqualFunc at writes. -/
theorem eqw_any (v u : Value) (l m : List WrL) (w : World) (hv : Sl rWrite w 0 w.heap.size v l) (hu : Sl rWrite w 0 w.heap.size u m) :
    Calls Try.prog 60 #[v, u, .func (.func 61) #[] #[]] w fun e w' => e = .returned (.bool (decide (l = m))) ∧ Below w.heap.size w w' := by
  have HV := Lib.hid hv
  have HU := Lib.hid hu
  obtain ⟨av, cv, rfl, g1, g2, -, -⟩ := hv
  obtain ⟨au, cu, rfl, g1', g2', -, -⟩ := hu
  unfold maxLen at g2 g2'
  obtain ⟨r, hr⟩ : ∃ r, decide (l = m) = r := ⟨_, rfl⟩
  rw [hr]
  have HR := Lib.hid hr
  clear hr
  go_enter Try.func60, Try.ntmps60
  by_cases hl : l.length = m.length
  case neg =>
    obtain rfl : r = false := by
      rw [← HR.out]
      exact decide_eq_false (fun e => hl (by rw [e]))
    have i1 : ¬ (l.length : Int) = m.length := by omega
    go_wp2
    go_ret
    exact ⟨rfl, Below.refl _ _⟩
  have i1 : ((l.length : Int) != m.length) = false := by simp; omega
  have HL := Lib.hid hl
  have hlm : l.length ≤ m.length := by omega
  clear hl
  go_wp2_with fail
  go_loopw [17] (fun i wr => ∃ k : Nat, k ≤ l.length ∧ i = .int .i64 k ∧ Below w.heap.size w wr ∧ ∀ j, j < k → l.getD j ⟨0, []⟩ = m.getD j ⟨0, []⟩) (fun i _ => l.length - (intOf i).toNat)
  case atStart => exact ⟨0, Nat.zero_le _, rfl, Below.refl _ _, fun j hj => absurd hj (Nat.not_lt_zero _)⟩
  case round =>
  obtain ⟨k, hk, rfl, hB, hall⟩ := hrel
  by_cases hlt : k < l.length
  · obtain ⟨b1, o1, c1, e1, -, hz1, -, z3, hb1⟩ := HV.out.at_ (by omega)
    injection e1 with ea _ ec
    subst ea ec
    obtain ⟨b2, o2, c2, e2, -, hz2, -, z3', hb2⟩ := HU.out.at_ (by omega)
    injection e2 with ea _ ec
    subst ea ec
    obtain ⟨f0, -, x, f1, hxb⟩ := hb1 k (l.getD k ⟨0, []⟩) (get_l _ _ _ hlt)
    obtain ⟨h0, -, y, h1, hyb⟩ := hb2 k (m.getD k ⟨0, []⟩) (get_l _ _ _ (by omega))
    obtain ⟨X, hX⟩ : ∃ X, l.getD k ⟨0, []⟩ = X := ⟨_, rfl⟩
    obtain ⟨Y, hY⟩ : ∃ Y, m.getD k ⟨0, []⟩ = Y := ⟨_, rfl⟩
    rw [hX] at f0 hxb
    rw [hY] at h0 hyb
    obtain ⟨p, dp⟩ := X
    obtain ⟨q, dq⟩ := Y
    simp [rWrite] at f0 f1 h0 h1
    obtain ⟨a1, k1, rfl, -, -⟩ := hxb.form rfl
    obtain ⟨a2, k2, rfl, -, -⟩ := hyb.form rfl
    have hz1b := Nat.lt_of_lt_of_le hz1 hB.size
    have hz2b := Nat.lt_of_lt_of_le hz2 hB.size
    replace f0 := (hB.cell (p := ⟨b1, o1 + k * 2, none⟩) hz1).trans f0
    replace f1 := (hB.cell (p := ⟨b1, o1 + k * 2 + 1, none⟩) hz1).trans f1
    replace h0 := (hB.cell (p := ⟨b2, o2 + k * 2, none⟩) hz2).trans h0
    replace h1 := (hB.cell (p := ⟨b2, o2 + k * 2 + 1, none⟩) hz2).trans h1
    have hkm : k < m.length := by omega
    unfold maxLen at z3 z3'
    simp only at hxb hyb
    have hxb' := hxb.below hB (Nat.le_refl _)
    have hyb' := hyb.below hB (Nat.le_refl _)
    have HP := Lib.hid (And.intro hall (And.intro hB (And.intro hxb' (And.intro hyb' (And.intro hX hY)))))
    clear hall hB hxb hyb hxb' hyb' hX hY hb1 hb2
    go_upto_region 7 with (fail)
    have hq := two_new wr (.cells #[.int .i64 p, .slice a1 dp.length k1] 92) (.cells #[.int .i64 q, .slice a2 dq.length k2] 92)
    have hst := ((Below.refl wr.heap.size wr).alloc (Nat.le_refl _) (.cells #[.int .i64 p, .slice a1 dp.length k1] 92)).alloc (by simp) (.cells #[.int .i64 q, .slice a2 dq.length k2] 92)
    obtain ⟨w2, hw2⟩ : ∃ w2, (wr.alloc (.cells #[.int .i64 p, .slice a1 dp.length k1] 92)).alloc (.cells #[.int .i64 q, .slice a2 dq.length k2] 92) = w2 := ⟨_, rfl⟩
    rw [hw2] at hq hst ⊢
    clear hw2
    have hB2 := Lib.hid (below_step HP.out.2.1 HP.out.2.1.size hst)
    have hX2 := Lib.hid (((HP.out.2.2.1.below hst HP.out.2.1.size)).more (Nat.le_refl 0) (hB2.out.size))
    have hY2 := Lib.hid (((HP.out.2.2.2.1.below hst HP.out.2.1.size)).more (Nat.le_refl 0) (hB2.out.size))
    clear hst
    generalize wr.heap.size = gx at *
    have x0 := blk_cell hq.1 0
    have x1 := blk_cell hq.1 1
    have x2 := blk_cell hq.2 0
    have x3 := blk_cell hq.2 1
    simp at x0 x1 x2 x3
    go_wp2_with fail
    refine (eqw1_any p q _ _ dp dq w2 hX2.out hY2.out).mono ?_
    rintro e w3 ⟨rfl, hst3⟩
    have hfin := below_step hB2.out hB2.out.size hst3
    clear hst3 x0 x1 x2 x3
    by_cases he : (⟨p, dp⟩ : WrL) = ⟨q, dq⟩
    · rw [decide_eq_true he]
      have HE := Lib.hid (show l.getD k ⟨0, []⟩ = m.getD k ⟨0, []⟩ by rw [HP.out.2.2.2.2.1, HP.out.2.2.2.2.2, he])
      clear he
      go_wp2
      go_roundw
      case rel => exact ⟨k + 1, by omega, by go_num, hfin, fun j hj => by
        rcases Nat.lt_succ_iff_lt_or_eq.1 hj with hj | rfl
        · exact HP.out.1 j hj
        · exact HE.out⟩
      case measure => simp [intOf]; omega
    · rw [decide_eq_false he]
      obtain rfl : r = false := by
        rw [← HR.out]
        exact decide_eq_false (fun e => he (by rw [← HP.out.2.2.2.2.1, ← HP.out.2.2.2.2.2, e]))
      clear he
      go_wp2
      go_ret
      exact ⟨rfl, hfin⟩
  obtain rfl : k = l.length := by omega
  obtain rfl : r = true := by
    rw [← HR.out]
    exact decide_eq_true (ext_getD l m ⟨0, []⟩ HL.out hall)
  clear hall
  go_wp2
  go_ret
  exact ⟨rfl, hB⟩

set_option maxRecDepth 100000 in
set_option maxHeartbeats 1000000 in
/-- dev.Same. -/
theorem dsame_any (b u b' u' : Value) (d d' : DiskL) (w : World) (h : DiskV w 0 w.heap.size b u d) (h' : DiskV w 0 w.heap.size b' u' d') :
    Calls Try.prog 22 #[.agg #[b, u], .agg #[b', u']] w fun e w' => e = .returned (.bool (decide (d = d'))) ∧ Below w.heap.size w w' := by
  have hB := ((Below.refl w.heap.size w).alloc (Nat.le_refl _) (.cells #[b, u] 25)).alloc (by simp) (.cells #[b', u'] 25)
  have hq := two_new w (.cells #[b, u] 25) (.cells #[b', u'] 25)
  have hD : DiskV _ 0 _ b u d := h.step hB
  have hD' : DiskV _ 0 _ b' u' d' := h'.step hB
  obtain ⟨ab, cb, rfl, -, -, -, -⟩ := h.1
  obtain ⟨au, cu, rfl, -, -, -, -⟩ := h.2
  obtain ⟨ab', cb', rfl, -, -, -, -⟩ := h'.1
  obtain ⟨au', cu', rfl, -, -, -, -⟩ := h'.2
  clear h h'
  obtain ⟨W, hW⟩ : ∃ W, (w.alloc (.cells #[.slice ab d.blocks.length cb, .slice au d.waits.length cu] 25)).alloc (.cells #[.slice ab' d'.blocks.length cb', .slice au' d'.waits.length cu'] 25) = W := ⟨_, rfl⟩
  rw [hW] at hB hq hD hD'
  have c0 := blk_cell hq.1 0
  have c1 := blk_cell hq.1 1
  have d0 := blk_cell hq.2 0
  have d1 := blk_cell hq.2 1
  simp at c0 c1 d0 d1
  obtain ⟨r, hr⟩ : ∃ r, decide (d = d') = r := ⟨_, rfl⟩
  rw [hr]
  have HR := Lib.hid (show r = (decide (d.blocks = d'.blocks) && decide (d.waits = d'.waits)) by
    rw [← hr]
    obtain ⟨x, y⟩ := d
    obtain ⟨x', y'⟩ := d'
    by_cases h1 : x = x' <;> by_cases h2 : y = y' <;> simp [h1, h2])
  have HP := Lib.hid (And.intro (eqb_any _ _ _ _ W hD.1 hD'.1) (And.intro (eqw_any _ _ _ _ W hD.2 hD'.2) hB))
  clear hr hq hD hD' hB
  go_enter Try.func22, Try.ntmps22
  go_wp2_with fail
  refine HP.out.1.mono ?_
  rintro e w1 ⟨rfl, rfl⟩
  by_cases he : d.blocks = d'.blocks
  case neg =>
    rw [decide_eq_false he]
    obtain rfl : r = false := by rw [HR.out, decide_eq_false he]; rfl
    clear he
    go_wp2
    go_ret
    exact ⟨rfl, HP.out.2.2⟩
  rw [decide_eq_true he]
  have HR2 := Lib.hid (show r = decide (d.waits = d'.waits) by rw [HR.out, decide_eq_true he]; rfl)
  clear he
  go_wp2_with fail
  refine HP.out.2.1.mono ?_
  rintro e w2 ⟨rfl, hst⟩
  rw [← HR2.out]
  have hfin := below_step HP.out.2.2 HP.out.2.2.size hst
  go_wp2
  go_ret
  exact ⟨rfl, hfin⟩
end Go.Proofs.Ytbddbadmfhplmaa

namespace Go.Proofs.Ytbddbadmfhplmaa
open Go.RowKit

/-- A store that is not great. -/
def SmallS (s : StoreL) : Prop := (s.disk.blocks.length ≤ 300 ∧ s.disk.waits.length ≤ 5000 ∧ (datD s.disk).flatten.length ≤ 800000) ∧ s.now.length ≤ 10000 ∧ s.last.length ≤ 10000
set_option maxRecDepth 100000 in
set_option maxHeartbeats 1000000 in
theorem great8_any (b_s u_s x_s y_s : Value) (s : StoreL) (w : World) (h_s : StoreV w 0 w.heap.size b_s u_s x_s y_s s) :
    Calls Try.prog 16 #[.agg #[b_s, u_s, x_s, y_s]] w fun e w' => ∃ g, e = .returned (.bool g) ∧ Below w.heap.size w w' ∧ (g = false → SmallS s) := by
  obtain ⟨ab_s, cb_s, rfl, gb_s, gc_s, -, -⟩ := h_s.1.1
  obtain ⟨au_s, cu_s, rfl, gu_s, gv_s, -, -⟩ := h_s.1.2
  obtain ⟨ax_s, cx_s, rfl, gx_s, gz_s⟩ := h_s.2.1.form rfl
  obtain ⟨ay_s, cy_s, rfl, gy_s, gw_s⟩ := h_s.2.2.form rfl
  unfold maxLen at gc_s gv_s gz_s gw_s
  have hst := ((Below.refl w.heap.size w).alloc (Nat.le_refl _) (.cells #[.slice ab_s s.disk.blocks.length cb_s, .slice au_s s.disk.waits.length cu_s, .slice ax_s s.now.length cx_s, .slice ay_s s.last.length cy_s] 28))
  have q_s := LK.new w (.cells #[.slice ab_s s.disk.blocks.length cb_s, .slice au_s s.disk.waits.length cu_s, .slice ax_s s.now.length cx_s, .slice ay_s s.last.length cy_s] 28)
  have hB : LW w _ := hst
  have O_s := (LO.of h_s (Nat.le_refl _)).step hst
  have sz_V : w.heap.size + 0 < (w.alloc (.cells #[.slice ab_s s.disk.blocks.length cb_s, .slice au_s s.disk.waits.length cu_s, .slice ax_s s.now.length cx_s, .slice ay_s s.last.length cy_s] 28)).heap.size := by simp
  obtain ⟨V, hV⟩ : ∃ V, (w.alloc (.cells #[.slice ab_s s.disk.blocks.length cb_s, .slice au_s s.disk.waits.length cu_s, .slice ax_s s.now.length cx_s, .slice ay_s s.last.length cy_s] 28)) = V := ⟨_, rfl⟩
  rw [hV] at sz_V q_s O_s hB
  clear hst h_s
  have HQ := Lib.hid (And.intro q_s (And.intro O_s hB))
  clear q_s O_s hB
  have c_q_s0 := LK.cell HQ.out.1 0
  have c_q_s1 := LK.cell HQ.out.1 1
  have c_q_s2 := LK.cell HQ.out.1 2
  have c_q_s3 := LK.cell HQ.out.1 3
  simp at c_q_s0 c_q_s1 c_q_s2 c_q_s3
  have k_g := fun V b u hh => great_any b u s.disk V hh
  have HC := Lib.hid (k_g)
  clear k_g
  go_enter Try.func16, Try.ntmps16
  go_upto_region 1 with (fail)
  clear hV
  go_wp2_with fail
  refine (HC.out _ _ _ HQ.out.2.1.d).mono ?_
  rintro e w1 ⟨g, rfl, hst, hg⟩
  clear c_q_s0 c_q_s1 c_q_s2 c_q_s3
  obtain ⟨q_s, O_s, hB⟩ := HQ.out
  clear HQ
  have sz_w1 : V.heap.size ≤ w1.heap.size := hst.size
  replace q_s := q_s.step hst
  replace O_s := O_s.step hst
  replace hB := hB.step hst
  clear hst
  have HQ := Lib.hid (And.intro q_s (And.intro O_s hB))
  clear q_s O_s hB
  have c_q_s0 := LK.cell HQ.out.1 0
  have c_q_s1 := LK.cell HQ.out.1 1
  have c_q_s2 := LK.cell HQ.out.1 2
  have c_q_s3 := LK.cell HQ.out.1 3
  simp at c_q_s0 c_q_s1 c_q_s2 c_q_s3
  cases g
  case true =>
    go_wp2
    go_ret
    exact ⟨true, rfl, HQ.out.2.2, fun h => by cases h⟩
  have hg := hg rfl
  have HG := Lib.hid hg
  clear hg
  by_cases h1 : 10000 < s.now.length
  · have i1 : (10000 : Int) < s.now.length := by omega
    go_wp2
    go_ret
    exact ⟨true, rfl, HQ.out.2.2, fun h => by cases h⟩
  have i1 : decide ((10000 : Int) < s.now.length) = false := by simp; omega
  by_cases h2 : 10000 < s.last.length
  · have i2 : (10000 : Int) < s.last.length := by omega
    go_wp2
    go_ret
    exact ⟨true, rfl, HQ.out.2.2, fun h => by cases h⟩
  have i2 : decide ((10000 : Int) < s.last.length) = false := by simp; omega
  go_wp2
  go_ret
  exact ⟨false, rfl, HQ.out.2.2, fun _ => ⟨HG.out, by omega, by omega⟩⟩

theorem errAs_cases (s : StoreL) (p : Int) : (errS s = 8 ∧ errAs s p = 8) ∨ (errS s = 0 ∧ mayS s = true ∧ ((p < 8 ∧ errAs s p = 2) ∨ (256 ≤ p ∧ errAs s p = 2) ∨
    ∃ pn : Nat, p = pn ∧ 8 ≤ pn ∧ pn < 256 ∧ ((s.now.getD pn 0 = 0 ∧ errAs s p = 6) ∨ (s.now.getD pn 0 ≠ 0 ∧ errAs s p = 0)))) := by
  unfold errS errAs
  cases hm : mayS s with
  | false => exact .inl ⟨rfl, rfl⟩
  | true =>
    refine .inr ⟨rfl, rfl, ?_⟩
    rw [if_pos rfl]
    by_cases h1 : p < 8
    · exact .inl ⟨h1, by rw [if_pos (.inl h1)]⟩
    by_cases h2 : 256 ≤ p
    · exact .inr (.inl ⟨h2, by rw [if_pos (.inr h2)]⟩)
    obtain ⟨pn, rfl⟩ : ∃ pn : Nat, p = pn := ⟨p.toNat, by omega⟩
    refine .inr (.inr ⟨pn, rfl, by omega, by omega, ?_⟩)
    rw [if_neg (by omega), Int.toNat_natCast]
    by_cases h3 : s.now.getD pn 0 = 0
    · exact .inl ⟨h3, by rw [if_pos h3]⟩
    · exact .inr ⟨h3, by rw [if_neg h3]⟩
theorem u8_nz {x : UInt8} (h : x ≠ 0) : ¬ (x.toNat : Int) = 0 := fun e => h (u8_inj (by show x.toNat = 0; omega))

def newS : StoreL := ⟨newD, List.replicate 256 0, List.replicate 256 0⟩

set_option maxRecDepth 100000 in
set_option maxHeartbeats 1000000 in
theorem snew_any  (w : World)  :
    Calls Try.prog 24 #[] w fun e w' => ∃ b u x y, e = .returned (.agg #[b, u, x, y]) ∧ MadeS w w' b u x y newS := by
  have hst := ((Below.refl w.heap.size w).alloc (Nat.le_refl _) (.cells #[.slice none 0 0, .slice none 0 0, .slice none 0 0, .slice none 0 0] 28))
  have q_r := LK.new w (.cells #[.slice none 0 0, .slice none 0 0, .slice none 0 0, .slice none 0 0] 28)
  have hB : LW w _ := hst
  have sz_V : w.heap.size + 0 < (w.alloc (.cells #[.slice none 0 0, .slice none 0 0, .slice none 0 0, .slice none 0 0] 28)).heap.size := by simp
  obtain ⟨V, hV⟩ : ∃ V, (w.alloc (.cells #[.slice none 0 0, .slice none 0 0, .slice none 0 0, .slice none 0 0] 28)) = V := ⟨_, rfl⟩
  rw [hV] at sz_V q_r hB
  clear hst 
  have HQ := Lib.hid (And.intro q_r hB)
  clear q_r hB
  have c_q_r0 := LK.cell HQ.out.1 0
  have c_q_r1 := LK.cell HQ.out.1 1
  have c_q_r2 := LK.cell HQ.out.1 2
  have c_q_r3 := LK.cell HQ.out.1 3
  simp at c_q_r0 c_q_r1 c_q_r2 c_q_r3
  obtain ⟨dn, hdn⟩ : ∃ d, newD = d := ⟨_, rfl⟩
  obtain ⟨R, hR⟩ : ∃ R, List.replicate 256 (0 : UInt8) = R := ⟨_, rfl⟩
  have k_d := fun V => dnew_any V
  have k_n := fun V => cnew_any V
  rw [hdn] at k_d
  rw [hR] at k_n
  have hs : newS = ⟨dn, R, R⟩ := by rw [← hdn, ← hR]; rfl
  rw [hs]
  have hdw : dn.waits.length = 0 := by rw [← hdn]; rfl
  have HDW := Lib.hid hdw
  clear hs hdn hR hdw
  have HC := Lib.hid (And.intro k_d k_n)
  clear k_d k_n
  go_enter Try.func24, Try.ntmps24
  go_upto_region 1 with (fail)
  clear hV
  go_wp2_with fail
  refine (HC.out.1 _).mono ?_
  rintro e w1 ⟨b1, rfl, hm⟩
  clear c_q_r0 c_q_r1 c_q_r2 c_q_r3
  obtain ⟨q_r, hB⟩ := HQ.out
  clear HQ
  have D_d := LT.of hm
  have hst := hm.below
  obtain ⟨ab_r, cb_r, rfl, -, -, -, -⟩ := hm.v0.1
  clear hm
  have sz_w1 : V.heap.size ≤ w1.heap.size := hst.size
  replace q_r := q_r.step hst
  replace hB := hB.step hst
  clear hst
  have HQ := Lib.hid (And.intro q_r (And.intro D_d hB))
  clear q_r D_d hB
  have c_q_r0 := LK.cell HQ.out.1 0
  have c_q_r1 := LK.cell HQ.out.1 1
  have c_q_r2 := LK.cell HQ.out.1 2
  have c_q_r3 := LK.cell HQ.out.1 3
  simp at c_q_r0 c_q_r1 c_q_r2 c_q_r3
  go_wp2_with fail
  refine (HC.out.2 _).mono ?_
  rintro e w2 ⟨v1, rfl, hm⟩
  clear c_q_r0 c_q_r1 c_q_r2 c_q_r3
  obtain ⟨q_r, D_d, hB⟩ := HQ.out
  clear HQ
  have B_n := LM.of hm
  have hst := hm.below
  obtain ⟨a_n, c_n, rfl, -, -⟩ := hm.bytes.form rfl
  clear hm
  have sz_w2 : w1.heap.size ≤ w2.heap.size := hst.size
  replace q_r := q_r.step hst
  replace D_d := D_d.step hst
  replace hB := hB.step hst
  clear hst
  have HQ := Lib.hid (And.intro q_r (And.intro D_d (And.intro B_n hB)))
  clear q_r D_d B_n hB
  have c_q_r0 := LK.cell HQ.out.1 0
  have c_q_r1 := LK.cell HQ.out.1 1
  have c_q_r2 := LK.cell HQ.out.1 2
  have c_q_r3 := LK.cell HQ.out.1 3
  simp at c_q_r0 c_q_r1 c_q_r2 c_q_r3
  go_wp2_with fail
  refine (HC.out.2 _).mono ?_
  rintro e w3 ⟨v2, rfl, hm⟩
  clear c_q_r0 c_q_r1 c_q_r2 c_q_r3
  obtain ⟨q_r, D_d, B_n, hB⟩ := HQ.out
  clear HQ
  have B_l := LM.of hm
  have hst := hm.below
  obtain ⟨a_l, c_l, rfl, -, -⟩ := hm.bytes.form rfl
  clear hm
  have sz_w3 : w2.heap.size ≤ w3.heap.size := hst.size
  replace q_r := q_r.step hst
  replace D_d := D_d.step hst
  replace B_n := B_n.step hst
  replace hB := hB.step hst
  clear hst
  have HQ := Lib.hid (And.intro q_r (And.intro D_d (And.intro B_n (And.intro B_l hB))))
  clear q_r D_d B_n B_l hB
  have c_q_r0 := LK.cell HQ.out.1 0
  have c_q_r1 := LK.cell HQ.out.1 1
  have c_q_r2 := LK.cell HQ.out.1 2
  have c_q_r3 := LK.cell HQ.out.1 3
  have z_q_r0 := LK.frozen HQ.out.1 0
  have z_q_r1 := LK.frozen HQ.out.1 1
  have z_q_r2 := LK.frozen HQ.out.1 2
  have z_q_r3 := LK.frozen HQ.out.1 3
  simp at c_q_r0 c_q_r1 c_q_r2 c_q_r3
  go_wp2
  refine bodyPost_ret (v := .agg #[.slice ab_r dn.blocks.length cb_r, .slice none 0 0, .slice a_n R.length c_n, .slice a_l R.length c_l]) (by simp [results, Try.results24, go_sem, c_q_r0, c_q_r1, c_q_r2, c_q_r3]) rfl ⟨_, _, _, _, rfl, ?_⟩
  have hL : MadeL w w3 (w.heap.size + 1) _ _ _ _ ⟨dn, R, R⟩ := ⟨⟨DiskT.more HQ.out.2.1.t (by omega) (Lv.hi_le HQ.out.2.1), ⟨HQ.out.2.2.1.m.1.more (by omega) (Lv.hi_le HQ.out.2.2.1), HQ.out.2.2.1.m.2⟩, ⟨HQ.out.2.2.2.1.m.1.more (by omega) (Lv.hi_le HQ.out.2.2.2.1), HQ.out.2.2.2.1.m.2⟩⟩, HQ.out.2.2.2.2⟩
  exact (hL.four w.heap.size _ _ _ _ (Nat.le_refl _) (Nat.lt_succ_self _)).made (Nat.le_succ _)

end Go.Proofs.Ytbddbadmfhplmaa

namespace Go.Proofs.Ytbddbadmfhplmaa
open Go.RowKit

section
variable {F : Fence} {n : Nat} {P : Program} {ops : Array Oper} {Q : Exit → Act → World → Prop} {md : Region.Mode}

/-- The operations but z. -/
def OpsQ (F : Fence) (n : Nat) (P : Program) (ops : Array Oper) (Q : Exit → Act → World → Prop) (z : Nat) (deps : Nat → List Nat) (f : Nat → Value → Value → Prop) (Gz : Value → World → Prop) (W0 : World) (is : List Nat) (a0 : Act) (l : List Nat) : Prop :=
  ∀ i ∈ l, i ≠ z → ∀ o, ops[i]? = some o → ∀ (vs : Nat → Value) (W : World), (∀ j ∈ deps i, j ≠ z → f j (vs j) (vs z)) → ((deps i).contains z = true → Gz (vs z) W) → ((deps i).contains z = false → W = W0) → ∀ K : Act → World → Prop,
    (∀ v, f i v (vs z) → K ((putAll ops vs is a0).put o.dst v) W) →
    if Region.wanted o (yielded ops (putAll ops vs is a0).tmps) = true then Oper.wpIn F n P o (putAll ops vs is a0) W K Q else (∀ g, o.about P W (putAll ops vs is a0).eval = some g → F.fn g) ∧ K ((putAll ops vs is a0).put o.dst undef) W
theorem OpsQ.nil {z : Nat} {deps : Nat → List Nat} {f : Nat → Value → Value → Prop} {Gz : Value → World → Prop} {W0 : World} {is : List Nat} {a0 : Act} : OpsQ F n P ops Q z deps f Gz W0 is a0 [] := fun _ h => by cases h
/-- It is the same for each. -/
theorem OpsQ.cons {z : Nat} {deps : Nat → List Nat} {f : Nat → Value → Value → Prop} {Gz : Value → World → Prop} {W0 : World} {is : List Nat} {a0 : Act} {i : Nat} {l : List Nat} (o : Oper) (ho : ops[i]? = some o)
    (h : ∀ (vs : Nat → Value) (W : World), (∀ j ∈ deps i, j ≠ z → f j (vs j) (vs z)) → ((deps i).contains z = true → Gz (vs z) W) → ((deps i).contains z = false → W = W0) → ∀ K : Act → World → Prop,
      (∀ v, f i v (vs z) → K ((putAll ops vs is a0).put o.dst v) W) →
      if Region.wanted o (yielded ops (putAll ops vs is a0).tmps) = true then Oper.wpIn F n P o (putAll ops vs is a0) W K Q else (∀ g, o.about P W (putAll ops vs is a0).eval = some g → F.fn g) ∧ K ((putAll ops vs is a0).put o.dst undef) W)
    (hs : OpsQ F n P ops Q z deps f Gz W0 is a0 l) : OpsQ F n P ops Q z deps f Gz W0 is a0 (i :: l) := fun j hj hne o' ho' => by
  rcases List.mem_cons.1 hj with rfl | hj
  · rw [ho] at ho'; cases ho'; exact h
  · exact hs j hj hne o' ho'
theorem OpsQ.skip {z : Nat} {deps : Nat → List Nat} {f : Nat → Value → Value → Prop} {Gz : Value → World → Prop} {W0 : World} {is : List Nat} {a0 : Act} {l : List Nat}
    (hs : OpsQ F n P ops Q z deps f Gz W0 is a0 l) : OpsQ F n P ops Q z deps f Gz W0 is a0 (z :: l) := fun j hj hne o' ho' => by
  rcases List.mem_cons.1 hj with rfl | hj
  · exact absurd rfl hne
  · exact hs j hj hne o' ho'

end
end Go.Proofs.Ytbddbadmfhplmaa

namespace Go.Proofs.Ytbddbadmfhplmaa
open Go.RowKit Go.Shelf
attribute [local go_sem] Oper.semAt_some

theorem or_u8 (a b : UInt8) : bits .or .u8 (a.toNat : Int) (b.toNat : Int) = ((a ||| b).toNat : Int) := by
  simp only [bits, IntKind.bits]
  rw [BitVec.ofInt_natCast, BitVec.ofInt_natCast]
  have ha := a.toNat_lt
  have hb := b.toNat_lt
  rw [IntKind.wrap_u8]
  have e : ((BitVec.ofNat 8 a.toNat ||| BitVec.ofNat 8 b.toNat).toNat) = (a ||| b).toNat := by
    rw [BitVec.toNat_or, BitVec.toNat_ofNat, BitVec.toNat_ofNat, UInt8.toNat_or, Nat.mod_eq_of_lt ha, Nat.mod_eq_of_lt hb]
  have h2 := (a ||| b).toNat_lt
  show (((BitVec.ofNat 8 a.toNat ||| BitVec.ofNat 8 b.toNat).toNat : Nat) : Int) % 256 = _
  rw [e]
  omega
theorem or_zero_iff (a b : UInt8) : (a ||| b).toNat = 0 ↔ a = 0 ∧ b = 0 := by
  rw [UInt8.toNat_or]
  constructor
  · intro h
    have h1 := Nat.left_le_or (n := a.toNat) (m := b.toNat)
    have h2 := Nat.right_le_or (n := a.toNat) (m := b.toNat)
    exact ⟨u8_inj (by show a.toNat = 0; omega), u8_inj (by show b.toNat = 0; omega)⟩
  · rintro ⟨rfl, rfl⟩
    rfl

/-- What the rounds must keep: all below n0, and the block Bs. -/
def KeepF (n₀ Bs : Nat) (A B : World) : Prop := Below n₀ A B ∧ B.heap[Bs]? = A.heap[Bs]?
theorem KeepF.refl (n₀ Bs : Nat) (A : World) : KeepF n₀ Bs A A := ⟨Below.refl _ _, rfl⟩
theorem KeepF.trans {n₀ Bs : Nat} {A B C : World} (h : KeepF n₀ Bs A B) (k : KeepF n₀ Bs B C) : KeepF n₀ Bs A C := ⟨h.1.trans k.1, k.2.trans h.2⟩
def encF (x : Fin 256) : Array Value := #[.int .i64 (x.1 : Int)]

end Go.Proofs.Ytbddbadmfhplmaa

namespace Go.Proofs.Ytbddbadmfhplmaa
open Go.RowKit Go.Shelf
attribute [local go_sem] Oper.semAt_some encF

theorem ownsRow_grown {W W' : World} {base : Nat} {e : TypeId} {size n : Nat} {v : Value} {xs : List Value} {row : Option Nat} (h : W.ownsRow base e size v n xs) (hg : W.grownBy W' row) (hr : ∀ r, row = some r → ∃ o : Obj, W.heap[r]? = some o ∧ o.isCells = false) : W'.ownsRow base e size v n xs := by
  refine h.kept hg ?_
  rcases h.2 with ⟨rfl, _⟩ | ⟨g, cap, cur, rfl, _, hgb, _⟩
  · exact .inl rfl
  · refine .inr fun e' => ?_
    obtain ⟨o, ho, hc⟩ := hr g e'.symm
    rw [hgb] at ho
    cases ho
    cases hc
theorem hidp {p : Prop} (h : Hid p) : p := h.out
end Go.Proofs.Ytbddbadmfhplmaa

namespace Go.Proofs.Ytbddbadmfhplmaa
open Go.RowKit Go.Shelf
attribute [local go_sem] Oper.semAt_some encF

theorem StoreT.ck {w w' : World} {lo : Nat} {b u x y : Value} {s : StoreL} (h : StoreT w lo w.heap.size b u x y s) (hc : CKc w w') (hs : w.heap.size ≤ w'.heap.size) : StoreT w' lo w'.heap.size b u x y s :=
  StoreT.more (w := w') (lo := lo) (hi := w.heap.size) ⟨⟨Sl.ck rBytesT_ck h.1.1 hc, Sl.ck rWriteT_ck h.1.2 hc⟩, ⟨h.2.1.1.ck hc, thawed_ck hc h.2.1.1 h.2.1.2⟩, ⟨h.2.2.1.ck hc, thawed_ck hc h.2.2.1 h.2.2.2⟩⟩ (Nat.le_refl _) hs
end Go.Proofs.Ytbddbadmfhplmaa

