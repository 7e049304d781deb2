/- RoomOrder: the words and contracts, part 10. -/
import Derived.Test.YtbddbadmfhplmaaRoomOrderQ1
import Derived.Test.YtbddbadmfhplmaaRoomOrderQ2
import Derived.Test.YtbddbadmfhplmaaRoomOrderQ3
import Derived.Test.YtbddbadmfhplmaaRoomOrderQ4
import Derived.Test.YtbddbadmfhplmaaRoomOrderQ5
import Derived.Test.YtbddbadmfhplmaaRoomOrderQ6
import Derived.Test.YtbddbadmfhplmaaRoomOrderQ7
import Derived.Test.YtbddbadmfhplmaaRoomOrderQ8
import Derived.Test.YtbddbadmfhplmaaRoomOrderQ9
import Derived.WalkKit
import Derived.WalkLawsBesides
import Derived.WalkSpells
import Derived.Lib.Hide
import Derived.Laws.Rows
import Derived.Laws.AppendOwnNone
import Derived.Maps.AppendAt
import Derived.RangeFuncNested
import Derived.RangeFuncBound
import Derived.RangeFuncCalls
import Derived.RangeFuncLeaves
import Derived.RangeFuncBox
import Derived.Shelf.Abstract
import Derived.Shelf.RegionOpen
import Derived.OwnWalkIn
import Derived.TacticsInMore
import Derived.LoopNIn
import Derived.LoopIn
import Derived.ProofKit
import Derived.Deep.Slices
import Derived.WideShapes
import Derived.OrdersHeld
import Derived.Deep.QuietTactic
import Derived.BigQuiet
import Derived.StillTailTactics
import Derived.OpenShut
import Derived.Lib.SliceRun
import Derived.Lib.AppendZerosOnto
import Derived.Lib.Walk
import Derived.Deep.LoopGhost
import Derived.Laws.CopyOwn
import Derived.Deep.DeepCutAuto
import Derived.Laws.CopyRow
import Derived.Laws.MakeOwn
import Derived.Deep.RegionHeld
import Derived.KernelRfl
import Derived.BigFrameIn
namespace Go.Proofs.Ytbddbadmfhplmaa
open Go.RowKit

theorem ext_getD {α : Type} (l m : List α) (d : α) (hl : l.length = m.length) (h : ∀ j, j < l.length → l.getD j d = m.getD j d) : l = m := by
  apply List.ext_getElem? 
  intro j
  rcases Nat.lt_or_ge j l.length with hj | hj
  · rw [get_l l d j hj, get_l m d j (by omega), h j hj]
  · rw [List.getElem?_eq_none hj, List.getElem?_eq_none (by omega)]

set_option maxRecDepth 100000 in
set_option maxHeartbeats 1000000 in
/-- slices.EqualFunc at slices of slices, by bytes.Equal. -/
theorem eqb_any (v u : Value) (l m : List (List UInt8)) (w : World) (hv : Sl rBytes w 0 w.heap.size v l) (hu : Sl rBytes w 0 w.heap.size u m) :
    Calls Try.prog 58 #[v, u, .func (.func 59) #[] #[]] w fun e w' => e = .returned (.bool (decide (l = m))) ∧ w' = w := by
  have HV := Lib.hid hv
  have HU := Lib.hid hu
  obtain ⟨av, cv, rfl, g1, g2, -, -⟩ := hv
  obtain ⟨au, cu, rfl, g1', g2', -, -⟩ := hu
  unfold maxLen at g2 g2'
  obtain ⟨r, hr⟩ : ∃ r, decide (l = m) = r := ⟨_, rfl⟩
  rw [hr]
  have HR := Lib.hid hr
  clear hr
  go_enter Try.func58, Try.ntmps58
  by_cases hl : l.length = m.length
  case neg =>
    obtain rfl : r = false := by
      rw [← HR.out]
      exact decide_eq_false (fun e => hl (by rw [e]))
    have i1 : ¬ (l.length : Int) = m.length := by omega
    go_wp2
    go_ret
    exact ⟨rfl, rfl⟩
  have i1 : ((l.length : Int) != m.length) = false := by simp; omega
  have HL := Lib.hid hl
  have hlm : l.length ≤ m.length := by omega
  clear hl
  go_wp2_with fail
  go_loopw [17] (fun i wr => ∃ k : Nat, k ≤ l.length ∧ i = .int .i64 k ∧ wr = w ∧ ∀ j, j < k → l.getD j [] = m.getD j []) (fun i _ => l.length - (intOf i).toNat)
  case atStart => exact ⟨0, Nat.zero_le _, rfl, rfl, fun j hj => absurd hj (Nat.not_lt_zero _)⟩
  case round =>
  obtain ⟨k, hk, rfl, rfl, hall⟩ := hrel
  by_cases hlt : k < l.length
  · obtain ⟨b1, o1, c1, e1, -, -, -, z3, hb1⟩ := HV.out.at_ (by omega)
    injection e1 with ea _ ec
    subst ea ec
    obtain ⟨b2, o2, c2, e2, -, -, -, z3', hb2⟩ := HU.out.at_ (by omega)
    injection e2 with ea _ ec
    subst ea ec
    obtain ⟨x, hx, hxb⟩ := hb1 k (l.getD k []) (get_l _ _ _ hlt)
    obtain ⟨y, hy, hyb⟩ := hb2 k (m.getD k []) (get_l _ _ _ (by omega))
    have hx' : wr.cell? ⟨b1, o1 + k, none⟩ = some x := by simpa [rBytes] using hx
    have hy' : wr.cell? ⟨b2, o2 + k, none⟩ = some y := by simpa [rBytes] using hy
    have heq := bequal_any x y _ _ wr _ _ _ _ hxb hyb
    have hkm : k < m.length := by omega
    unfold maxLen at z3 z3'
    have HP := Lib.hid (And.intro heq hall)
    clear heq hall hx hy hxb hyb hb1 hb2
    go_wp2_with fail
    refine HP.out.1.mono ?_
    rintro e w1 ⟨rfl, rfl⟩
    by_cases he : l.getD k [] = m.getD k []
    · rw [decide_eq_true he]
      have HE := Lib.hid he
      clear he
      go_wp2
      go_roundw
      case rel => exact ⟨k + 1, by omega, by go_num, trivial, fun j hj => by
        rcases Nat.lt_succ_iff_lt_or_eq.1 hj with hj | rfl
        · exact HP.out.2 j hj
        · exact HE.out⟩
      case measure => simp [intOf]; omega
    · rw [decide_eq_false he]
      obtain rfl : r = false := by
        rw [← HR.out]
        exact decide_eq_false (fun e => he (by rw [e]))
      clear he
      go_wp2
      go_ret
      exact ⟨rfl, rfl⟩
  obtain rfl : k = l.length := by omega
  obtain rfl : r = true := by
    rw [← HR.out]
    exact decide_eq_true (ext_getD l m [] HL.out hall)
  clear hall
  go_wp2
  go_ret
  exact ⟨rfl, rfl⟩

set_option maxRecDepth 100000 in
set_option maxHeartbeats 1000000 in
/-- The comparing of two writes. -/
theorem eqw1_any (p q : Int) (v u : Value) (l m : List UInt8) (w : World) (hv : Bytes w 0 w.heap.size v l) (hu : Bytes w 0 w.heap.size u m) :
    Calls Try.prog 61 #[.agg #[.int .i64 p, v], .agg #[.int .i64 q, u]] w fun e w' => e = .returned (.bool (decide ((⟨p, l⟩ : WrL) = ⟨q, m⟩))) ∧ Below w.heap.size w w' := by
  have hB := ((Below.refl w.heap.size w).alloc (Nat.le_refl _) (.cells #[.int .i64 p, v] 92)).alloc (by simp) (.cells #[.int .i64 q, u] 92)
  have hq := two_new w (.cells #[.int .i64 p, v] 92) (.cells #[.int .i64 q, u] 92)
  have hv0 := hv.step hB
  have hu0 := hu.step hB
  obtain ⟨av, cv, rfl, -, -⟩ := hv.form rfl
  obtain ⟨au, cu, rfl, -, -⟩ := hu.form rfl
  clear hv hu
  obtain ⟨W, hW⟩ : ∃ W, (w.alloc (.cells #[.int .i64 p, .slice av l.length cv] 92)).alloc (.cells #[.int .i64 q, .slice au m.length cu] 92) = W := ⟨_, rfl⟩
  rw [hW] at hB hq hv0 hu0
  have c0 := blk_cell hq.1 0
  have c1 := blk_cell hq.1 1
  have d0 := blk_cell hq.2 0
  have d1 := blk_cell hq.2 1
  simp at c0 c1 d0 d1
  obtain ⟨r, hr⟩ : ∃ r, decide ((⟨p, l⟩ : WrL) = ⟨q, m⟩) = r := ⟨_, rfl⟩
  rw [hr]
  have HR := Lib.hid hr
  have HP := Lib.hid (And.intro (bequal_any _ _ _ _ W _ _ _ _ hv0 hu0) hB)
  clear hr hq hv0 hu0 hB
  go_enter Try.func61, Try.ntmps61
  by_cases hpq : p = q
  case neg =>
    obtain rfl : r = false := by
      rw [← HR.out]
      exact decide_eq_false (fun e => hpq (congrArg WrL.at_ e))
    have i1 : (p == q) = false := by simp [hpq]
    clear hpq
    go_wp2
    go_ret
    exact ⟨rfl, HP.out.2⟩
  subst hpq
  have hr2 : r = decide (l = m) := by
    rw [← HR.out]
    by_cases e : l = m
    · subst e; rw [decide_eq_true rfl, decide_eq_true rfl]
    · rw [decide_eq_false e]
      exact decide_eq_false (fun h => e (congrArg WrL.data h))
  have HR2 := Lib.hid hr2
  clear hr2
  go_wp2_with fail
  refine HP.out.1.mono ?_
  rintro e w1 ⟨rfl, rfl⟩
  rw [← HR2.out]
  go_wp2
  go_ret
  exact ⟨rfl, HP.out.2⟩

set_option maxRecDepth 100000 in
set_option maxHeartbeats 1000000 in
/-- slices.EqualFunc at writes. -/
theorem eqw_any (v u : Value) (l m : List WrL) (w : World) (hv : Sl rWrite w 0 w.heap.size v l) (hu : Sl rWrite w 0 w.heap.size u m) :
    Calls Try.prog 60 #[v, u, .func (.func 61) #[] #[]] w fun e w' => e = .returned (.bool (decide (l = m))) ∧ Below w.heap.size w w' := by
  have HV := Lib.hid hv
  have HU := Lib.hid hu
  obtain ⟨av, cv, rfl, g1, g2, -, -⟩ := hv
  obtain ⟨au, cu, rfl, g1', g2', -, -⟩ := hu
  unfold maxLen at g2 g2'
  obtain ⟨r, hr⟩ : ∃ r, decide (l = m) = r := ⟨_, rfl⟩
  rw [hr]
  have HR := Lib.hid hr
  clear hr
  go_enter Try.func60, Try.ntmps60
  by_cases hl : l.length = m.length
  case neg =>
    obtain rfl : r = false := by
      rw [← HR.out]
      exact decide_eq_false (fun e => hl (by rw [e]))
    have i1 : ¬ (l.length : Int) = m.length := by omega
    go_wp2
    go_ret
    exact ⟨rfl, Below.refl _ _⟩
  have i1 : ((l.length : Int) != m.length) = false := by simp; omega
  have HL := Lib.hid hl
  have hlm : l.length ≤ m.length := by omega
  clear hl
  go_wp2_with fail
  go_loopw [17] (fun i wr => ∃ k : Nat, k ≤ l.length ∧ i = .int .i64 k ∧ Below w.heap.size w wr ∧ ∀ j, j < k → l.getD j ⟨0, []⟩ = m.getD j ⟨0, []⟩) (fun i _ => l.length - (intOf i).toNat)
  case atStart => exact ⟨0, Nat.zero_le _, rfl, Below.refl _ _, fun j hj => absurd hj (Nat.not_lt_zero _)⟩
  case round =>
  obtain ⟨k, hk, rfl, hB, hall⟩ := hrel
  by_cases hlt : k < l.length
  · obtain ⟨b1, o1, c1, e1, -, hz1, -, z3, hb1⟩ := HV.out.at_ (by omega)
    injection e1 with ea _ ec
    subst ea ec
    obtain ⟨b2, o2, c2, e2, -, hz2, -, z3', hb2⟩ := HU.out.at_ (by omega)
    injection e2 with ea _ ec
    subst ea ec
    obtain ⟨f0, -, x, f1, hxb⟩ := hb1 k (l.getD k ⟨0, []⟩) (get_l _ _ _ hlt)
    obtain ⟨h0, -, y, h1, hyb⟩ := hb2 k (m.getD k ⟨0, []⟩) (get_l _ _ _ (by omega))
    obtain ⟨X, hX⟩ : ∃ X, l.getD k ⟨0, []⟩ = X := ⟨_, rfl⟩
    obtain ⟨Y, hY⟩ : ∃ Y, m.getD k ⟨0, []⟩ = Y := ⟨_, rfl⟩
    rw [hX] at f0 hxb
    rw [hY] at h0 hyb
    obtain ⟨p, dp⟩ := X
    obtain ⟨q, dq⟩ := Y
    simp [rWrite] at f0 f1 h0 h1
    obtain ⟨a1, k1, rfl, -, -⟩ := hxb.form rfl
    obtain ⟨a2, k2, rfl, -, -⟩ := hyb.form rfl
    have hz1b := Nat.lt_of_lt_of_le hz1 hB.size
    have hz2b := Nat.lt_of_lt_of_le hz2 hB.size
    replace f0 := (hB.cell (p := ⟨b1, o1 + k * 2, none⟩) hz1).trans f0
    replace f1 := (hB.cell (p := ⟨b1, o1 + k * 2 + 1, none⟩) hz1).trans f1
    replace h0 := (hB.cell (p := ⟨b2, o2 + k * 2, none⟩) hz2).trans h0
    replace h1 := (hB.cell (p := ⟨b2, o2 + k * 2 + 1, none⟩) hz2).trans h1
    have hkm : k < m.length := by omega
    unfold maxLen at z3 z3'
    simp only at hxb hyb
    have hxb' := hxb.below hB (Nat.le_refl _)
    have hyb' := hyb.below hB (Nat.le_refl _)
    have HP := Lib.hid (And.intro hall (And.intro hB (And.intro hxb' (And.intro hyb' (And.intro hX hY)))))
    clear hall hB hxb hyb hxb' hyb' hX hY hb1 hb2
    go_upto_region 7 with (fail)
    have hq := two_new wr (.cells #[.int .i64 p, .slice a1 dp.length k1] 92) (.cells #[.int .i64 q, .slice a2 dq.length k2] 92)
    have hst := ((Below.refl wr.heap.size wr).alloc (Nat.le_refl _) (.cells #[.int .i64 p, .slice a1 dp.length k1] 92)).alloc (by simp) (.cells #[.int .i64 q, .slice a2 dq.length k2] 92)
    obtain ⟨w2, hw2⟩ : ∃ w2, (wr.alloc (.cells #[.int .i64 p, .slice a1 dp.length k1] 92)).alloc (.cells #[.int .i64 q, .slice a2 dq.length k2] 92) = w2 := ⟨_, rfl⟩
    rw [hw2] at hq hst ⊢
    clear hw2
    have hB2 := Lib.hid (below_step HP.out.2.1 HP.out.2.1.size hst)
    have hX2 := Lib.hid (((HP.out.2.2.1.below hst HP.out.2.1.size)).more (Nat.le_refl 0) (hB2.out.size))
    have hY2 := Lib.hid (((HP.out.2.2.2.1.below hst HP.out.2.1.size)).more (Nat.le_refl 0) (hB2.out.size))
    clear hst
    generalize wr.heap.size = gx at *
    have x0 := blk_cell hq.1 0
    have x1 := blk_cell hq.1 1
    have x2 := blk_cell hq.2 0
    have x3 := blk_cell hq.2 1
    simp at x0 x1 x2 x3
    go_wp2_with fail
    refine (eqw1_any p q _ _ dp dq w2 hX2.out hY2.out).mono ?_
    rintro e w3 ⟨rfl, hst3⟩
    have hfin := below_step hB2.out hB2.out.size hst3
    clear hst3 x0 x1 x2 x3
    by_cases he : (⟨p, dp⟩ : WrL) = ⟨q, dq⟩
    · rw [decide_eq_true he]
      have HE := Lib.hid (show l.getD k ⟨0, []⟩ = m.getD k ⟨0, []⟩ by rw [HP.out.2.2.2.2.1, HP.out.2.2.2.2.2, he])
      clear he
      go_wp2
      go_roundw
      case rel => exact ⟨k + 1, by omega, by go_num, hfin, fun j hj => by
        rcases Nat.lt_succ_iff_lt_or_eq.1 hj with hj | rfl
        · exact HP.out.1 j hj
        · exact HE.out⟩
      case measure => simp [intOf]; omega
    · rw [decide_eq_false he]
      obtain rfl : r = false := by
        rw [← HR.out]
        exact decide_eq_false (fun e => he (by rw [← HP.out.2.2.2.2.1, ← HP.out.2.2.2.2.2, e]))
      clear he
      go_wp2
      go_ret
      exact ⟨rfl, hfin⟩
  obtain rfl : k = l.length := by omega
  obtain rfl : r = true := by
    rw [← HR.out]
    exact decide_eq_true (ext_getD l m ⟨0, []⟩ HL.out hall)
  clear hall
  go_wp2
  go_ret
  exact ⟨rfl, hB⟩

set_option maxRecDepth 100000 in
set_option maxHeartbeats 1000000 in
/-- dev.Same. -/
theorem dsame_any (b u b' u' : Value) (d d' : DiskL) (w : World) (h : DiskV w 0 w.heap.size b u d) (h' : DiskV w 0 w.heap.size b' u' d') :
    Calls Try.prog 22 #[.agg #[b, u], .agg #[b', u']] w fun e w' => e = .returned (.bool (decide (d = d'))) ∧ Below w.heap.size w w' := by
  have hB := ((Below.refl w.heap.size w).alloc (Nat.le_refl _) (.cells #[b, u] 25)).alloc (by simp) (.cells #[b', u'] 25)
  have hq := two_new w (.cells #[b, u] 25) (.cells #[b', u'] 25)
  have hD : DiskV _ 0 _ b u d := h.step hB
  have hD' : DiskV _ 0 _ b' u' d' := h'.step hB
  obtain ⟨ab, cb, rfl, -, -, -, -⟩ := h.1
  obtain ⟨au, cu, rfl, -, -, -, -⟩ := h.2
  obtain ⟨ab', cb', rfl, -, -, -, -⟩ := h'.1
  obtain ⟨au', cu', rfl, -, -, -, -⟩ := h'.2
  clear h h'
  obtain ⟨W, hW⟩ : ∃ W, (w.alloc (.cells #[.slice ab d.blocks.length cb, .slice au d.waits.length cu] 25)).alloc (.cells #[.slice ab' d'.blocks.length cb', .slice au' d'.waits.length cu'] 25) = W := ⟨_, rfl⟩
  rw [hW] at hB hq hD hD'
  have c0 := blk_cell hq.1 0
  have c1 := blk_cell hq.1 1
  have d0 := blk_cell hq.2 0
  have d1 := blk_cell hq.2 1
  simp at c0 c1 d0 d1
  obtain ⟨r, hr⟩ : ∃ r, decide (d = d') = r := ⟨_, rfl⟩
  rw [hr]
  have HR := Lib.hid (show r = (decide (d.blocks = d'.blocks) && decide (d.waits = d'.waits)) by
    rw [← hr]
    obtain ⟨x, y⟩ := d
    obtain ⟨x', y'⟩ := d'
    by_cases h1 : x = x' <;> by_cases h2 : y = y' <;> simp [h1, h2])
  have HP := Lib.hid (And.intro (eqb_any _ _ _ _ W hD.1 hD'.1) (And.intro (eqw_any _ _ _ _ W hD.2 hD'.2) hB))
  clear hr hq hD hD' hB
  go_enter Try.func22, Try.ntmps22
  go_wp2_with fail
  refine HP.out.1.mono ?_
  rintro e w1 ⟨rfl, rfl⟩
  by_cases he : d.blocks = d'.blocks
  case neg =>
    rw [decide_eq_false he]
    obtain rfl : r = false := by rw [HR.out, decide_eq_false he]; rfl
    clear he
    go_wp2
    go_ret
    exact ⟨rfl, HP.out.2.2⟩
  rw [decide_eq_true he]
  have HR2 := Lib.hid (show r = decide (d.waits = d'.waits) by rw [HR.out, decide_eq_true he]; rfl)
  clear he
  go_wp2_with fail
  refine HP.out.2.1.mono ?_
  rintro e w2 ⟨rfl, hst⟩
  rw [← HR2.out]
  have hfin := below_step HP.out.2.2 HP.out.2.2.size hst
  go_wp2
  go_ret
  exact ⟨rfl, hfin⟩
end Go.Proofs.Ytbddbadmfhplmaa

namespace Go.Proofs.Ytbddbadmfhplmaa
open Go.RowKit

/-- A store that is not great. -/
def SmallS (s : StoreL) : Prop := (s.disk.blocks.length ≤ 300 ∧ s.disk.waits.length ≤ 5000 ∧ (datD s.disk).flatten.length ≤ 800000) ∧ s.now.length ≤ 10000 ∧ s.last.length ≤ 10000
set_option maxRecDepth 100000 in
set_option maxHeartbeats 1000000 in
theorem great8_any (b_s u_s x_s y_s : Value) (s : StoreL) (w : World) (h_s : StoreV w 0 w.heap.size b_s u_s x_s y_s s) :
    Calls Try.prog 16 #[.agg #[b_s, u_s, x_s, y_s]] w fun e w' => ∃ g, e = .returned (.bool g) ∧ Below w.heap.size w w' ∧ (g = false → SmallS s) := by
  obtain ⟨ab_s, cb_s, rfl, gb_s, gc_s, -, -⟩ := h_s.1.1
  obtain ⟨au_s, cu_s, rfl, gu_s, gv_s, -, -⟩ := h_s.1.2
  obtain ⟨ax_s, cx_s, rfl, gx_s, gz_s⟩ := h_s.2.1.form rfl
  obtain ⟨ay_s, cy_s, rfl, gy_s, gw_s⟩ := h_s.2.2.form rfl
  unfold maxLen at gc_s gv_s gz_s gw_s
  have hst := ((Below.refl w.heap.size w).alloc (Nat.le_refl _) (.cells #[.slice ab_s s.disk.blocks.length cb_s, .slice au_s s.disk.waits.length cu_s, .slice ax_s s.now.length cx_s, .slice ay_s s.last.length cy_s] 28))
  have q_s := LK.new w (.cells #[.slice ab_s s.disk.blocks.length cb_s, .slice au_s s.disk.waits.length cu_s, .slice ax_s s.now.length cx_s, .slice ay_s s.last.length cy_s] 28)
  have hB : LW w _ := hst
  have O_s := (LO.of h_s (Nat.le_refl _)).step hst
  have sz_V : w.heap.size + 0 < (w.alloc (.cells #[.slice ab_s s.disk.blocks.length cb_s, .slice au_s s.disk.waits.length cu_s, .slice ax_s s.now.length cx_s, .slice ay_s s.last.length cy_s] 28)).heap.size := by simp
  obtain ⟨V, hV⟩ : ∃ V, (w.alloc (.cells #[.slice ab_s s.disk.blocks.length cb_s, .slice au_s s.disk.waits.length cu_s, .slice ax_s s.now.length cx_s, .slice ay_s s.last.length cy_s] 28)) = V := ⟨_, rfl⟩
  rw [hV] at sz_V q_s O_s hB
  clear hst h_s
  have HQ := Lib.hid (And.intro q_s (And.intro O_s hB))
  clear q_s O_s hB
  have c_q_s0 := LK.cell HQ.out.1 0
  have c_q_s1 := LK.cell HQ.out.1 1
  have c_q_s2 := LK.cell HQ.out.1 2
  have c_q_s3 := LK.cell HQ.out.1 3
  simp at c_q_s0 c_q_s1 c_q_s2 c_q_s3
  have k_g := fun V b u hh => great_any b u s.disk V hh
  have HC := Lib.hid (k_g)
  clear k_g
  go_enter Try.func16, Try.ntmps16
  go_upto_region 1 with (fail)
  clear hV
  go_wp2_with fail
  refine (HC.out _ _ _ HQ.out.2.1.d).mono ?_
  rintro e w1 ⟨g, rfl, hst, hg⟩
  clear c_q_s0 c_q_s1 c_q_s2 c_q_s3
  obtain ⟨q_s, O_s, hB⟩ := HQ.out
  clear HQ
  have sz_w1 : V.heap.size ≤ w1.heap.size := hst.size
  replace q_s := q_s.step hst
  replace O_s := O_s.step hst
  replace hB := hB.step hst
  clear hst
  have HQ := Lib.hid (And.intro q_s (And.intro O_s hB))
  clear q_s O_s hB
  have c_q_s0 := LK.cell HQ.out.1 0
  have c_q_s1 := LK.cell HQ.out.1 1
  have c_q_s2 := LK.cell HQ.out.1 2
  have c_q_s3 := LK.cell HQ.out.1 3
  simp at c_q_s0 c_q_s1 c_q_s2 c_q_s3
  cases g
  case true =>
    go_wp2
    go_ret
    exact ⟨true, rfl, HQ.out.2.2, fun h => by cases h⟩
  have hg := hg rfl
  have HG := Lib.hid hg
  clear hg
  by_cases h1 : 10000 < s.now.length
  · have i1 : (10000 : Int) < s.now.length := by omega
    go_wp2
    go_ret
    exact ⟨true, rfl, HQ.out.2.2, fun h => by cases h⟩
  have i1 : decide ((10000 : Int) < s.now.length) = false := by simp; omega
  by_cases h2 : 10000 < s.last.length
  · have i2 : (10000 : Int) < s.last.length := by omega
    go_wp2
    go_ret
    exact ⟨true, rfl, HQ.out.2.2, fun h => by cases h⟩
  have i2 : decide ((10000 : Int) < s.last.length) = false := by simp; omega
  go_wp2
  go_ret
  exact ⟨false, rfl, HQ.out.2.2, fun _ => ⟨HG.out, by omega, by omega⟩⟩

theorem errAs_cases (s : StoreL) (p : Int) : (errS s = 8 ∧ errAs s p = 8) ∨ (errS s = 0 ∧ mayS s = true ∧ ((p < 8 ∧ errAs s p = 2) ∨ (256 ≤ p ∧ errAs s p = 2) ∨
    ∃ pn : Nat, p = pn ∧ 8 ≤ pn ∧ pn < 256 ∧ ((s.now.getD pn 0 = 0 ∧ errAs s p = 6) ∨ (s.now.getD pn 0 ≠ 0 ∧ errAs s p = 0)))) := by
  unfold errS errAs
  cases hm : mayS s with
  | false => exact .inl ⟨rfl, rfl⟩
  | true =>
    refine .inr ⟨rfl, rfl, ?_⟩
    rw [if_pos rfl]
    by_cases h1 : p < 8
    · exact .inl ⟨h1, by rw [if_pos (.inl h1)]⟩
    by_cases h2 : 256 ≤ p
    · exact .inr (.inl ⟨h2, by rw [if_pos (.inr h2)]⟩)
    obtain ⟨pn, rfl⟩ : ∃ pn : Nat, p = pn := ⟨p.toNat, by omega⟩
    refine .inr (.inr ⟨pn, rfl, by omega, by omega, ?_⟩)
    rw [if_neg (by omega), Int.toNat_natCast]
    by_cases h3 : s.now.getD pn 0 = 0
    · exact .inl ⟨h3, by rw [if_pos h3]⟩
    · exact .inr ⟨h3, by rw [if_neg h3]⟩
theorem u8_nz {x : UInt8} (h : x ≠ 0) : ¬ (x.toNat : Int) = 0 := fun e => h (u8_inj (by show x.toNat = 0; omega))

set_option maxRecDepth 100000 in
set_option maxHeartbeats 1000000 in
theorem sasked_any (b_s u_s x_s y_s : Value) (s : StoreL) (p : Int) (w : World) (h_s : StoreV w 0 w.heap.size b_s u_s x_s y_s s) :
    Calls Try.prog 56 #[.agg #[b_s, u_s, x_s, y_s], .int .i64 p] w fun e w' => e = .returned (.int .i64 (errAs s p)) ∧ Below w.heap.size w w' := by
  obtain ⟨ab_s, cb_s, rfl, gb_s, gc_s, -, -⟩ := h_s.1.1
  obtain ⟨au_s, cu_s, rfl, gu_s, gv_s, -, -⟩ := h_s.1.2
  obtain ⟨ax_s, cx_s, rfl, gx_s, gz_s⟩ := h_s.2.1.form rfl
  obtain ⟨ay_s, cy_s, rfl, gy_s, gw_s⟩ := h_s.2.2.form rfl
  unfold maxLen at gc_s gv_s gz_s gw_s
  have hst := ((Below.refl w.heap.size w).alloc (Nat.le_refl _) (.cells #[.slice ab_s s.disk.blocks.length cb_s, .slice au_s s.disk.waits.length cu_s, .slice ax_s s.now.length cx_s, .slice ay_s s.last.length cy_s] 28))
  have q_s := LK.new w (.cells #[.slice ab_s s.disk.blocks.length cb_s, .slice au_s s.disk.waits.length cu_s, .slice ax_s s.now.length cx_s, .slice ay_s s.last.length cy_s] 28)
  have hB : LW w _ := hst
  have O_s := (LO.of h_s (Nat.le_refl _)).step hst
  have sz_V : w.heap.size + 0 < (w.alloc (.cells #[.slice ab_s s.disk.blocks.length cb_s, .slice au_s s.disk.waits.length cu_s, .slice ax_s s.now.length cx_s, .slice ay_s s.last.length cy_s] 28)).heap.size := by simp
  obtain ⟨V, hV⟩ : ∃ V, (w.alloc (.cells #[.slice ab_s s.disk.blocks.length cb_s, .slice au_s s.disk.waits.length cu_s, .slice ax_s s.now.length cx_s, .slice ay_s s.last.length cy_s] 28)) = V := ⟨_, rfl⟩
  rw [hV] at sz_V q_s O_s hB
  clear hst h_s
  have HQ := Lib.hid (And.intro q_s (And.intro O_s hB))
  clear q_s O_s hB
  have c_q_s0 := LK.cell HQ.out.1 0
  have c_q_s1 := LK.cell HQ.out.1 1
  have c_q_s2 := LK.cell HQ.out.1 2
  have c_q_s3 := LK.cell HQ.out.1 3
  simp at c_q_s0 c_q_s1 c_q_s2 c_q_s3
  have hE := errAs_cases s p
  obtain ⟨es, hes⟩ : ∃ e, errS s = e := ⟨_, rfl⟩
  obtain ⟨ea, hea⟩ : ∃ e, errAs s p = e := ⟨_, rfl⟩
  have k_c := fun V b u x y hh => scheck_any b u x y s V hh
  rw [hes] at k_c hE
  rw [hea] at hE ⊢
  clear hes hea
  have HC := Lib.hid (k_c)
  clear k_c
  go_enter Try.func56, Try.ntmps56
  go_upto_region 1 with (fail)
  clear hV
  go_wp2_with fail
  refine (HC.out _ _ _ _ _ HQ.out.2.1.v).mono ?_
  rintro e w1 ⟨rfl, hst⟩
  clear c_q_s0 c_q_s1 c_q_s2 c_q_s3
  obtain ⟨q_s, O_s, hB⟩ := HQ.out
  clear HQ
  have sz_w1 : V.heap.size ≤ w1.heap.size := hst.size
  replace q_s := q_s.step hst
  replace O_s := O_s.step hst
  replace hB := hB.step hst
  clear hst
  have HQ := Lib.hid (And.intro q_s (And.intro O_s hB))
  clear q_s O_s hB
  have c_q_s0 := LK.cell HQ.out.1 0
  have c_q_s1 := LK.cell HQ.out.1 1
  have c_q_s2 := LK.cell HQ.out.1 2
  have c_q_s3 := LK.cell HQ.out.1 3
  simp at c_q_s0 c_q_s1 c_q_s2 c_q_s3
  rcases hE with ⟨rfl, rfl⟩ | ⟨rfl, hm, ⟨hp, rfl⟩ | ⟨hp, rfl⟩ | ⟨pn, rfl, h8, h9, hx⟩⟩
  · skip
    go_wp2
    go_ret
    exact ⟨rfl, HQ.out.2.2⟩
  · have i1 : p < 8 := hp
    go_wp2
    go_ret
    exact ⟨rfl, HQ.out.2.2⟩
  · have i1 : ¬ p < 8 := by omega
    go_wp2
    go_ret
    exact ⟨rfl, HQ.out.2.2⟩
  have h256 := mayT_len (mayS_iff.1 hm).2.1
  obtain ⟨nb, no, nc, e1, -, zb, z1, zc, hcell⟩ := HQ.out.2.1.n.at_n h256 (by omega)
  injection e1 with e1 _ e2
  subst e1 e2
  have hcx := hcell pn (s.now.getD pn 0) (get_l _ _ _ (by omega))
  unfold maxLen at zc
  rw [h256] at c_q_s2
  obtain ⟨z, hz⟩ : ∃ z, s.now.getD pn 0 = z := ⟨_, rfl⟩
  rw [hz] at hx hcx
  simp only [bV] at hcx
  have HM := Lib.hid (And.intro hcell h256)
  clear hcell h256 hz hm
  have i1 : ¬ ((pn : Int) < 8) := by omega
  have i2 : ¬ ((256 : Int) ≤ pn) := by omega
  rcases hx with ⟨rfl, rfl⟩ | ⟨hx, rfl⟩
  · have z0 : ((0 : UInt8).toNat : Int) = 0 := rfl
    rw [z0] at hcx
    go_wp2
    go_ret
    exact ⟨rfl, HQ.out.2.2⟩
  · have hx2 := u8_nz hx
    generalize (z.toNat : Int) = zi at *
    go_wp2
    go_ret
    exact ⟨rfl, HQ.out.2.2⟩

set_option maxRecDepth 100000 in
set_option maxHeartbeats 1000000 in
theorem ssame_any (b_s u_s x_s y_s : Value) (s : StoreL) (b_t u_t x_t y_t : Value) (t : StoreL) (w : World) (h_s : StoreV w 0 w.heap.size b_s u_s x_s y_s s) (h_t : StoreV w 0 w.heap.size b_t u_t x_t y_t t) :
    Calls Try.prog 23 #[.agg #[b_s, u_s, x_s, y_s], .agg #[b_t, u_t, x_t, y_t]] w fun e w' => e = .returned (.bool (decide (s = t))) ∧ Below w.heap.size w w' := by
  obtain ⟨ab_s, cb_s, rfl, gb_s, gc_s, -, -⟩ := h_s.1.1
  obtain ⟨au_s, cu_s, rfl, gu_s, gv_s, -, -⟩ := h_s.1.2
  obtain ⟨ax_s, cx_s, rfl, gx_s, gz_s⟩ := h_s.2.1.form rfl
  obtain ⟨ay_s, cy_s, rfl, gy_s, gw_s⟩ := h_s.2.2.form rfl
  unfold maxLen at gc_s gv_s gz_s gw_s
  obtain ⟨ab_t, cb_t, rfl, gb_t, gc_t, -, -⟩ := h_t.1.1
  obtain ⟨au_t, cu_t, rfl, gu_t, gv_t, -, -⟩ := h_t.1.2
  obtain ⟨ax_t, cx_t, rfl, gx_t, gz_t⟩ := h_t.2.1.form rfl
  obtain ⟨ay_t, cy_t, rfl, gy_t, gw_t⟩ := h_t.2.2.form rfl
  unfold maxLen at gc_t gv_t gz_t gw_t
  have hst := (((Below.refl w.heap.size w).alloc (Nat.le_refl _) (.cells #[.slice ab_s s.disk.blocks.length cb_s, .slice au_s s.disk.waits.length cu_s, .slice ax_s s.now.length cx_s, .slice ay_s s.last.length cy_s] 28)).alloc (by simp) (.cells #[.slice ab_t t.disk.blocks.length cb_t, .slice au_t t.disk.waits.length cu_t, .slice ax_t t.now.length cx_t, .slice ay_t t.last.length cy_t] 28))
  have hq := two_new w (.cells #[.slice ab_s s.disk.blocks.length cb_s, .slice au_s s.disk.waits.length cu_s, .slice ax_s s.now.length cx_s, .slice ay_s s.last.length cy_s] 28) (.cells #[.slice ab_t t.disk.blocks.length cb_t, .slice au_t t.disk.waits.length cu_t, .slice ax_t t.now.length cx_t, .slice ay_t t.last.length cy_t] 28)
  have q_s := LK.of hq.1
  have q_t := LK.of hq.2
  have hB : LW w _ := hst
  have O_s := (LO.of h_s (Nat.le_refl _)).step hst
  have O_t := (LO.of h_t (Nat.le_refl _)).step hst
  have sz_V : w.heap.size + 1 < ((w.alloc (.cells #[.slice ab_s s.disk.blocks.length cb_s, .slice au_s s.disk.waits.length cu_s, .slice ax_s s.now.length cx_s, .slice ay_s s.last.length cy_s] 28)).alloc (.cells #[.slice ab_t t.disk.blocks.length cb_t, .slice au_t t.disk.waits.length cu_t, .slice ax_t t.now.length cx_t, .slice ay_t t.last.length cy_t] 28)).heap.size := by simp
  obtain ⟨V, hV⟩ : ∃ V, ((w.alloc (.cells #[.slice ab_s s.disk.blocks.length cb_s, .slice au_s s.disk.waits.length cu_s, .slice ax_s s.now.length cx_s, .slice ay_s s.last.length cy_s] 28)).alloc (.cells #[.slice ab_t t.disk.blocks.length cb_t, .slice au_t t.disk.waits.length cu_t, .slice ax_t t.now.length cx_t, .slice ay_t t.last.length cy_t] 28)) = V := ⟨_, rfl⟩
  rw [hV] at sz_V q_s q_t O_s O_t hB
  clear hst h_s h_t hq
  have HQ := Lib.hid (And.intro q_s (And.intro q_t (And.intro O_s (And.intro O_t hB))))
  clear q_s q_t O_s O_t hB
  have c_q_s0 := LK.cell HQ.out.1 0
  have c_q_s1 := LK.cell HQ.out.1 1
  have c_q_s2 := LK.cell HQ.out.1 2
  have c_q_s3 := LK.cell HQ.out.1 3
  have c_q_t0 := LK.cell HQ.out.2.1 0
  have c_q_t1 := LK.cell HQ.out.2.1 1
  have c_q_t2 := LK.cell HQ.out.2.1 2
  have c_q_t3 := LK.cell HQ.out.2.1 3
  simp at c_q_s0 c_q_s1 c_q_s2 c_q_s3 c_q_t0 c_q_t1 c_q_t2 c_q_t3
  obtain ⟨bd, hbd⟩ : ∃ b, decide (s.disk = t.disk) = b := ⟨_, rfl⟩
  obtain ⟨bn, hbn⟩ : ∃ b, decide (s.now = t.now) = b := ⟨_, rfl⟩
  obtain ⟨bl, hbl⟩ : ∃ b, decide (s.last = t.last) = b := ⟨_, rfl⟩
  have hE : decide (s = t) = (bd && (bn && bl)) := by
    rw [← hbd, ← hbn, ← hbl]
    obtain ⟨s1, s2, s3⟩ := s
    obtain ⟨t1, t2, t3⟩ := t
    simp [StoreL.mk.injEq]
  rw [hE]
  have k_d := fun V b u b2 u2 hh h2 => dsame_any b u b2 u2 s.disk t.disk V hh h2
  have k_n := fun V v v2 hh h2 => bequal_any v v2 s.now t.now V 0 V.heap.size 0 V.heap.size hh h2
  have k_l := fun V v v2 hh h2 => bequal_any v v2 s.last t.last V 0 V.heap.size 0 V.heap.size hh h2
  rw [hbd] at k_d
  rw [hbn] at k_n
  rw [hbl] at k_l
  clear hE hbd hbn hbl
  have HC := Lib.hid (And.intro k_d (And.intro k_n k_l))
  clear k_d k_n k_l
  go_enter Try.func23, Try.ntmps23
  go_upto_region 1 with (fail)
  clear hV
  go_wp2_with fail
  refine (HC.out.1 _ _ _ _ _ HQ.out.2.2.1.d HQ.out.2.2.2.1.d).mono ?_
  rintro e w1 ⟨rfl, hst⟩
  clear c_q_s0 c_q_s1 c_q_s2 c_q_s3 c_q_t0 c_q_t1 c_q_t2 c_q_t3
  obtain ⟨q_s, q_t, O_s, O_t, hB⟩ := HQ.out
  clear HQ
  have sz_w1 : V.heap.size ≤ w1.heap.size := hst.size
  replace q_s := q_s.step hst
  replace q_t := q_t.step hst
  replace O_s := O_s.step hst
  replace O_t := O_t.step hst
  replace hB := hB.step hst
  clear hst
  have HQ := Lib.hid (And.intro q_s (And.intro q_t (And.intro O_s (And.intro O_t hB))))
  clear q_s q_t O_s O_t hB
  have c_q_s0 := LK.cell HQ.out.1 0
  have c_q_s1 := LK.cell HQ.out.1 1
  have c_q_s2 := LK.cell HQ.out.1 2
  have c_q_s3 := LK.cell HQ.out.1 3
  have c_q_t0 := LK.cell HQ.out.2.1 0
  have c_q_t1 := LK.cell HQ.out.2.1 1
  have c_q_t2 := LK.cell HQ.out.2.1 2
  have c_q_t3 := LK.cell HQ.out.2.1 3
  simp at c_q_s0 c_q_s1 c_q_s2 c_q_s3 c_q_t0 c_q_t1 c_q_t2 c_q_t3
  cases bd
  case false =>
    go_wp2
    go_ret
    exact ⟨rfl, HQ.out.2.2.2.2⟩
  go_wp2_with fail
  refine (HC.out.2.1 _ _ _ HQ.out.2.2.1.n HQ.out.2.2.2.1.n).mono ?_
  rintro e w0 ⟨rfl, hw0⟩
  rw [hw0]
  clear hw0 w0
  cases bn
  case false =>
    go_wp2
    go_ret
    exact ⟨rfl, HQ.out.2.2.2.2⟩
  go_wp2_with fail
  refine (HC.out.2.2 _ _ _ HQ.out.2.2.1.l HQ.out.2.2.2.1.l).mono ?_
  rintro e w0 ⟨rfl, hw0⟩
  rw [hw0]
  clear hw0 w0
  cases bl
  case false =>
    go_wp2
    go_ret
    exact ⟨rfl, HQ.out.2.2.2.2⟩
  go_wp2
  go_ret
  exact ⟨rfl, HQ.out.2.2.2.2⟩

def newS : StoreL := ⟨newD, List.replicate 256 0, List.replicate 256 0⟩

set_option maxRecDepth 100000 in
set_option maxHeartbeats 1000000 in
theorem snew_any  (w : World)  :
    Calls Try.prog 24 #[] w fun e w' => ∃ b u x y, e = .returned (.agg #[b, u, x, y]) ∧ MadeS w w' b u x y newS := by
  have hst := ((Below.refl w.heap.size w).alloc (Nat.le_refl _) (.cells #[.slice none 0 0, .slice none 0 0, .slice none 0 0, .slice none 0 0] 28))
  have q_r := LK.new w (.cells #[.slice none 0 0, .slice none 0 0, .slice none 0 0, .slice none 0 0] 28)
  have hB : LW w _ := hst
  have sz_V : w.heap.size + 0 < (w.alloc (.cells #[.slice none 0 0, .slice none 0 0, .slice none 0 0, .slice none 0 0] 28)).heap.size := by simp
  obtain ⟨V, hV⟩ : ∃ V, (w.alloc (.cells #[.slice none 0 0, .slice none 0 0, .slice none 0 0, .slice none 0 0] 28)) = V := ⟨_, rfl⟩
  rw [hV] at sz_V q_r hB
  clear hst 
  have HQ := Lib.hid (And.intro q_r hB)
  clear q_r hB
  have c_q_r0 := LK.cell HQ.out.1 0
  have c_q_r1 := LK.cell HQ.out.1 1
  have c_q_r2 := LK.cell HQ.out.1 2
  have c_q_r3 := LK.cell HQ.out.1 3
  simp at c_q_r0 c_q_r1 c_q_r2 c_q_r3
  obtain ⟨dn, hdn⟩ : ∃ d, newD = d := ⟨_, rfl⟩
  obtain ⟨R, hR⟩ : ∃ R, List.replicate 256 (0 : UInt8) = R := ⟨_, rfl⟩
  have k_d := fun V => dnew_any V
  have k_n := fun V => cnew_any V
  rw [hdn] at k_d
  rw [hR] at k_n
  have hs : newS = ⟨dn, R, R⟩ := by rw [← hdn, ← hR]; rfl
  rw [hs]
  have hdw : dn.waits.length = 0 := by rw [← hdn]; rfl
  have HDW := Lib.hid hdw
  clear hs hdn hR hdw
  have HC := Lib.hid (And.intro k_d k_n)
  clear k_d k_n
  go_enter Try.func24, Try.ntmps24
  go_upto_region 1 with (fail)
  clear hV
  go_wp2_with fail
  refine (HC.out.1 _).mono ?_
  rintro e w1 ⟨b1, rfl, hm⟩
  clear c_q_r0 c_q_r1 c_q_r2 c_q_r3
  obtain ⟨q_r, hB⟩ := HQ.out
  clear HQ
  have D_d := LT.of hm
  have hst := hm.below
  obtain ⟨ab_r, cb_r, rfl, -, -, -, -⟩ := hm.v0.1
  clear hm
  have sz_w1 : V.heap.size ≤ w1.heap.size := hst.size
  replace q_r := q_r.step hst
  replace hB := hB.step hst
  clear hst
  have HQ := Lib.hid (And.intro q_r (And.intro D_d hB))
  clear q_r D_d hB
  have c_q_r0 := LK.cell HQ.out.1 0
  have c_q_r1 := LK.cell HQ.out.1 1
  have c_q_r2 := LK.cell HQ.out.1 2
  have c_q_r3 := LK.cell HQ.out.1 3
  simp at c_q_r0 c_q_r1 c_q_r2 c_q_r3
  go_wp2_with fail
  refine (HC.out.2 _).mono ?_
  rintro e w2 ⟨v1, rfl, hm⟩
  clear c_q_r0 c_q_r1 c_q_r2 c_q_r3
  obtain ⟨q_r, D_d, hB⟩ := HQ.out
  clear HQ
  have B_n := LM.of hm
  have hst := hm.below
  obtain ⟨a_n, c_n, rfl, -, -⟩ := hm.bytes.form rfl
  clear hm
  have sz_w2 : w1.heap.size ≤ w2.heap.size := hst.size
  replace q_r := q_r.step hst
  replace D_d := D_d.step hst
  replace hB := hB.step hst
  clear hst
  have HQ := Lib.hid (And.intro q_r (And.intro D_d (And.intro B_n hB)))
  clear q_r D_d B_n hB
  have c_q_r0 := LK.cell HQ.out.1 0
  have c_q_r1 := LK.cell HQ.out.1 1
  have c_q_r2 := LK.cell HQ.out.1 2
  have c_q_r3 := LK.cell HQ.out.1 3
  simp at c_q_r0 c_q_r1 c_q_r2 c_q_r3
  go_wp2_with fail
  refine (HC.out.2 _).mono ?_
  rintro e w3 ⟨v2, rfl, hm⟩
  clear c_q_r0 c_q_r1 c_q_r2 c_q_r3
  obtain ⟨q_r, D_d, B_n, hB⟩ := HQ.out
  clear HQ
  have B_l := LM.of hm
  have hst := hm.below
  obtain ⟨a_l, c_l, rfl, -, -⟩ := hm.bytes.form rfl
  clear hm
  have sz_w3 : w2.heap.size ≤ w3.heap.size := hst.size
  replace q_r := q_r.step hst
  replace D_d := D_d.step hst
  replace B_n := B_n.step hst
  replace hB := hB.step hst
  clear hst
  have HQ := Lib.hid (And.intro q_r (And.intro D_d (And.intro B_n (And.intro B_l hB))))
  clear q_r D_d B_n B_l hB
  have c_q_r0 := LK.cell HQ.out.1 0
  have c_q_r1 := LK.cell HQ.out.1 1
  have c_q_r2 := LK.cell HQ.out.1 2
  have c_q_r3 := LK.cell HQ.out.1 3
  have z_q_r0 := LK.frozen HQ.out.1 0
  have z_q_r1 := LK.frozen HQ.out.1 1
  have z_q_r2 := LK.frozen HQ.out.1 2
  have z_q_r3 := LK.frozen HQ.out.1 3
  simp at c_q_r0 c_q_r1 c_q_r2 c_q_r3
  go_wp2
  refine bodyPost_ret (v := .agg #[.slice ab_r dn.blocks.length cb_r, .slice none 0 0, .slice a_n R.length c_n, .slice a_l R.length c_l]) (by simp [results, Try.results24, go_sem, c_q_r0, c_q_r1, c_q_r2, c_q_r3]) rfl ⟨_, _, _, _, rfl, ?_⟩
  have hL : MadeL w w3 (w.heap.size + 1) _ _ _ _ ⟨dn, R, R⟩ := ⟨⟨DiskT.more HQ.out.2.1.t (by omega) (Lv.hi_le HQ.out.2.1), ⟨HQ.out.2.2.1.m.1.more (by omega) (Lv.hi_le HQ.out.2.2.1), HQ.out.2.2.1.m.2⟩, ⟨HQ.out.2.2.2.1.m.1.more (by omega) (Lv.hi_le HQ.out.2.2.2.1), HQ.out.2.2.2.1.m.2⟩⟩, HQ.out.2.2.2.2⟩
  exact (hL.four w.heap.size _ _ _ _ (Nat.le_refl _) (Nat.lt_succ_self _)).made (Nat.le_succ _)

end Go.Proofs.Ytbddbadmfhplmaa

