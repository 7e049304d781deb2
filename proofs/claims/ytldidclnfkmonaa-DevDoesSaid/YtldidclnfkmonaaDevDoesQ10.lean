/- DevDoes: the words and contracts, part 10. -/
import Derived.Test.YtldidclnfkmonaaDevDoesQ1
import Derived.Test.YtldidclnfkmonaaDevDoesQ2
import Derived.Test.YtldidclnfkmonaaDevDoesQ3
import Derived.Test.YtldidclnfkmonaaDevDoesQ4
import Derived.Test.YtldidclnfkmonaaDevDoesQ5
import Derived.Test.YtldidclnfkmonaaDevDoesQ6
import Derived.Test.YtldidclnfkmonaaDevDoesQ7
import Derived.Test.YtldidclnfkmonaaDevDoesQ8
import Derived.Test.YtldidclnfkmonaaDevDoesQ9
import Derived.WalkKit
import Derived.WalkLawsBesides
import Derived.WalkSpells
import Derived.Lib.Hide
import Derived.Laws.Rows
import Derived.Laws.AppendOwnNone
import Derived.Maps.AppendAt
import Derived.RangeFuncNested
import Derived.RangeFuncBound
import Derived.RangeFuncCalls
import Derived.RangeFuncLeaves
import Derived.RangeFuncBox
import Derived.Shelf.Abstract
import Derived.Shelf.RegionOpen
import Derived.OwnWalkIn
import Derived.TacticsInMore
import Derived.LoopNIn
import Derived.LoopIn
import Derived.ProofKit
import Derived.Deep.Slices
import Derived.WideShapes
import Derived.OrdersHeld
import Derived.Deep.QuietTactic
import Derived.BigQuiet
import Derived.StillTailTactics
import Derived.OpenShut
import Derived.Lib.SliceRun
import Derived.Lib.AppendZerosOnto
import Derived.Lib.Walk
import Derived.Deep.LoopGhost
import Derived.Laws.CopyOwn
import Derived.Deep.DeepCutAuto
import Derived.Laws.CopyRow
import Derived.Laws.MakeOwn
import Derived.Deep.RegionHeld
namespace Go.Proofs.Ytldidclnfkmonaa
open Go.RowKit

set_option maxRecDepth 100000 in
set_option maxHeartbeats 1000000 in
/-- The reference's May. -/
theorem rmayd_any (b u : Value) (d : DiskL) (w : World) (h : DiskV w 0 w.heap.size b u d) :
    Calls Try.prog 66 #[.agg #[b, u]] w fun e w' => e = .returned (.bool (mayD d)) ∧ Below w.heap.size w w' := by
  have hB := (Below.refl w.heap.size w).alloc (Nat.le_refl _) (.cells #[b, u] 39)
  have hb := h.1.step hB
  have hu := h.2.step hB
  have hq := World.alloc_heap_new w (.cells #[b, u] 39)
  obtain ⟨ab, cb, rfl, g1, g2, -, -⟩ := h.1
  obtain ⟨au, cu, rfl, g1', g2', -, -⟩ := h.2
  unfold maxLen at g2 g2'
  obtain ⟨bl, wl⟩ := d
  clear h
  simp only at *
  obtain ⟨W, hW⟩ : ∃ W, w.alloc (.cells #[.slice ab bl.length cb, .slice au wl.length cu] 39) = W := ⟨_, rfl⟩
  rw [hW] at hB hb hu hq
  have HM := Lib.hid (show mayD ⟨bl, wl⟩ = (bl.length == 256 && decide (wl.length ≤ 4096) && bl.all (fun b => b.length == 128) && wl.all okW) from rfl)
  generalize mayD ⟨bl, wl⟩ = md at *
  have HQ := Lib.hid (And.intro hq (And.intro hb (And.intro hu (And.intro hW hB))))
  clear hq hb hu hW hB
  go_enter Try.func66, Try.ntmps66
  go_upto_region 1 with (fail)
  rw [HQ.out.2.2.2.1]
  have c0 := blk_cell HQ.out.1 0
  have c1 := blk_cell HQ.out.1 1
  simp at c0 c1
  by_cases h1 : ¬ bl.length = 256
  · have i1 : ¬ (bl.length : Int) = 256 := by omega
    have hm : md = false := by rw [HM.out]; simp [h1]
    subst hm
    go_wp2
    go_ret
    exact ⟨rfl, HQ.out.2.2.2.2⟩
  have hbl : bl.length = 256 := by omega
  clear h1
  by_cases h2 : 4096 < wl.length
  · have i1 : (4096 : Int) < wl.length := by omega
    have hm : md = false := by rw [HM.out]; simp [hbl]; omega
    subst hm
    go_wp2
    go_ret
    exact ⟨rfl, HQ.out.2.2.2.2⟩
  have i2 : decide ((4096 : Int) < wl.length) = false := by simp; omega
  have HM2 := Lib.hid (show md = (bl.all (fun b => b.length == 128) && wl.all okW) by rw [HM.out, hbl]; simp [show wl.length ≤ 4096 by omega])
  clear HM
  have hb := HQ.out.2.1
  obtain ⟨bb, bo, cb', e', -, z1, z2, z3, hbe⟩ := hb.at_ (by omega)
  injection e' with ea _ ec
  subst ea ec
  have HBE := Lib.hid hbe
  unfold maxLen at z3
  clear hbe hb
  rw [hbl] at HQ g1 z2 c0 ⊢
  go_wp2_with fail
  go_loopw [3] (fun i wr => ∃ k : Nat, k ≤ 256 ∧ i = .int .i64 k ∧ wr = W ∧ ∀ j, j < k → (bl.getD j []).length = 128) (fun i _ => 256 - (intOf i).toNat)
  case atStart => exact ⟨0, Nat.zero_le _, rfl, rfl, fun j hj => absurd hj (Nat.not_lt_zero _)⟩
  case round =>
  obtain ⟨k, hk, rfl, rfl, hall⟩ := hrel
  by_cases hlt : k < 256
  · obtain ⟨v, hv, hvb⟩ := HBE.out k (bl.getD k []) (get_l _ _ _ (by omega))
    obtain ⟨av, cv, rfl, -, hcv⟩ := hvb.form rfl
    unfold maxLen at hcv
    have hv' : wr.cell? ⟨bb, bo + k, none⟩ = some (.slice av (bl.getD k []).length cv) := by simpa [rBytes] using hv
    obtain ⟨y, hy⟩ : ∃ y, bl.getD k [] = y := ⟨_, rfl⟩
    rw [hy] at hv'
    have HY := Lib.hid (And.intro hy hall)
    clear hv hvb hy hall
    by_cases h5 : y.length = 128
    · rw [h5] at hv'
      go_wp2
      go_roundw
      case rel => exact ⟨k + 1, by omega, by go_num, trivial, fun j hj => by
        by_cases e : j = k
        · subst e; rw [HY.out.1]; exact h5
        · exact HY.out.2 j (by omega)⟩
      case measure => simp [intOf]; omega
    · have i5 : ¬ (y.length : Int) = 128 := by omega
      have hm : md = false := by
        rw [HM2.out]
        have : bl.all (fun b => b.length == 128) = false := by
          rw [List.all_eq_false]
          refine ⟨y, ?_, by simp [h5]⟩
          rw [← HY.out.1]
          exact List.mem_of_getElem? (get_l _ _ _ (by omega))
        rw [this]; rfl
      subst hm
      go_wp2
      go_ret
      exact ⟨rfl, HQ.out.2.2.2.2⟩
  obtain rfl : k = 256 := by omega
  have hall2 : bl.all (fun b => b.length == 128) = true := by
    rw [List.all_eq_true]
    intro x hx
    obtain ⟨j, hj⟩ := List.mem_iff_getElem?.1 hx
    have hjl : j < bl.length := (List.getElem?_eq_some_iff.1 hj).1
    rw [get_l bl [] j hjl] at hj
    cases hj
    exact beq_iff_eq.2 (hall j (by omega))
  obtain ⟨V, hV⟩ : ∃ V, V = wr := ⟨_, rfl⟩
  subst hV
  have HM3 := Lib.hid (show md = wl.all okW by rw [HM2.out, hall2]; rfl)
  clear HM2 hall hall2 hlt hk HBE i2
  go_wp2_with fail
  go_loopw [4] (fun i wx => ∃ k : Nat, k ≤ wl.length ∧ i = .int .i64 k ∧ wx = V ∧ ∀ j, j < k → okW (wl.getD j ⟨0, []⟩) = true) (fun i _ => wl.length - (intOf i).toNat)
  case atStart => exact ⟨0, Nat.zero_le _, rfl, rfl, fun j hj => absurd hj (Nat.not_lt_zero _)⟩
  case round =>
  obtain ⟨k, hk, rfl, rfl, hall⟩ := hrel
  by_cases hlt : k < wl.length
  · obtain ⟨wb, wo, wc, e', -, y1, y2, y3, hwe⟩ := HQ.out.2.2.1.at_ (by omega)
    injection e' with ea _ ec
    subst ea ec
    unfold maxLen at y3
    obtain ⟨f0, f1, v, f2, f3⟩ := hwe k (wl.getD k ⟨0, []⟩) (get_l _ _ _ hlt)
    obtain ⟨av, cv, rfl, -, hcv⟩ := f3.form rfl
    unfold maxLen at hcv
    obtain ⟨y, hy⟩ : ∃ y, wl.getD k ⟨0, []⟩ = y := ⟨_, rfl⟩
    rw [hy] at f0 f1 f2
    have HY := Lib.hid (And.intro hy hall)
    clear hwe f3 hy hall
    obtain ⟨at_, dt⟩ := y
    simp [rWrite] at f0 f2
    have hokw : okW ⟨at_, dt⟩ = (decide (0 ≤ at_) && decide (at_ < 256) && dt.length == 128) := rfl
    have hfin := Lib.hid HQ.out.2.2.2.2
    have hbad : okW ⟨at_, dt⟩ = false → md = false := fun h => by
      rw [HM3.out, List.all_eq_false]
      refine ⟨⟨at_, dt⟩, ?_, by rw [h]; decide⟩
      rw [← HY.out.1]
      exact List.mem_of_getElem? (get_l _ _ _ hlt)
    have HBD := Lib.hid hbad
    clear hbad
    by_cases a1 : at_ < 0
    · have hm := HBD.out (by rw [hokw]; simp; omega)
      subst hm
      clear hokw
      go_wp2
      go_ret
      exact ⟨rfl, hfin.out⟩
    have d1 : decide (at_ < 0) = false := by simp; omega
    by_cases a2 : 256 ≤ at_
    · have hm := HBD.out (by rw [hokw]; simp; omega)
      subst hm
      clear hokw
      go_wp2
      go_ret
      exact ⟨rfl, hfin.out⟩
    have d2 : decide (256 ≤ at_) = false := by simp; omega
    by_cases a3 : dt.length = 128
    · have HOK := Lib.hid (show okW ⟨at_, dt⟩ = true by rw [hokw]; simp [a3]; omega)
      clear hokw
      go_wp2
      go_roundw
      case rel => exact ⟨k + 1, by omega, by go_num, trivial, fun j hj => by
        by_cases e : j = k
        · subst e; rw [HY.out.1]; exact HOK.out
        · exact HY.out.2 j (by omega)⟩
      case measure => simp [intOf]; omega
    · have i5 : ¬ (dt.length : Int) = 128 := by omega
      have hm := HBD.out (by rw [hokw]; simp [a3])
      subst hm
      clear hokw
      go_wp2
      go_ret
      exact ⟨rfl, hfin.out⟩
  obtain rfl : k = wl.length := by omega
  have hm : md = true := by
    rw [HM3.out, List.all_eq_true]
    intro x hx
    obtain ⟨j, hj⟩ := List.mem_iff_getElem?.1 hx
    have hjl : j < wl.length := (List.getElem?_eq_some_iff.1 hj).1
    rw [get_l wl ⟨0, []⟩ j hjl] at hj
    cases hj
    exact hall j hjl
  subst hm
  have hfin := HQ.out.2.2.2.2
  clear hall
  go_wp2
  go_ret
  exact ⟨rfl, hfin⟩

end Go.Proofs.Ytldidclnfkmonaa

namespace Go.Proofs.Ytldidclnfkmonaa
open Go.RowKit

set_option maxRecDepth 100000 in
set_option maxHeartbeats 1000000 in
/-- The reference's Check. -/
theorem rdcheck_any (b u : Value) (d : DiskL) (w : World) (h : DiskV w 0 w.heap.size b u d) :
    Calls Try.prog 39 #[.agg #[b, u]] w fun e w' => e = .returned (.int .i64 (errC d)) ∧ Below w.heap.size w w' := by
  have hst := (Below.refl w.heap.size w).alloc (Nat.le_refl _) (.cells #[b, u] 39)
  have hD := h.step hst
  have hq := World.alloc_heap_new w (.cells #[b, u] 39)
  have h1 := fun V hh => rmayd_any b u d V hh
  obtain ⟨ab, cb, rfl, -, -, -, -⟩ := h.1
  obtain ⟨au, cu, rfl, -, -, -, -⟩ := h.2
  clear h
  obtain ⟨W, hW⟩ : ∃ W, w.alloc (.cells #[.slice ab d.blocks.length cb, .slice au d.waits.length cu] 39) = W := ⟨_, rfl⟩
  rw [hW] at hst hD hq
  have c0 := blk_cell hq 0
  have c1 := blk_cell hq 1
  simp at c0 c1
  have HC := Lib.hid (h1 W hD)
  have HB := Lib.hid hst
  have HE := Lib.hid (show errC d = if mayD d then 0 else 8 from rfl)
  generalize errC d = ec at *
  clear h1 hD hq hst
  go_enter Try.func39, Try.ntmps39
  go_wp2_with fail
  refine HC.out.mono ?_
  rintro e w1 ⟨rfl, hst⟩
  have hfin := below_step HB.out HB.out.size hst
  clear HC
  cases hm : mayD d
  case false =>
    obtain rfl : ec = 8 := by rw [HE.out, hm]; rfl
    go_wp2
    go_ret
    exact ⟨rfl, hfin⟩
  case true =>
    obtain rfl : ec = 0 := by rw [HE.out, hm]; rfl
    go_wp2
    go_ret
    exact ⟨rfl, hfin⟩

set_option maxRecDepth 100000 in
set_option maxHeartbeats 1000000 in
/-- The reference's Same. -/
theorem rdsame_any (b u b' u' : Value) (d d' : DiskL) (w : World) (h : DiskV w 0 w.heap.size b u d) (h' : DiskV w 0 w.heap.size b' u' d') :
    Calls Try.prog 41 #[.agg #[b, u], .agg #[b', u']] w fun e w' => e = .returned (.bool (decide (d = d'))) ∧ Below w.heap.size w w' := by
  have hB := ((Below.refl w.heap.size w).alloc (Nat.le_refl _) (.cells #[b, u] 39)).alloc (by simp) (.cells #[b', u'] 39)
  have hq := two_new w (.cells #[b, u] 39) (.cells #[b', u'] 39)
  have hD : DiskV _ 0 _ b u d := h.step hB
  have hD' : DiskV _ 0 _ b' u' d' := h'.step hB
  obtain ⟨ab, cb, rfl, g1, g2, -, -⟩ := h.1
  obtain ⟨au, cu, rfl, g3, g4, -, -⟩ := h.2
  obtain ⟨ab', cb', rfl, g1', g2', -, -⟩ := h'.1
  obtain ⟨au', cu', rfl, g3', g4', -, -⟩ := h'.2
  unfold maxLen at g2 g4 g2' g4'
  clear h h'
  obtain ⟨W, hW⟩ : ∃ W, (w.alloc (.cells #[.slice ab d.blocks.length cb, .slice au d.waits.length cu] 39)).alloc (.cells #[.slice ab' d'.blocks.length cb', .slice au' d'.waits.length cu'] 39) = W := ⟨_, rfl⟩
  rw [hW] at hB hq hD hD'
  obtain ⟨r, hr⟩ : ∃ r, decide (d = d') = r := ⟨_, rfl⟩
  rw [hr]
  have HR := Lib.hid hr
  have HF := Lib.hid (show (d.blocks = d'.blocks → d.waits = d'.waits → d = d') from fun h1 h2 => by cases d; cases d'; simp at h1 h2; rw [h1, h2])
  have HQ := Lib.hid (And.intro hq.1 (And.intro hq.2 (And.intro hD (And.intro hD' hB))))
  have hno : d ≠ d' → r = false := fun h => by rw [← HR.out]; exact decide_eq_false h
  have HNO := Lib.hid hno
  clear hr hq hD hD' hB hno
  have c0 := blk_cell HQ.out.1 0
  have c1 := blk_cell HQ.out.1 1
  have d0 := blk_cell HQ.out.2.1 0
  have d1 := blk_cell HQ.out.2.1 1
  simp at c0 c1 d0 d1
  go_enter Try.func41, Try.ntmps41
  by_cases hl1 : d.blocks.length = d'.blocks.length
  case neg =>
    obtain rfl := HNO.out (fun e => hl1 (by rw [e]))
    have i1 : ¬ (d.blocks.length : Int) = d'.blocks.length := by omega
    go_wp2
    go_ret
    exact ⟨rfl, HQ.out.2.2.2.2⟩
  have i1 : ((d.blocks.length : Int) != d'.blocks.length) = false := by simp; omega
  by_cases hl2 : d.waits.length = d'.waits.length
  case neg =>
    obtain rfl := HNO.out (fun e => hl2 (by rw [e]))
    have i2 : ¬ (d.waits.length : Int) = d'.waits.length := by omega
    have HL1 := Lib.hid hl1
    clear hl1
    go_wp2
    go_ret
    exact ⟨rfl, HQ.out.2.2.2.2⟩
  have i2 : ((d.waits.length : Int) != d'.waits.length) = false := by simp; omega
  have HL1 := Lib.hid hl1
  have HL2 := Lib.hid hl2
  have hle1 : d.blocks.length ≤ d'.blocks.length := by omega
  have hle2 : d.waits.length ≤ d'.waits.length := by omega
  clear hl1 hl2
  go_wp2_with fail
  go_loopw [5] (fun i wr => ∃ k : Nat, k ≤ d.blocks.length ∧ i = .int .i64 k ∧ Below W.heap.size W wr ∧ ∀ j, j < k → d.blocks.getD j [] = d'.blocks.getD j []) (fun i _ => d.blocks.length - (intOf i).toNat)
  case atStart => exact ⟨0, Nat.zero_le _, rfl, Below.refl _ _, fun j hj => absurd hj (Nat.not_lt_zero _)⟩
  case round =>
  obtain ⟨k, hk, rfl, hBr, hall⟩ := hrel
  have c0' := (hBr.cell (p := ⟨w.heap.size, 0, none⟩) (cell_lt' c0)).trans c0
  have c1' := (hBr.cell (p := ⟨w.heap.size, 1, none⟩) (cell_lt' c1)).trans c1
  have d0' := (hBr.cell (p := ⟨w.heap.size + 1, 0, none⟩) (cell_lt' d0)).trans d0
  have d1' := (hBr.cell (p := ⟨w.heap.size + 1, 1, none⟩) (cell_lt' d1)).trans d1
  by_cases hlt : k < d.blocks.length
  · obtain ⟨b1, o1, k1, e1, -, -, -, z1, hb1⟩ := (HQ.out.2.2.1.step hBr).1.at_ (by omega)
    injection e1 with ea _ ec
    subst ea ec
    obtain ⟨b2, o2, k2, e2, -, -, -, z2, hb2⟩ := (HQ.out.2.2.2.1.step hBr).1.at_ (by omega)
    injection e2 with ea _ ec
    subst ea ec
    have hkm : k < d'.blocks.length := by omega
    obtain ⟨x, hx, hxb⟩ := hb1 k (d.blocks.getD k []) (get_l _ _ _ hlt)
    obtain ⟨y, hy, hyb⟩ := hb2 k (d'.blocks.getD k []) (get_l _ _ _ hkm)
    have hx' : wr.cell? ⟨b1, o1 + k, none⟩ = some x := by simpa [rBytes] using hx
    have hy' : wr.cell? ⟨b2, o2 + k, none⟩ = some y := by simpa [rBytes] using hy
    obtain ⟨lx, hlx⟩ : ∃ l, d.blocks.getD k [] = l := ⟨_, rfl⟩
    obtain ⟨ly, hly⟩ : ∃ l, d'.blocks.getD k [] = l := ⟨_, rfl⟩
    rw [hlx] at hxb
    rw [hly] at hyb
    obtain ⟨ax, kx, rfl, -, -⟩ := hxb.form rfl
    obtain ⟨ay, ky, rfl, -, -⟩ := hyb.form rfl
    have v1 := fun nq => cv_of (w := wr.drewN nq) hxb
    have v2 := fun nq => cv_of (w := wr.drewN nq) hyb
    unfold maxLen at z1 z2
    have HP := Lib.hid (And.intro hall (And.intro hBr (And.intro hlx hly)))
    clear hall hBr hlx hly hx hy hxb hyb hb1 hb2 c0 c1 d0 d1
    go_upto_region 6 with (fail)
    go_cut [42] (fun s wx => s = .bool (lx != ly) ∧ Below wr.heap.size wr wx)
    case first =>
      go_quiet (fail)
      go_wp2
      go_meet
      exact ⟨rfl, below_dn _ _ _⟩
    case rest =>
    obtain ⟨rfl, hst⟩ := hcut
    have hBx := below_step HP.out.2.1 HP.out.2.1.size hst
    clear hst
    by_cases he : lx = ly
    · subst he
      have n1 : (lx != lx) = false := by simp
      rw [n1]
      clear n1
      go_wp2
      go_roundw
      case rel => exact ⟨k + 1, by omega, by go_num, hBx, fun j hj => by
        rcases Nat.lt_succ_iff_lt_or_eq.1 hj with hj | rfl
        · exact HP.out.1 j hj
        · rw [HP.out.2.2.1, HP.out.2.2.2]⟩
      case measure => simp [intOf]; omega
    · have n1 : (lx != ly) = true := by simp [he]
      rw [n1]
      obtain rfl := HNO.out (fun e => he (by rw [← HP.out.2.2.1, ← HP.out.2.2.2, e]))
      clear n1
      go_wp2
      go_ret
      exact ⟨rfl, below_step HQ.out.2.2.2.2 HQ.out.2.2.2.2.size hBx⟩
  obtain rfl : k = d.blocks.length := by omega
  have HBL := Lib.hid (ext_getD _ _ [] HL1.out hall)
  clear hall hk hlt c0 c1 d0 d1
  obtain ⟨V, hV⟩ : ∃ V, V = wr := ⟨_, rfl⟩
  subst hV
  have HBV := Lib.hid hBr
  clear hBr
  go_wp2_with fail
  go_loopw [6] (fun i wr => ∃ k : Nat, k ≤ d.waits.length ∧ i = .int .i64 k ∧ Below V.heap.size V wr ∧ ∀ j, j < k → d.waits.getD j ⟨0, []⟩ = d'.waits.getD j ⟨0, []⟩) (fun i _ => d.waits.length - (intOf i).toNat)
  case atStart => exact ⟨0, Nat.zero_le _, rfl, Below.refl _ _, fun j hj => absurd hj (Nat.not_lt_zero _)⟩
  case round =>
  obtain ⟨k, hk, rfl, hBr, hall⟩ := hrel
  replace c0' := (hBr.cell (p := ⟨w.heap.size, 0, none⟩) (cell_lt' c0')).trans c0'
  replace c1' := (hBr.cell (p := ⟨w.heap.size, 1, none⟩) (cell_lt' c1')).trans c1'
  replace d0' := (hBr.cell (p := ⟨w.heap.size + 1, 0, none⟩) (cell_lt' d0')).trans d0'
  replace d1' := (hBr.cell (p := ⟨w.heap.size + 1, 1, none⟩) (cell_lt' d1')).trans d1'
  by_cases hlt : k < d.waits.length
  · obtain ⟨b1, o1, k1, e1, -, -, -, z1, hb1⟩ := ((HQ.out.2.2.1.step HBV.out).step hBr).2.at_ (by omega)
    injection e1 with ea _ ec
    subst ea ec
    obtain ⟨b2, o2, k2, e2, -, -, -, z2, hb2⟩ := ((HQ.out.2.2.2.1.step HBV.out).step hBr).2.at_ (by omega)
    injection e2 with ea _ ec
    subst ea ec
    have hkm : k < d'.waits.length := by omega
    obtain ⟨f0, -, x, f1, hxb⟩ := hb1 k (d.waits.getD k ⟨0, []⟩) (get_l _ _ _ hlt)
    obtain ⟨f0', -, y, f1', hyb⟩ := hb2 k (d'.waits.getD k ⟨0, []⟩) (get_l _ _ _ hkm)
    obtain ⟨X, hX⟩ : ∃ X, d.waits.getD k ⟨0, []⟩ = X := ⟨_, rfl⟩
    obtain ⟨Y, hY⟩ : ∃ Y, d'.waits.getD k ⟨0, []⟩ = Y := ⟨_, rfl⟩
    rw [hX] at f0 hxb
    rw [hY] at f0' hyb
    obtain ⟨px, lx⟩ := X
    obtain ⟨py, ly⟩ := Y
    simp [rWrite] at f0 f1 f0' f1'
    simp only at hxb hyb
    obtain ⟨ax, kx, rfl, -, -⟩ := hxb.form rfl
    obtain ⟨ay, ky, rfl, -, -⟩ := hyb.form rfl
    have v1 := fun nq => cv_of (w := wr.drewN nq) hxb
    have v2 := fun nq => cv_of (w := wr.drewN nq) hyb
    unfold maxLen at z1 z2
    have HP := Lib.hid (And.intro hall (And.intro hBr (And.intro hX hY)))
    clear hall hBr hX hY hxb hyb hb1 hb2
    by_cases hpq : px = py
    case neg =>
      have n1 : (px != py) = true := by simp [hpq]
      have n2 : ¬ px = py := hpq
      obtain rfl := HNO.out (fun e => hpq (by
        have h1 := HP.out.2.2.1
        have h2 := HP.out.2.2.2
        rw [e, h2] at h1
        exact (congrArg WrL.at_ h1).symm))
      go_wp2_with fail
      go_quiet (fail)
      go_wp2
      go_ret
      exact ⟨rfl, (below_step (below_step HQ.out.2.2.2.2 HQ.out.2.2.2.2.size (below_step HBV.out HBV.out.size HP.out.2.1)) (Nat.le_trans HQ.out.2.2.2.2.size (Nat.le_trans HBV.out.size HP.out.2.1.size)) (below_dn _ _ _))⟩
    subst hpq
    have n1 : (px != px) = false := by simp
    go_upto_region 11 with (fail)
    go_cut [79] (fun s wx => s = .bool (lx != ly) ∧ Below wr.heap.size wr wx)
    case first =>
      go_quiet (fail)
      go_wp2
      go_meet
      exact ⟨rfl, below_dn _ _ _⟩
    case rest =>
    obtain ⟨rfl, hst⟩ := hcut
    have hBx := below_step HP.out.2.1 HP.out.2.1.size hst
    clear hst n1
    by_cases he : lx = ly
    · subst he
      have n1 : (lx != lx) = false := by simp
      rw [n1]
      clear n1
      go_wp2
      go_roundw
      case rel => exact ⟨k + 1, by omega, by go_num, hBx, fun j hj => by
        rcases Nat.lt_succ_iff_lt_or_eq.1 hj with hj | rfl
        · exact HP.out.1 j hj
        · rw [HP.out.2.2.1, HP.out.2.2.2]⟩
      case measure => simp [intOf]; omega
    · have n1 : (lx != ly) = true := by simp [he]
      rw [n1]
      obtain rfl := HNO.out (fun e => he (by
        have h1 := HP.out.2.2.1
        have h2 := HP.out.2.2.2
        rw [e, h2] at h1
        exact (congrArg WrL.data h1).symm))
      clear n1
      go_wp2
      go_ret
      exact ⟨rfl, below_step HQ.out.2.2.2.2 HQ.out.2.2.2.2.size (below_step HBV.out HBV.out.size hBx)⟩
  obtain rfl : k = d.waits.length := by omega
  obtain rfl : r = true := by
    rw [← HR.out]
    exact decide_eq_true (HF.out HBL.out (ext_getD _ _ ⟨0, []⟩ HL2.out hall))
  clear hall hk hlt
  go_wp2
  go_ret
  exact ⟨rfl, below_step HQ.out.2.2.2.2 HQ.out.2.2.2.2.size (below_step HBV.out HBV.out.size hBr)⟩

set_option maxRecDepth 100000 in
set_option maxHeartbeats 1000000 in
/-- The reference's Seen: of a disk that may be, at a place inside. -/
theorem rseen_any (b u : Value) (d : DiskL) (pn : Nat) (w : World) (h : DiskV w 0 w.heap.size b u d) (hp : pn < d.blocks.length) :
    Calls Try.prog 70 #[.agg #[b, u], .int .i64 pn] w fun e w' => ∃ v, e = .returned v ∧ Bytes w' 0 w'.heap.size v (seenD d pn) ∧ Below w.heap.size w w' := by
  have hst := (Below.refl w.heap.size w).alloc (Nat.le_refl _) (.cells #[b, u] 39)
  have hD := h.step hst
  have hq := World.alloc_heap_new w (.cells #[b, u] 39)
  obtain ⟨ab, cb, rfl, g1, g2, -, -⟩ := h.1
  obtain ⟨au, cu, rfl, g3, g4, -, -⟩ := h.2
  unfold maxLen at g2 g4
  clear h
  obtain ⟨W, hW⟩ : ∃ W, w.alloc (.cells #[.slice ab d.blocks.length cb, .slice au d.waits.length cu] 39) = W := ⟨_, rfl⟩
  rw [hW] at hst hD hq
  have c0 := blk_cell hq 0
  have c1 := blk_cell hq 1
  simp at c0 c1
  have HQ := Lib.hid (And.intro hD hst)
  clear hD hst hq
  go_enter Try.func70, Try.ntmps70
  go_wp2_with fail
  go_loopw [5] (fun i wr => ∃ k : Nat, k ≤ d.waits.length ∧ i = .int .i64 ((d.waits.length : Int) - 1 - k) ∧ wr = W ∧ ∀ j, d.waits.length ≤ j + k → j < d.waits.length → (d.waits.getD j ⟨0, []⟩).at_ ≠ pn) (fun i _ => (intOf i + 1).toNat)
  case atStart => exact ⟨0, Nat.zero_le _, by simp, rfl, fun j h1 h2 => by omega⟩
  case round =>
  obtain ⟨k, hk, rfl, rfl, hall⟩ := hrel
  by_cases hlt : k < d.waits.length
  · obtain ⟨m, hm, hmk⟩ : ∃ m : Nat, m < d.waits.length ∧ m + 1 + k = d.waits.length := ⟨d.waits.length - 1 - k, by omega, by omega⟩
    rw [show ((d.waits.length : Int) - 1 - (k : Int)) = (m : Int) by omega]
    obtain ⟨b1, o1, k1, e1, -, -, -, z1, hb1⟩ := HQ.out.1.2.at_ (by omega)
    injection e1 with ea _ ec
    subst ea ec
    obtain ⟨f0, -, x, f1, hxb⟩ := hb1 m (d.waits.getD m ⟨0, []⟩) (get_l _ _ _ hm)
    obtain ⟨X, hX⟩ : ∃ X, d.waits.getD m ⟨0, []⟩ = X := ⟨_, rfl⟩
    rw [hX] at f0 hxb
    obtain ⟨px, lx⟩ := X
    simp [rWrite] at f0 f1
    simp only at hxb
    unfold maxLen at z1
    have HP := Lib.hid (And.intro hall (And.intro hX (And.intro hxb hmk)))
    clear hall hX hxb hb1 hmk
    by_cases hpq : px = (pn : Int)
    · have n1 : (px == (pn : Int)) = true := by simp [hpq]
      go_wp2
      go_ret
      refine ⟨x, rfl, ?_, HQ.out.2⟩
      have hs : seenD d pn = lx := by
        unfold seenD
        rw [lastW_at d.waits pn m hm (by rw [HP.out.2.1]; exact hpq) (fun j h1 h2 => HP.out.1 j (by have := HP.out.2.2.2; omega) h2), HP.out.2.1]
      rw [hs]
      exact HP.out.2.2.1
    · have n1 : (px == (pn : Int)) = false := by simp [hpq]
      go_wp2
      go_roundw
      case rel => exact ⟨k + 1, by omega, by have := HP.out.2.2.2; congr 1; omega, trivial, fun j h1 h2 => by
        have hmk := HP.out.2.2.2
        rcases Nat.lt_or_ge m j with h | h
        · exact HP.out.1 j (by omega) h2
        · obtain rfl : j = m := by omega
          rw [HP.out.2.1]
          exact hpq⟩
      case measure => simp [intOf]
  obtain rfl : k = d.waits.length := by omega
  have hs : seenD d pn = d.blocks.getD pn [] := by
    unfold seenD
    rw [lastW_none d.waits pn (fun x hx => by
      obtain ⟨j, hj⟩ := List.mem_iff_getElem?.1 hx
      have hjl := (List.getElem?_eq_some_iff.1 hj).1
      have := hall j (by omega) hjl
      rw [List.getD_eq_getElem?_getD, hj] at this
      exact this)]
    rfl
  have HS := Lib.hid hs
  clear hs hall
  obtain ⟨b1, o1, k1, e1, -, -, -, z1, hb1⟩ := HQ.out.1.1.at_ (by omega)
  injection e1 with ea _ ec
  subst ea ec
  obtain ⟨x, hx, hxb⟩ := hb1 pn (d.blocks.getD pn []) (get_l _ _ _ hp)
  have hx' : wr.cell? ⟨b1, o1 + pn, none⟩ = some x := by simpa [rBytes] using hx
  unfold maxLen at z1
  have HX := Lib.hid hxb
  clear hb1 hx hxb
  go_wp2
  go_ret
  exact ⟨x, rfl, by rw [HS.out]; exact HX.out, HQ.out.2⟩

set_option maxRecDepth 100000 in
set_option maxHeartbeats 1000000 in
/-- The reference's Read. -/
theorem rdread_any (b u : Value) (d : DiskL) (p : Int) (w : World) (h : DiskV w 0 w.heap.size b u d) :
    Calls Try.prog 42 #[.agg #[b, u], .int .i64 p] w fun e w' => ∃ v, e = .returned (.tuple #[v, .int .i64 (errA d p)]) ∧ Bytes w' 0 w'.heap.size v (readB d p) ∧ Below w.heap.size w w' := by
  have hst := (Below.refl w.heap.size w).alloc (Nat.le_refl _) (.cells #[b, u] 39)
  have hD := h.step hst
  have hq := World.alloc_heap_new w (.cells #[b, u] 39)
  have h1 := fun V hh => rmayd_any b u d V hh
  have h2 := fun (pn : Nat) (V : World) hh (hp : pn < d.blocks.length) => rseen_any b u d pn V hh hp
  obtain ⟨ab, cb, rfl, g1, g2, -, -⟩ := h.1
  obtain ⟨au, cu, rfl, g3, g4, -, -⟩ := h.2
  unfold maxLen at g2 g4
  clear h
  obtain ⟨W, hW⟩ : ∃ W, w.alloc (.cells #[.slice ab d.blocks.length cb, .slice au d.waits.length cu] 39) = W := ⟨_, rfl⟩
  rw [hW] at hst hD hq
  have c0 := blk_cell hq 0
  have c1 := blk_cell hq 1
  simp at c0 c1
  obtain ⟨ea, hea⟩ : ∃ ea, errA d p = ea := ⟨_, rfl⟩
  obtain ⟨rb, hrb⟩ : ∃ rb, readB d p = rb := ⟨_, rfl⟩
  rw [hea, hrb]
  have HE := Lib.hid (And.intro hea hrb)
  have HQ := Lib.hid (And.intro hD (And.intro hst hq))
  have HC := Lib.hid (And.intro h1 h2)
  clear hD hst hq hea hrb h1 h2
  go_enter Try.func42, Try.ntmps42
  go_wp2_with fail
  refine (HC.out.1 W HQ.out.1).mono ?_
  rintro e w1 ⟨rfl, hst⟩
  have hB := below_step HQ.out.2.1 HQ.out.2.1.size hst
  have hD := HQ.out.1.step hst
  have d0 := (hst.cell (p := ⟨w.heap.size, 0, none⟩) (cell_lt' c0)).trans c0
  have d1 := (hst.cell (p := ⟨w.heap.size, 1, none⟩) (cell_lt' c1)).trans c1
  have HD := Lib.hid (And.intro hD hB)
  clear c0 c1 hst hD hB
  have hbad : ea ≠ 0 → rb = [] := fun h => by
    rw [← HE.out.2]
    unfold readB
    rw [HE.out.1, if_neg h]
  have HBAD := Lib.hid hbad
  clear hbad
  cases hm : mayD d
  case false =>
    obtain rfl : ea = 8 := by rw [← HE.out.1]; unfold errA; rw [hm]; rfl
    obtain rfl := HBAD.out (by decide)
    clear hm
    go_wp2
    exact bodyPost_ret (v := .tuple #[.slice none 0 0, .int .i64 8]) (by simp [results, Try.results42, go_sem]) rfl ⟨_, rfl, Bytes.nil_ _ _ _, HD.out.2⟩
  have hea : ea = if p < 0 ∨ 256 ≤ p then 2 else 0 := by rw [← HE.out.1, errA_may p hm]
  have HEA := Lib.hid hea
  have HM := Lib.hid hm
  clear hea hm
  by_cases p0 : p < 0
  · obtain rfl : ea = 2 := by rw [HEA.out, if_pos (.inl p0)]
    obtain rfl := HBAD.out (by decide)
    go_wp2
    exact bodyPost_ret (v := .tuple #[.slice none 0 0, .int .i64 2]) (by simp [results, Try.results42, go_sem]) rfl ⟨_, rfl, Bytes.nil_ _ _ _, HD.out.2⟩
  have q0 : decide (p < 0) = false := by simp; omega
  by_cases p2 : 256 ≤ p
  · obtain rfl : ea = 2 := by rw [HEA.out, if_pos (.inr p2)]
    obtain rfl := HBAD.out (by decide)
    go_wp2
    exact bodyPost_ret (v := .tuple #[.slice none 0 0, .int .i64 2]) (by simp [results, Try.results42, go_sem]) rfl ⟨_, rfl, Bytes.nil_ _ _ _, HD.out.2⟩
  have q1 : decide (256 ≤ p) = false := by simp; omega
  obtain rfl : ea = 0 := by rw [HEA.out, if_neg (by omega)]
  obtain ⟨pn, rfl⟩ : ∃ pn : Nat, p = pn := ⟨p.toNat, by omega⟩
  have hs : rb = seenD d pn := by rw [← HE.out.2]; unfold readB; rw [HE.out.1, if_pos rfl]
  subst hs
  clear HBAD HE
  go_wp2_with fail
  refine (HC.out.2 pn w1 HD.out.1 (by have := (may_len HM.out).1; omega)).mono ?_
  rintro e w2 ⟨v, rfl, hv, hst⟩
  have hfin := below_step HD.out.2 HD.out.2.size hst
  go_wp2
  exact bodyPost_ret (v := .tuple #[v, .int .i64 0]) (by simp [results, Try.results42, go_sem]) rfl ⟨v, rfl, hv, hfin⟩
end Go.Proofs.Ytldidclnfkmonaa

