/- CountTables: the words and contracts, part 13. -/
import Derived.Test.YthealkfpflkipaaCountTablesQ1
import Derived.Test.YthealkfpflkipaaCountTablesQ2
import Derived.Test.YthealkfpflkipaaCountTablesQ3
import Derived.Test.YthealkfpflkipaaCountTablesQ4
import Derived.Test.YthealkfpflkipaaCountTablesQ5
import Derived.Test.YthealkfpflkipaaCountTablesQ6
import Derived.Test.YthealkfpflkipaaCountTablesQ7
import Derived.Test.YthealkfpflkipaaCountTablesQ8
import Derived.Test.YthealkfpflkipaaCountTablesQ9
import Derived.Test.YthealkfpflkipaaCountTablesQ12
import Derived.WalkKit
import Derived.WalkLawsBesides
import Derived.WalkSpells
import Derived.Lib.Hide
import Derived.Laws.Rows
import Derived.Laws.AppendOwnNone
import Derived.Maps.AppendAt
import Derived.RangeFuncNested
import Derived.RangeFuncBound
import Derived.RangeFuncCalls
import Derived.RangeFuncLeaves
import Derived.RangeFuncBox
import Derived.Shelf.Abstract
import Derived.Shelf.RegionOpen
import Derived.OwnWalkIn
import Derived.TacticsInMore
import Derived.LoopNIn
import Derived.LoopIn
import Derived.ProofKit
import Derived.Deep.Slices
import Derived.WideShapes
import Derived.OrdersHeld
import Derived.Deep.QuietTactic
import Derived.BigQuiet
import Derived.StillTailTactics
import Derived.OpenShut
import Derived.Lib.SliceRun
import Derived.Lib.AppendZerosOnto
import Derived.Lib.Walk
import Derived.Deep.LoopGhost
import Derived.Laws.CopyOwn
import Derived.Deep.DeepCutAuto
import Derived.Laws.CopyRow
import Derived.Laws.MakeOwn
import Derived.Deep.RegionHeld
namespace Go.Proofs.Ythealkfpflkipaa
open Go.RowKit

set_option maxRecDepth 100000 in
set_option maxHeartbeats 1000000 in
/-- The reference's May. -/
theorem rmayd_any (b u : Value) (d : DiskL) (w : World) (h : DiskV w 0 w.heap.size b u d) :
    Calls Try.prog 44 #[.agg #[b, u]] w fun e w' => e = .returned (.bool (mayD d)) ∧ Below w.heap.size w w' := by
  have hB := (Below.refl w.heap.size w).alloc (Nat.le_refl _) (.cells #[b, u] 26)
  have hb := h.1.step hB
  have hu := h.2.step hB
  have hq := World.alloc_heap_new w (.cells #[b, u] 26)
  obtain ⟨ab, cb, rfl, g1, g2, -, -⟩ := h.1
  obtain ⟨au, cu, rfl, g1', g2', -, -⟩ := h.2
  unfold maxLen at g2 g2'
  obtain ⟨bl, wl⟩ := d
  clear h
  simp only at *
  obtain ⟨W, hW⟩ : ∃ W, w.alloc (.cells #[.slice ab bl.length cb, .slice au wl.length cu] 26) = W := ⟨_, rfl⟩
  rw [hW] at hB hb hu hq
  have HM := Lib.hid (show mayD ⟨bl, wl⟩ = (bl.length == 256 && decide (wl.length ≤ 4096) && bl.all (fun b => b.length == 128) && wl.all okW) from rfl)
  generalize mayD ⟨bl, wl⟩ = md at *
  have HQ := Lib.hid (And.intro hq (And.intro hb (And.intro hu (And.intro hW hB))))
  clear hq hb hu hW hB
  go_enter Try.func44, Try.ntmps44
  go_upto_region 1 with (fail)
  rw [HQ.out.2.2.2.1]
  have c0 := blk_cell HQ.out.1 0
  have c1 := blk_cell HQ.out.1 1
  simp at c0 c1
  by_cases h1 : ¬ bl.length = 256
  · have i1 : ¬ (bl.length : Int) = 256 := by omega
    have hm : md = false := by rw [HM.out]; simp [h1]
    subst hm
    go_wp2
    go_ret
    exact ⟨rfl, HQ.out.2.2.2.2⟩
  have hbl : bl.length = 256 := by omega
  clear h1
  by_cases h2 : 4096 < wl.length
  · have i1 : (4096 : Int) < wl.length := by omega
    have hm : md = false := by rw [HM.out]; simp [hbl]; omega
    subst hm
    go_wp2
    go_ret
    exact ⟨rfl, HQ.out.2.2.2.2⟩
  have i2 : decide ((4096 : Int) < wl.length) = false := by simp; omega
  have HM2 := Lib.hid (show md = (bl.all (fun b => b.length == 128) && wl.all okW) by rw [HM.out, hbl]; simp [show wl.length ≤ 4096 by omega])
  clear HM
  have hb := HQ.out.2.1
  obtain ⟨bb, bo, cb', e', -, z1, z2, z3, hbe⟩ := hb.at_ (by omega)
  injection e' with ea _ ec
  subst ea ec
  have HBE := Lib.hid hbe
  unfold maxLen at z3
  clear hbe hb
  rw [hbl] at HQ g1 z2 c0 ⊢
  go_wp2_with fail
  go_loopw [3] (fun i wr => ∃ k : Nat, k ≤ 256 ∧ i = .int .i64 k ∧ wr = W ∧ ∀ j, j < k → (bl.getD j []).length = 128) (fun i _ => 256 - (intOf i).toNat)
  case atStart => exact ⟨0, Nat.zero_le _, rfl, rfl, fun j hj => absurd hj (Nat.not_lt_zero _)⟩
  case round =>
  obtain ⟨k, hk, rfl, rfl, hall⟩ := hrel
  by_cases hlt : k < 256
  · obtain ⟨v, hv, hvb⟩ := HBE.out k (bl.getD k []) (get_l _ _ _ (by omega))
    obtain ⟨av, cv, rfl, -, hcv⟩ := hvb.form rfl
    unfold maxLen at hcv
    have hv' : wr.cell? ⟨bb, bo + k, none⟩ = some (.slice av (bl.getD k []).length cv) := by simpa [rBytes] using hv
    obtain ⟨y, hy⟩ : ∃ y, bl.getD k [] = y := ⟨_, rfl⟩
    rw [hy] at hv'
    have HY := Lib.hid (And.intro hy hall)
    clear hv hvb hy hall
    by_cases h5 : y.length = 128
    · rw [h5] at hv'
      go_wp2
      go_roundw
      case rel => exact ⟨k + 1, by omega, by go_num, trivial, fun j hj => by
        by_cases e : j = k
        · subst e; rw [HY.out.1]; exact h5
        · exact HY.out.2 j (by omega)⟩
      case measure => simp [intOf]; omega
    · have i5 : ¬ (y.length : Int) = 128 := by omega
      have hm : md = false := by
        rw [HM2.out]
        have : bl.all (fun b => b.length == 128) = false := by
          rw [List.all_eq_false]
          refine ⟨y, ?_, by simp [h5]⟩
          rw [← HY.out.1]
          exact List.mem_of_getElem? (get_l _ _ _ (by omega))
        rw [this]; rfl
      subst hm
      go_wp2
      go_ret
      exact ⟨rfl, HQ.out.2.2.2.2⟩
  obtain rfl : k = 256 := by omega
  have hall2 : bl.all (fun b => b.length == 128) = true := by
    rw [List.all_eq_true]
    intro x hx
    obtain ⟨j, hj⟩ := List.mem_iff_getElem?.1 hx
    have hjl : j < bl.length := (List.getElem?_eq_some_iff.1 hj).1
    rw [get_l bl [] j hjl] at hj
    cases hj
    exact beq_iff_eq.2 (hall j (by omega))
  obtain ⟨V, hV⟩ : ∃ V, V = wr := ⟨_, rfl⟩
  subst hV
  have HM3 := Lib.hid (show md = wl.all okW by rw [HM2.out, hall2]; rfl)
  clear HM2 hall hall2 hlt hk HBE i2
  go_wp2_with fail
  go_loopw [4] (fun i wx => ∃ k : Nat, k ≤ wl.length ∧ i = .int .i64 k ∧ wx = V ∧ ∀ j, j < k → okW (wl.getD j ⟨0, []⟩) = true) (fun i _ => wl.length - (intOf i).toNat)
  case atStart => exact ⟨0, Nat.zero_le _, rfl, rfl, fun j hj => absurd hj (Nat.not_lt_zero _)⟩
  case round =>
  obtain ⟨k, hk, rfl, rfl, hall⟩ := hrel
  by_cases hlt : k < wl.length
  · obtain ⟨wb, wo, wc, e', -, y1, y2, y3, hwe⟩ := HQ.out.2.2.1.at_ (by omega)
    injection e' with ea _ ec
    subst ea ec
    unfold maxLen at y3
    obtain ⟨f0, f1, v, f2, f3⟩ := hwe k (wl.getD k ⟨0, []⟩) (get_l _ _ _ hlt)
    obtain ⟨av, cv, rfl, -, hcv⟩ := f3.form rfl
    unfold maxLen at hcv
    obtain ⟨y, hy⟩ : ∃ y, wl.getD k ⟨0, []⟩ = y := ⟨_, rfl⟩
    rw [hy] at f0 f1 f2
    have HY := Lib.hid (And.intro hy hall)
    clear hwe f3 hy hall
    obtain ⟨at_, dt⟩ := y
    simp [rWrite] at f0 f2
    have hokw : okW ⟨at_, dt⟩ = (decide (0 ≤ at_) && decide (at_ < 256) && dt.length == 128) := rfl
    have hfin := Lib.hid HQ.out.2.2.2.2
    have hbad : okW ⟨at_, dt⟩ = false → md = false := fun h => by
      rw [HM3.out, List.all_eq_false]
      refine ⟨⟨at_, dt⟩, ?_, by rw [h]; decide⟩
      rw [← HY.out.1]
      exact List.mem_of_getElem? (get_l _ _ _ hlt)
    have HBD := Lib.hid hbad
    clear hbad
    by_cases a1 : at_ < 0
    · have hm := HBD.out (by rw [hokw]; simp; omega)
      subst hm
      clear hokw
      go_wp2
      go_ret
      exact ⟨rfl, hfin.out⟩
    have d1 : decide (at_ < 0) = false := by simp; omega
    by_cases a2 : 256 ≤ at_
    · have hm := HBD.out (by rw [hokw]; simp; omega)
      subst hm
      clear hokw
      go_wp2
      go_ret
      exact ⟨rfl, hfin.out⟩
    have d2 : decide (256 ≤ at_) = false := by simp; omega
    by_cases a3 : dt.length = 128
    · have HOK := Lib.hid (show okW ⟨at_, dt⟩ = true by rw [hokw]; simp [a3]; omega)
      clear hokw
      go_wp2
      go_roundw
      case rel => exact ⟨k + 1, by omega, by go_num, trivial, fun j hj => by
        by_cases e : j = k
        · subst e; rw [HY.out.1]; exact HOK.out
        · exact HY.out.2 j (by omega)⟩
      case measure => simp [intOf]; omega
    · have i5 : ¬ (dt.length : Int) = 128 := by omega
      have hm := HBD.out (by rw [hokw]; simp [a3])
      subst hm
      clear hokw
      go_wp2
      go_ret
      exact ⟨rfl, hfin.out⟩
  obtain rfl : k = wl.length := by omega
  have hm : md = true := by
    rw [HM3.out, List.all_eq_true]
    intro x hx
    obtain ⟨j, hj⟩ := List.mem_iff_getElem?.1 hx
    have hjl : j < wl.length := (List.getElem?_eq_some_iff.1 hj).1
    rw [get_l wl ⟨0, []⟩ j hjl] at hj
    cases hj
    exact hall j hjl
  subst hm
  have hfin := HQ.out.2.2.2.2
  clear hall
  go_wp2
  go_ret
  exact ⟨rfl, hfin⟩

end Go.Proofs.Ythealkfpflkipaa

namespace Go.Proofs.Ythealkfpflkipaa
open Go.RowKit

set_option maxRecDepth 100000 in
set_option maxHeartbeats 1000000 in
/-- The reference's Same. -/
theorem rdsame_any (b u b' u' : Value) (d d' : DiskL) (w : World) (h : DiskV w 0 w.heap.size b u d) (h' : DiskV w 0 w.heap.size b' u' d') :
    Calls Try.prog 17 #[.agg #[b, u], .agg #[b', u']] w fun e w' => e = .returned (.bool (decide (d = d'))) ∧ Below w.heap.size w w' := by
  have hB := ((Below.refl w.heap.size w).alloc (Nat.le_refl _) (.cells #[b, u] 26)).alloc (by simp) (.cells #[b', u'] 26)
  have hq := two_new w (.cells #[b, u] 26) (.cells #[b', u'] 26)
  have hD : DiskV _ 0 _ b u d := h.step hB
  have hD' : DiskV _ 0 _ b' u' d' := h'.step hB
  obtain ⟨ab, cb, rfl, g1, g2, -, -⟩ := h.1
  obtain ⟨au, cu, rfl, g3, g4, -, -⟩ := h.2
  obtain ⟨ab', cb', rfl, g1', g2', -, -⟩ := h'.1
  obtain ⟨au', cu', rfl, g3', g4', -, -⟩ := h'.2
  unfold maxLen at g2 g4 g2' g4'
  clear h h'
  obtain ⟨W, hW⟩ : ∃ W, (w.alloc (.cells #[.slice ab d.blocks.length cb, .slice au d.waits.length cu] 26)).alloc (.cells #[.slice ab' d'.blocks.length cb', .slice au' d'.waits.length cu'] 26) = W := ⟨_, rfl⟩
  rw [hW] at hB hq hD hD'
  obtain ⟨r, hr⟩ : ∃ r, decide (d = d') = r := ⟨_, rfl⟩
  rw [hr]
  have HR := Lib.hid hr
  have HF := Lib.hid (show (d.blocks = d'.blocks → d.waits = d'.waits → d = d') from fun h1 h2 => by cases d; cases d'; simp at h1 h2; rw [h1, h2])
  have HQ := Lib.hid (And.intro hq.1 (And.intro hq.2 (And.intro hD (And.intro hD' hB))))
  have hno : d ≠ d' → r = false := fun h => by rw [← HR.out]; exact decide_eq_false h
  have HNO := Lib.hid hno
  clear hr hq hD hD' hB hno
  have c0 := blk_cell HQ.out.1 0
  have c1 := blk_cell HQ.out.1 1
  have d0 := blk_cell HQ.out.2.1 0
  have d1 := blk_cell HQ.out.2.1 1
  simp at c0 c1 d0 d1
  go_enter Try.func17, Try.ntmps17
  by_cases hl1 : d.blocks.length = d'.blocks.length
  case neg =>
    obtain rfl := HNO.out (fun e => hl1 (by rw [e]))
    have i1 : ¬ (d.blocks.length : Int) = d'.blocks.length := by omega
    go_wp2
    go_ret
    exact ⟨rfl, HQ.out.2.2.2.2⟩
  have i1 : ((d.blocks.length : Int) != d'.blocks.length) = false := by simp; omega
  by_cases hl2 : d.waits.length = d'.waits.length
  case neg =>
    obtain rfl := HNO.out (fun e => hl2 (by rw [e]))
    have i2 : ¬ (d.waits.length : Int) = d'.waits.length := by omega
    have HL1 := Lib.hid hl1
    clear hl1
    go_wp2
    go_ret
    exact ⟨rfl, HQ.out.2.2.2.2⟩
  have i2 : ((d.waits.length : Int) != d'.waits.length) = false := by simp; omega
  have HL1 := Lib.hid hl1
  have HL2 := Lib.hid hl2
  have hle1 : d.blocks.length ≤ d'.blocks.length := by omega
  have hle2 : d.waits.length ≤ d'.waits.length := by omega
  clear hl1 hl2
  go_wp2_with fail
  go_loopw [5] (fun i wr => ∃ k : Nat, k ≤ d.blocks.length ∧ i = .int .i64 k ∧ Below W.heap.size W wr ∧ ∀ j, j < k → d.blocks.getD j [] = d'.blocks.getD j []) (fun i _ => d.blocks.length - (intOf i).toNat)
  case atStart => exact ⟨0, Nat.zero_le _, rfl, Below.refl _ _, fun j hj => absurd hj (Nat.not_lt_zero _)⟩
  case round =>
  obtain ⟨k, hk, rfl, hBr, hall⟩ := hrel
  have c0' := (hBr.cell (p := ⟨w.heap.size, 0, none⟩) (cell_lt' c0)).trans c0
  have c1' := (hBr.cell (p := ⟨w.heap.size, 1, none⟩) (cell_lt' c1)).trans c1
  have d0' := (hBr.cell (p := ⟨w.heap.size + 1, 0, none⟩) (cell_lt' d0)).trans d0
  have d1' := (hBr.cell (p := ⟨w.heap.size + 1, 1, none⟩) (cell_lt' d1)).trans d1
  by_cases hlt : k < d.blocks.length
  · obtain ⟨b1, o1, k1, e1, -, -, -, z1, hb1⟩ := (HQ.out.2.2.1.step hBr).1.at_ (by omega)
    injection e1 with ea _ ec
    subst ea ec
    obtain ⟨b2, o2, k2, e2, -, -, -, z2, hb2⟩ := (HQ.out.2.2.2.1.step hBr).1.at_ (by omega)
    injection e2 with ea _ ec
    subst ea ec
    have hkm : k < d'.blocks.length := by omega
    obtain ⟨x, hx, hxb⟩ := hb1 k (d.blocks.getD k []) (get_l _ _ _ hlt)
    obtain ⟨y, hy, hyb⟩ := hb2 k (d'.blocks.getD k []) (get_l _ _ _ hkm)
    have hx' : wr.cell? ⟨b1, o1 + k, none⟩ = some x := by simpa [rBytes] using hx
    have hy' : wr.cell? ⟨b2, o2 + k, none⟩ = some y := by simpa [rBytes] using hy
    obtain ⟨lx, hlx⟩ : ∃ l, d.blocks.getD k [] = l := ⟨_, rfl⟩
    obtain ⟨ly, hly⟩ : ∃ l, d'.blocks.getD k [] = l := ⟨_, rfl⟩
    rw [hlx] at hxb
    rw [hly] at hyb
    obtain ⟨ax, kx, rfl, -, -⟩ := hxb.form rfl
    obtain ⟨ay, ky, rfl, -, -⟩ := hyb.form rfl
    have v1 := fun nq => cv_of (w := wr.drewN nq) hxb
    have v2 := fun nq => cv_of (w := wr.drewN nq) hyb
    unfold maxLen at z1 z2
    have HP := Lib.hid (And.intro hall (And.intro hBr (And.intro hlx hly)))
    clear hall hBr hlx hly hx hy hxb hyb hb1 hb2 c0 c1 d0 d1
    go_upto_region 6 with (fail)
    go_cut [42] (fun s wx => s = .bool (lx != ly) ∧ Below wr.heap.size wr wx)
    case first =>
      go_quiet (fail)
      go_wp2
      go_meet
      exact ⟨rfl, below_dn _ _ _⟩
    case rest =>
    obtain ⟨rfl, hst⟩ := hcut
    have hBx := below_step HP.out.2.1 HP.out.2.1.size hst
    clear hst
    by_cases he : lx = ly
    · subst he
      have n1 : (lx != lx) = false := by simp
      rw [n1]
      clear n1
      go_wp2
      go_roundw
      case rel => exact ⟨k + 1, by omega, by go_num, hBx, fun j hj => by
        rcases Nat.lt_succ_iff_lt_or_eq.1 hj with hj | rfl
        · exact HP.out.1 j hj
        · rw [HP.out.2.2.1, HP.out.2.2.2]⟩
      case measure => simp [intOf]; omega
    · have n1 : (lx != ly) = true := by simp [he]
      rw [n1]
      obtain rfl := HNO.out (fun e => he (by rw [← HP.out.2.2.1, ← HP.out.2.2.2, e]))
      clear n1
      go_wp2
      go_ret
      exact ⟨rfl, below_step HQ.out.2.2.2.2 HQ.out.2.2.2.2.size hBx⟩
  obtain rfl : k = d.blocks.length := by omega
  have HBL := Lib.hid (ext_getD _ _ [] HL1.out hall)
  clear hall hk hlt c0 c1 d0 d1
  obtain ⟨V, hV⟩ : ∃ V, V = wr := ⟨_, rfl⟩
  subst hV
  have HBV := Lib.hid hBr
  clear hBr
  go_wp2_with fail
  go_loopw [6] (fun i wr => ∃ k : Nat, k ≤ d.waits.length ∧ i = .int .i64 k ∧ Below V.heap.size V wr ∧ ∀ j, j < k → d.waits.getD j ⟨0, []⟩ = d'.waits.getD j ⟨0, []⟩) (fun i _ => d.waits.length - (intOf i).toNat)
  case atStart => exact ⟨0, Nat.zero_le _, rfl, Below.refl _ _, fun j hj => absurd hj (Nat.not_lt_zero _)⟩
  case round =>
  obtain ⟨k, hk, rfl, hBr, hall⟩ := hrel
  replace c0' := (hBr.cell (p := ⟨w.heap.size, 0, none⟩) (cell_lt' c0')).trans c0'
  replace c1' := (hBr.cell (p := ⟨w.heap.size, 1, none⟩) (cell_lt' c1')).trans c1'
  replace d0' := (hBr.cell (p := ⟨w.heap.size + 1, 0, none⟩) (cell_lt' d0')).trans d0'
  replace d1' := (hBr.cell (p := ⟨w.heap.size + 1, 1, none⟩) (cell_lt' d1')).trans d1'
  by_cases hlt : k < d.waits.length
  · obtain ⟨b1, o1, k1, e1, -, -, -, z1, hb1⟩ := ((HQ.out.2.2.1.step HBV.out).step hBr).2.at_ (by omega)
    injection e1 with ea _ ec
    subst ea ec
    obtain ⟨b2, o2, k2, e2, -, -, -, z2, hb2⟩ := ((HQ.out.2.2.2.1.step HBV.out).step hBr).2.at_ (by omega)
    injection e2 with ea _ ec
    subst ea ec
    have hkm : k < d'.waits.length := by omega
    obtain ⟨f0, -, x, f1, hxb⟩ := hb1 k (d.waits.getD k ⟨0, []⟩) (get_l _ _ _ hlt)
    obtain ⟨f0', -, y, f1', hyb⟩ := hb2 k (d'.waits.getD k ⟨0, []⟩) (get_l _ _ _ hkm)
    obtain ⟨X, hX⟩ : ∃ X, d.waits.getD k ⟨0, []⟩ = X := ⟨_, rfl⟩
    obtain ⟨Y, hY⟩ : ∃ Y, d'.waits.getD k ⟨0, []⟩ = Y := ⟨_, rfl⟩
    rw [hX] at f0 hxb
    rw [hY] at f0' hyb
    obtain ⟨px, lx⟩ := X
    obtain ⟨py, ly⟩ := Y
    simp [rWrite] at f0 f1 f0' f1'
    simp only at hxb hyb
    obtain ⟨ax, kx, rfl, -, -⟩ := hxb.form rfl
    obtain ⟨ay, ky, rfl, -, -⟩ := hyb.form rfl
    have v1 := fun nq => cv_of (w := wr.drewN nq) hxb
    have v2 := fun nq => cv_of (w := wr.drewN nq) hyb
    unfold maxLen at z1 z2
    have HP := Lib.hid (And.intro hall (And.intro hBr (And.intro hX hY)))
    clear hall hBr hX hY hxb hyb hb1 hb2
    by_cases hpq : px = py
    case neg =>
      have n1 : (px != py) = true := by simp [hpq]
      have n2 : ¬ px = py := hpq
      obtain rfl := HNO.out (fun e => hpq (by
        have h1 := HP.out.2.2.1
        have h2 := HP.out.2.2.2
        rw [e, h2] at h1
        exact (congrArg WrL.at_ h1).symm))
      go_wp2_with fail
      go_quiet (fail)
      go_wp2
      go_ret
      exact ⟨rfl, (below_step (below_step HQ.out.2.2.2.2 HQ.out.2.2.2.2.size (below_step HBV.out HBV.out.size HP.out.2.1)) (Nat.le_trans HQ.out.2.2.2.2.size (Nat.le_trans HBV.out.size HP.out.2.1.size)) (below_dn _ _ _))⟩
    subst hpq
    have n1 : (px != px) = false := by simp
    go_upto_region 11 with (fail)
    go_cut [79] (fun s wx => s = .bool (lx != ly) ∧ Below wr.heap.size wr wx)
    case first =>
      go_quiet (fail)
      go_wp2
      go_meet
      exact ⟨rfl, below_dn _ _ _⟩
    case rest =>
    obtain ⟨rfl, hst⟩ := hcut
    have hBx := below_step HP.out.2.1 HP.out.2.1.size hst
    clear hst n1
    by_cases he : lx = ly
    · subst he
      have n1 : (lx != lx) = false := by simp
      rw [n1]
      clear n1
      go_wp2
      go_roundw
      case rel => exact ⟨k + 1, by omega, by go_num, hBx, fun j hj => by
        rcases Nat.lt_succ_iff_lt_or_eq.1 hj with hj | rfl
        · exact HP.out.1 j hj
        · rw [HP.out.2.2.1, HP.out.2.2.2]⟩
      case measure => simp [intOf]; omega
    · have n1 : (lx != ly) = true := by simp [he]
      rw [n1]
      obtain rfl := HNO.out (fun e => he (by
        have h1 := HP.out.2.2.1
        have h2 := HP.out.2.2.2
        rw [e, h2] at h1
        exact (congrArg WrL.data h1).symm))
      clear n1
      go_wp2
      go_ret
      exact ⟨rfl, below_step HQ.out.2.2.2.2 HQ.out.2.2.2.2.size (below_step HBV.out HBV.out.size hBx)⟩
  obtain rfl : k = d.waits.length := by omega
  obtain rfl : r = true := by
    rw [← HR.out]
    exact decide_eq_true (HF.out HBL.out (ext_getD _ _ ⟨0, []⟩ HL2.out hall))
  clear hall hk hlt
  go_wp2
  go_ret
  exact ⟨rfl, below_step HQ.out.2.2.2.2 HQ.out.2.2.2.2.size (below_step HBV.out HBV.out.size hBr)⟩

set_option maxRecDepth 100000 in
set_option maxHeartbeats 1000000 in
/-- The reference's Seen: of a disk that may be, at a place inside. -/
theorem rseen_any (b u : Value) (d : DiskL) (pn : Nat) (w : World) (h : DiskV w 0 w.heap.size b u d) (hp : pn < d.blocks.length) :
    Calls Try.prog 79 #[.agg #[b, u], .int .i64 pn] w fun e w' => ∃ v, e = .returned v ∧ Bytes w' 0 w'.heap.size v (seenD d pn) ∧ Below w.heap.size w w' := by
  have hst := (Below.refl w.heap.size w).alloc (Nat.le_refl _) (.cells #[b, u] 26)
  have hD := h.step hst
  have hq := World.alloc_heap_new w (.cells #[b, u] 26)
  obtain ⟨ab, cb, rfl, g1, g2, -, -⟩ := h.1
  obtain ⟨au, cu, rfl, g3, g4, -, -⟩ := h.2
  unfold maxLen at g2 g4
  clear h
  obtain ⟨W, hW⟩ : ∃ W, w.alloc (.cells #[.slice ab d.blocks.length cb, .slice au d.waits.length cu] 26) = W := ⟨_, rfl⟩
  rw [hW] at hst hD hq
  have c0 := blk_cell hq 0
  have c1 := blk_cell hq 1
  simp at c0 c1
  have HQ := Lib.hid (And.intro hD hst)
  clear hD hst hq
  go_enter Try.func79, Try.ntmps79
  go_wp2_with fail
  go_loopw [5] (fun i wr => ∃ k : Nat, k ≤ d.waits.length ∧ i = .int .i64 ((d.waits.length : Int) - 1 - k) ∧ wr = W ∧ ∀ j, d.waits.length ≤ j + k → j < d.waits.length → (d.waits.getD j ⟨0, []⟩).at_ ≠ pn) (fun i _ => (intOf i + 1).toNat)
  case atStart => exact ⟨0, Nat.zero_le _, by simp, rfl, fun j h1 h2 => by omega⟩
  case round =>
  obtain ⟨k, hk, rfl, rfl, hall⟩ := hrel
  by_cases hlt : k < d.waits.length
  · obtain ⟨m, hm, hmk⟩ : ∃ m : Nat, m < d.waits.length ∧ m + 1 + k = d.waits.length := ⟨d.waits.length - 1 - k, by omega, by omega⟩
    rw [show ((d.waits.length : Int) - 1 - (k : Int)) = (m : Int) by omega]
    obtain ⟨b1, o1, k1, e1, -, -, -, z1, hb1⟩ := HQ.out.1.2.at_ (by omega)
    injection e1 with ea _ ec
    subst ea ec
    obtain ⟨f0, -, x, f1, hxb⟩ := hb1 m (d.waits.getD m ⟨0, []⟩) (get_l _ _ _ hm)
    obtain ⟨X, hX⟩ : ∃ X, d.waits.getD m ⟨0, []⟩ = X := ⟨_, rfl⟩
    rw [hX] at f0 hxb
    obtain ⟨px, lx⟩ := X
    simp [rWrite] at f0 f1
    simp only at hxb
    unfold maxLen at z1
    have HP := Lib.hid (And.intro hall (And.intro hX (And.intro hxb hmk)))
    clear hall hX hxb hb1 hmk
    by_cases hpq : px = (pn : Int)
    · have n1 : (px == (pn : Int)) = true := by simp [hpq]
      go_wp2
      go_ret
      refine ⟨x, rfl, ?_, HQ.out.2⟩
      have hs : seenD d pn = lx := by
        unfold seenD
        rw [lastW_at d.waits pn m hm (by rw [HP.out.2.1]; exact hpq) (fun j h1 h2 => HP.out.1 j (by have := HP.out.2.2.2; omega) h2), HP.out.2.1]
      rw [hs]
      exact HP.out.2.2.1
    · have n1 : (px == (pn : Int)) = false := by simp [hpq]
      go_wp2
      go_roundw
      case rel => exact ⟨k + 1, by omega, by have := HP.out.2.2.2; congr 1; omega, trivial, fun j h1 h2 => by
        have hmk := HP.out.2.2.2
        rcases Nat.lt_or_ge m j with h | h
        · exact HP.out.1 j (by omega) h2
        · obtain rfl : j = m := by omega
          rw [HP.out.2.1]
          exact hpq⟩
      case measure => simp [intOf]
  obtain rfl : k = d.waits.length := by omega
  have hs : seenD d pn = d.blocks.getD pn [] := by
    unfold seenD
    rw [lastW_none d.waits pn (fun x hx => by
      obtain ⟨j, hj⟩ := List.mem_iff_getElem?.1 hx
      have hjl := (List.getElem?_eq_some_iff.1 hj).1
      have := hall j (by omega) hjl
      rw [List.getD_eq_getElem?_getD, hj] at this
      exact this)]
    rfl
  have HS := Lib.hid hs
  clear hs hall
  obtain ⟨b1, o1, k1, e1, -, -, -, z1, hb1⟩ := HQ.out.1.1.at_ (by omega)
  injection e1 with ea _ ec
  subst ea ec
  obtain ⟨x, hx, hxb⟩ := hb1 pn (d.blocks.getD pn []) (get_l _ _ _ hp)
  have hx' : wr.cell? ⟨b1, o1 + pn, none⟩ = some x := by simpa [rBytes] using hx
  unfold maxLen at z1
  have HX := Lib.hid hxb
  clear hb1 hx hxb
  go_wp2
  go_ret
  exact ⟨x, rfl, by rw [HS.out]; exact HX.out, HQ.out.2⟩

end Go.Proofs.Ythealkfpflkipaa

namespace Go.Proofs.Ythealkfpflkipaa
open Go.RowKit

/-- The cells of some writes. -/
def wcells (bs : List (Int × Value)) : List Value := bs.flatMap fun x => [.int .i64 x.1, x.2]
theorem wcells_length (bs : List (Int × Value)) : (wcells bs).length = bs.length * 2 := by
  induction bs with
  | nil => rfl
  | cons x l ih =>
    show ([Value.int .i64 x.1, x.2] ++ wcells l).length = _
    rw [List.length_append, ih]
    simp
    omega
theorem wcells_get (bs : List (Int × Value)) (i : Nat) (x : Int × Value) (h : bs[i]? = some x) : (wcells bs)[i * 2]? = some (.int .i64 x.1) ∧ (wcells bs)[i * 2 + 1]? = some x.2 := by
  induction bs generalizing i with
  | nil => simp at h
  | cons y l ih =>
    cases i with
    | zero => simp at h; subst h; exact ⟨rfl, rfl⟩
    | succ i =>
      obtain ⟨h1, h2⟩ := ih i (by simpa using h)
      have e : wcells (y :: l) = .int .i64 y.1 :: y.2 :: wcells l := rfl
      rw [e, show (i + 1) * 2 = i * 2 + 1 + 1 by omega, show i * 2 + 1 + 1 + 1 = (i * 2 + 1) + 1 + 1 by omega, List.getElem?_cons_succ, List.getElem?_cons_succ, List.getElem?_cons_succ, List.getElem?_cons_succ]
      exact ⟨h1, h2⟩
theorem wcells_inv (bs : List (Int × Value)) (j : Nat) (u : Value) (h : (wcells bs)[j]? = some u) : ∃ i x, bs[i]? = some x ∧ ((j = i * 2 ∧ u = .int .i64 x.1) ∨ (j = i * 2 + 1 ∧ u = x.2)) := by
  have hj : j < bs.length * 2 := by rw [← wcells_length]; exact (List.getElem?_eq_some_iff.1 h).1
  have hi : j / 2 < bs.length := by omega
  refine ⟨j / 2, bs[j / 2], by simp [hi], ?_⟩
  obtain ⟨h1, h2⟩ := wcells_get bs (j / 2) bs[j / 2] (by simp [hi])
  rcases Nat.mod_two_eq_zero_or_one j with e | e
  · left
    have e2 : j = j / 2 * 2 := by omega
    rw [e2] at h
    exact ⟨e2, Option.some.inj (h.symm.trans h1)⟩
  · right
    have e2 : j = j / 2 * 2 + 1 := by omega
    rw [e2] at h
    exact ⟨e2, Option.some.inj (h.symm.trans h2)⟩

/-- Writes that may be appended: their cells are there; their bytes lie in W. -/
def SrcW (W w : World) (sv : Value) (l : List WrL) : Prop := ∃ a c, sv = .slice a l.length c ∧ (a = none → c = 0 ∧ l = []) ∧
  ∃ bs : List (Int × Value), bs.length = l.length ∧ (∀ (i : Nat) (x : WrL), l[i]? = some x → ∃ y : Value, bs[i]? = some (x.at_, y) ∧ (Lit.int .i64 x.at_).wf = true ∧ Bytes W 0 W.heap.size y x.data) ∧
    ∀ ad, a = some ad → ∀ j u, (wcells bs)[j]? = some u → w.cell? (ad.add j) = some u
theorem SrcW.of {W w : World} {sv : Value} {l : List WrL} (h : Sl rWrite W 0 W.heap.size sv l) (hB : Below W.heap.size W w) : SrcW W w sv l := by
  obtain ⟨a, c, rfl, h1, h2, h3, h4⟩ := id h
  refine ⟨a, c, rfl, fun e => ⟨h4 e, List.eq_nil_of_length_eq_zero (by have := h4 e; omega)⟩, ?_⟩
  obtain ⟨bs, hbl, hba⟩ := list_of (n := l.length) (p := fun i (x : Int × Value) => x.1 = (l.getD i ⟨0, []⟩).at_ ∧ (Lit.int .i64 x.1).wf = true ∧ Bytes W 0 W.heap.size x.2 (l.getD i ⟨0, []⟩).data ∧ ∀ ad, a = some ad → W.cell? (ad.add (i * 2)) = some (.int .i64 x.1) ∧ W.cell? (ad.add (i * 2 + 1)) = some x.2 ∧ ad.block < W.heap.size ∧ ad.spot = none) (fun i hi => by
    obtain ⟨b, off, rfl, hlo, hhi, hc⟩ := h3 (by omega)
    obtain ⟨f0, f1, v, f2, f3⟩ := hc i _ (get_l l ⟨0, []⟩ i hi)
    refine ⟨((l.getD i ⟨0, []⟩).at_, v), rfl, f1, f3, fun ad e => ?_⟩
    cases e
    have e2 : ∀ j, (⟨b, off, none⟩ : Addr).add j = ⟨b, off + j, none⟩ := fun j => by unfold Addr.add; split <;> simp_all
    rw [e2, e2]
    exact ⟨f0, f2, hhi, rfl⟩)
  refine ⟨bs, hbl, fun i x hx => ?_, fun ad e j u hj => ?_⟩
  · have hi : i < l.length := (List.getElem?_eq_some_iff.1 hx).1
    have hb : bs[i]? = some (bs[i]'(by omega)) := by simp
    obtain ⟨p1, p2, p3, -⟩ := hba i _ hb
    rw [get_l l ⟨0, []⟩ i hi] at hx
    cases hx
    refine ⟨(bs[i]'(by omega)).2, ?_, by rw [← p1]; exact p2, p3⟩
    rw [hb, ← p1]
  · obtain ⟨i, x, hx, hh⟩ := wcells_inv bs j u hj
    obtain ⟨-, -, -, p4⟩ := hba i x hx
    obtain ⟨q1, q2, q3, q4⟩ := p4 ad e
    have hk : ∀ k, w.cell? (ad.add k) = W.cell? (ad.add k) := fun k => by
      obtain ⟨bb, oo, ss⟩ := ad
      simp only at q3 q4
      subst q4
      have e2 : (⟨bb, oo, none⟩ : Addr).add k = ⟨bb, oo + k, none⟩ := by unfold Addr.add; split <;> simp_all
      rw [e2]
      exact hB.cell (p := ⟨bb, oo + k, none⟩) q3
    rcases hh with ⟨rfl, rfl⟩ | ⟨rfl, rfl⟩
    · rw [hk]; exact q1
    · rw [hk]; exact q2
theorem SrcW.one {W w : World} {p : Int} {y : Value} {l : List UInt8} (hp : (Lit.int .i64 p).wf = true) (hy : Bytes W 0 W.heap.size y l) : SrcW W (w.alloc (.cells #[.int .i64 p, y] 50)) (.slice (some ⟨w.heap.size, 0, none⟩) 1 1) [⟨p, l⟩] := by
  refine ⟨_, _, rfl, fun h => (by cases h), [(p, y)], rfl, fun i x hx => ?_, fun ad e j u hj => ?_⟩
  · cases i with
    | zero => cases hx; exact ⟨y, rfl, hp, hy⟩
    | succ i => simp at hx
  · cases e
    have hn := World.alloc_heap_new w (.cells #[.int .i64 p, y] 50)
    rcases j with _ | _ | j'
    · cases hj; exact blk_cell hn 0
    · cases hj; exact blk_cell hn 1
    · simp [wcells] at hj

theorem wpList_appW {w : World} {ops : Array Oper} {rest : List Oper} {o : Oper} {a : Act} {Q : Exit → Act → World → Prop} (hgd : o.guard = none) (s x : Operand)
    (ho : o.op = .call { callee := .builtin .append, args := #[s, x], argTypes := #[24, 24] }) (base : Nat) (W : World) (v sv : Value) (l l2 : List WrL) (hs : a.eval s = v) (hx : a.eval x = sv)
    (hown : OwnW base W w v l) (hsrc : SrcW W w sv l2) (hlen : l.length + l2.length ≤ 100000) (hbase : base ≤ w.heap.size)
    (h : ∀ ad cc w', OwnW base W w' (.slice ad (l ++ l2).length cc) (l ++ l2) → Below base w w' → wpList Try.prog ops Q rest (a.put o.dst (.slice ad (l ++ l2).length cc)) w') : wpList Try.prog ops Q (o :: rest) a w := by
  obtain ⟨i0, hi0, hz0, hz1, hz2⟩ := info_parts (P := Try.prog) (e := 50) (z := .agg #[.int .i64 0, .slice none 0 0]) (size := 2) (bytes := 32) (by kernel_rfl)
  obtain ⟨xs, hrow, hxs⟩ := hown
  obtain ⟨ad, c, rfl, hn, bs, hbl, hba, hcl⟩ := hsrc
  have hform : ∀ {v : Value} {n : Nat} {ys : List Value} {w : World}, w.ownsRow base 50 2 v n ys → ∃ ad cc, v = .slice ad n cc := fun h => by
    rcases h.2 with ⟨rfl, h0⟩ | ⟨g, cap, cur, rfl, -⟩
    · exact ⟨none, 0, by rw [h0]⟩
    · exact ⟨_, _, rfl⟩
  rcases ad with _ | ad
  · obtain ⟨rfl, rfl⟩ := hn rfl
    obtain ⟨ad, cc, rfl⟩ := hform hrow
    refine wpList_append_own_none hgd s x 24 ho base 50 i0 2 Try.underlying24 hi0 _ _ _ hs hrow hx ?_
    have := h ad cc w (by rw [List.append_nil]; exact ⟨xs, hrow, hxs⟩) ((Below.refl _ w).mono hbase)
    rw [List.append_nil] at this
    exact this
  · have hone : ∀ u ∈ wcells bs, u.oneCell' = true := by
      intro u hu
      obtain ⟨j, hj⟩ := List.mem_iff_getElem?.1 hu
      obtain ⟨i, x, hxx, hh⟩ := wcells_inv bs j u hj
      have hi : i < l2.length := by rw [← hbl]; exact (List.getElem?_eq_some_iff.1 hxx).1
      obtain ⟨y, hy1, hy2, hy3⟩ := hba i _ (get_l l2 ⟨0, []⟩ i hi)
      rw [hy1] at hxx
      cases hxx
      rcases hh with ⟨-, rfl⟩ | ⟨-, rfl⟩
      · rfl
      · obtain ⟨a2, c2, rfl, -⟩ := hy3; rfl
    refine wpList_append_own w hgd s x 24 ho base 50 i0 _ 2 32 Try.underlying24 hi0 hz0 hz1 hz2 rfl (by decide) v l.length xs hs hrow ad l2.length c (wcells bs) hx (by rw [wcells_length, hbl]) (hcl ad rfl) hone (by unfold maxLen; omega) (by omega) hbase ?_
    intro v' w' hown' hg' _
    obtain ⟨ad', cc', rfl⟩ := hform hown'
    have hB' : Below base w w' := ((Below.refl w.heap.size w).mono hbase).grown hg' hbase (own_block hrow)
    have := h ad' cc' w' ⟨xs ++ wcells bs, by rw [List.length_append]; exact hown', fun j y hj => ?_⟩ hB'
    · rw [List.length_append] at this
      exact this
    · have hxl := hrow.1
      rcases Nat.lt_or_ge j l.length with hjl | hjl
      · rw [List.getElem?_append_left hjl] at hj
        obtain ⟨⟨p1, p2⟩, z, p3, p4⟩ := hxs j y hj
        exact ⟨⟨by rw [List.getElem?_append_left (by omega)]; exact p1, p2⟩, z, by rw [List.getElem?_append_left (by omega)]; exact p3, p4⟩
      · rw [List.getElem?_append_right hjl] at hj
        obtain ⟨z, p1, p2, p3⟩ := hba _ y hj
        obtain ⟨q1, q2⟩ := wcells_get bs _ _ p1
        refine ⟨⟨?_, p2⟩, z, ?_, p3⟩
        · rw [List.getElem?_append_right (by omega), hxl, show j * 2 - l.length * 2 = (j - l.length) * 2 by omega]; exact q1
        · rw [List.getElem?_append_right (by omega), hxl, show j * 2 + 1 - l.length * 2 = (j - l.length) * 2 + 1 by omega]; exact q2

theorem OwnW.same {base : Nat} {W w w' : World} {v : Value} {l : List WrL} (h : OwnW base W w v l) (hs : ∀ k, base ≤ k → ∀ o, w.heap[k]? = some o → w'.heap[k]? = some o) : OwnW base W w' v l := by
  obtain ⟨xs, ⟨hl, hrow⟩, hx⟩ := h
  refine ⟨xs, ⟨hl, ?_⟩, hx⟩
  rcases hrow with h | ⟨g, cap, cur, e, hg, hh, h1, h2, h3, h4⟩
  · exact .inl h
  · exact .inr ⟨g, cap, cur, e, hg, hs g hg _ hh, h1, h2, h3, h4⟩
theorem OwnW.set {base : Nat} {W w : World} {v : Value} {l : List WrL} (h : OwnW base W w v l) (r o : Nat) (u : Value) (hr : r < base) : OwnW base W (w.setCell ⟨r, o, none⟩ u) v l :=
  h.same fun k hk _ hx => (set_other w r o u k (by omega)).trans hx
theorem OwnW.alloc {base : Nat} {W w : World} {v : Value} {l : List WrL} (h : OwnW base W w v l) (o : Obj) : OwnW base W (w.alloc o) v l :=
  h.same fun k _ _ hx => (Below.heap_alloc w o k (Array.getElem?_eq_some_iff.1 hx).1).trans hx

/-- What a call answered: a disk; nothing that was there has turned. -/
structure GotD (w w' : World) (b u : Value) (d : DiskL) : Prop where
  disk : DiskV w' 0 w'.heap.size b u d
  below : Below w.heap.size w w'
/-- A disk whose data lies below hi, or in what was made from w on. -/
structure GotK (hi : Nat) (w w' : World) (b u : Value) (d : DiskL) : Prop where
  disk : ∀ W : World, w'.heap.size ≤ W.heap.size → (∀ k, k < hi ∨ w.heap.size ≤ k → k < w'.heap.size → W.heap[k]? = w'.heap[k]?) → DiskV W 0 W.heap.size b u d
  below : Below w.heap.size w w'
theorem GotK.got {hi : Nat} {w w' : World} {b u : Value} {d : DiskL} (h : GotK hi w w' b u d) : GotD w w' b u d := ⟨h.disk w' (Nat.le_refl _) (fun _ _ _ => rfl), h.below⟩

end Go.Proofs.Ythealkfpflkipaa

namespace Go.Proofs.Ythealkfpflkipaa
open Go.RowKit

theorem GotD.nil_ {w w' : World} (h : Below w.heap.size w w') : GotD w w' (.slice none 0 0) (.slice none 0 0) ⟨[], []⟩ := ⟨DiskV.nil_ _ _ _, h⟩

theorem GotK.nil_ {hi : Nat} {w w' : World} (h : Below w.heap.size w w') : GotK hi w w' (.slice none 0 0) (.slice none 0 0) ⟨[], []⟩ := ⟨fun _ _ _ => ⟨Sl.nil_ _ _ _, Sl.nil_ _ _ _⟩, h⟩
end Go.Proofs.Ythealkfpflkipaa

