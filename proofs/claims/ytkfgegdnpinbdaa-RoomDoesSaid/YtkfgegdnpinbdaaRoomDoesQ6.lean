/- RoomDoes: the words and contracts, part 6. -/
import Derived.Test.YtkfgegdnpinbdaaRoomDoesQ1
import Derived.Test.YtkfgegdnpinbdaaRoomDoesQ2
import Derived.Test.YtkfgegdnpinbdaaRoomDoesQ3
import Derived.Test.YtkfgegdnpinbdaaRoomDoesQ4
import Derived.Test.YtkfgegdnpinbdaaRoomDoesQ5
import Derived.WalkKit
import Derived.WalkLawsBesides
import Derived.WalkSpells
import Derived.Lib.Hide
import Derived.Laws.Rows
import Derived.Laws.AppendOwnNone
import Derived.Maps.AppendAt
import Derived.RangeFuncNested
import Derived.RangeFuncBound
import Derived.RangeFuncCalls
import Derived.RangeFuncLeaves
import Derived.RangeFuncBox
import Derived.Shelf.Abstract
import Derived.Shelf.RegionOpen
import Derived.OwnWalkIn
import Derived.TacticsInMore
import Derived.LoopNIn
import Derived.LoopIn
import Derived.ProofKit
import Derived.Deep.Slices
import Derived.WideShapes
import Derived.OrdersHeld
import Derived.Deep.QuietTactic
import Derived.BigQuiet
import Derived.StillTailTactics
import Derived.OpenShut
import Derived.Lib.SliceRun
import Derived.Lib.AppendZerosOnto
import Derived.Lib.Walk
import Derived.Deep.LoopGhost
import Derived.Laws.CopyOwn
import Derived.Deep.DeepCutAuto
import Derived.Laws.CopyRow
import Derived.Laws.MakeOwn
import Derived.Deep.RegionHeld
namespace Go.Proofs.Ytkfgegdnpinbdaa
open Go.RowKit

set_option maxRecDepth 100000 in
set_option maxHeartbeats 1000000 in
/-- The reference's Same. -/
theorem rdsame_any (b u b' u' : Value) (d d' : DiskL) (w : World) (h : DiskV w 0 w.heap.size b u d) (h' : DiskV w 0 w.heap.size b' u' d') :
    Calls Try.prog 49 #[.agg #[b, u], .agg #[b', u']] w fun e w' => e = .returned (.bool (decide (d = d'))) ∧ Below w.heap.size w w' := by
  have hB := ((Below.refl w.heap.size w).alloc (Nat.le_refl _) (.cells #[b, u] 25)).alloc (by simp) (.cells #[b', u'] 25)
  have hq := two_new w (.cells #[b, u] 25) (.cells #[b', u'] 25)
  have hD : DiskV _ 0 _ b u d := h.step hB
  have hD' : DiskV _ 0 _ b' u' d' := h'.step hB
  obtain ⟨ab, cb, rfl, g1, g2, -, -⟩ := h.1
  obtain ⟨au, cu, rfl, g3, g4, -, -⟩ := h.2
  obtain ⟨ab', cb', rfl, g1', g2', -, -⟩ := h'.1
  obtain ⟨au', cu', rfl, g3', g4', -, -⟩ := h'.2
  unfold maxLen at g2 g4 g2' g4'
  clear h h'
  obtain ⟨W, hW⟩ : ∃ W, (w.alloc (.cells #[.slice ab d.blocks.length cb, .slice au d.waits.length cu] 25)).alloc (.cells #[.slice ab' d'.blocks.length cb', .slice au' d'.waits.length cu'] 25) = W := ⟨_, rfl⟩
  rw [hW] at hB hq hD hD'
  obtain ⟨r, hr⟩ : ∃ r, decide (d = d') = r := ⟨_, rfl⟩
  rw [hr]
  have HR := Lib.hid hr
  have HF := Lib.hid (show (d.blocks = d'.blocks → d.waits = d'.waits → d = d') from fun h1 h2 => by cases d; cases d'; simp at h1 h2; rw [h1, h2])
  have HQ := Lib.hid (And.intro hq.1 (And.intro hq.2 (And.intro hD (And.intro hD' hB))))
  have hno : d ≠ d' → r = false := fun h => by rw [← HR.out]; exact decide_eq_false h
  have HNO := Lib.hid hno
  clear hr hq hD hD' hB hno
  have c0 := blk_cell HQ.out.1 0
  have c1 := blk_cell HQ.out.1 1
  have d0 := blk_cell HQ.out.2.1 0
  have d1 := blk_cell HQ.out.2.1 1
  simp at c0 c1 d0 d1
  go_enter Try.func49, Try.ntmps49
  by_cases hl1 : d.blocks.length = d'.blocks.length
  case neg =>
    obtain rfl := HNO.out (fun e => hl1 (by rw [e]))
    have i1 : ¬ (d.blocks.length : Int) = d'.blocks.length := by omega
    go_wp2
    go_ret
    exact ⟨rfl, HQ.out.2.2.2.2⟩
  have i1 : ((d.blocks.length : Int) != d'.blocks.length) = false := by simp; omega
  by_cases hl2 : d.waits.length = d'.waits.length
  case neg =>
    obtain rfl := HNO.out (fun e => hl2 (by rw [e]))
    have i2 : ¬ (d.waits.length : Int) = d'.waits.length := by omega
    have HL1 := Lib.hid hl1
    clear hl1
    go_wp2
    go_ret
    exact ⟨rfl, HQ.out.2.2.2.2⟩
  have i2 : ((d.waits.length : Int) != d'.waits.length) = false := by simp; omega
  have HL1 := Lib.hid hl1
  have HL2 := Lib.hid hl2
  have hle1 : d.blocks.length ≤ d'.blocks.length := by omega
  have hle2 : d.waits.length ≤ d'.waits.length := by omega
  clear hl1 hl2
  go_wp2_with fail
  go_loopw [5] (fun i wr => ∃ k : Nat, k ≤ d.blocks.length ∧ i = .int .i64 k ∧ Below W.heap.size W wr ∧ ∀ j, j < k → d.blocks.getD j [] = d'.blocks.getD j []) (fun i _ => d.blocks.length - (intOf i).toNat)
  case atStart => exact ⟨0, Nat.zero_le _, rfl, Below.refl _ _, fun j hj => absurd hj (Nat.not_lt_zero _)⟩
  case round =>
  obtain ⟨k, hk, rfl, hBr, hall⟩ := hrel
  have c0' := (hBr.cell (p := ⟨w.heap.size, 0, none⟩) (cell_lt' c0)).trans c0
  have c1' := (hBr.cell (p := ⟨w.heap.size, 1, none⟩) (cell_lt' c1)).trans c1
  have d0' := (hBr.cell (p := ⟨w.heap.size + 1, 0, none⟩) (cell_lt' d0)).trans d0
  have d1' := (hBr.cell (p := ⟨w.heap.size + 1, 1, none⟩) (cell_lt' d1)).trans d1
  by_cases hlt : k < d.blocks.length
  · obtain ⟨b1, o1, k1, e1, -, -, -, z1, hb1⟩ := (HQ.out.2.2.1.step hBr).1.at_ (by omega)
    injection e1 with ea _ ec
    subst ea ec
    obtain ⟨b2, o2, k2, e2, -, -, -, z2, hb2⟩ := (HQ.out.2.2.2.1.step hBr).1.at_ (by omega)
    injection e2 with ea _ ec
    subst ea ec
    have hkm : k < d'.blocks.length := by omega
    obtain ⟨x, hx, hxb⟩ := hb1 k (d.blocks.getD k []) (get_l _ _ _ hlt)
    obtain ⟨y, hy, hyb⟩ := hb2 k (d'.blocks.getD k []) (get_l _ _ _ hkm)
    have hx' : wr.cell? ⟨b1, o1 + k, none⟩ = some x := by simpa [rBytes] using hx
    have hy' : wr.cell? ⟨b2, o2 + k, none⟩ = some y := by simpa [rBytes] using hy
    obtain ⟨lx, hlx⟩ : ∃ l, d.blocks.getD k [] = l := ⟨_, rfl⟩
    obtain ⟨ly, hly⟩ : ∃ l, d'.blocks.getD k [] = l := ⟨_, rfl⟩
    rw [hlx] at hxb
    rw [hly] at hyb
    obtain ⟨ax, kx, rfl, -, -⟩ := hxb.form rfl
    obtain ⟨ay, ky, rfl, -, -⟩ := hyb.form rfl
    have v1 := fun nq => cv_of (w := wr.drewN nq) hxb
    have v2 := fun nq => cv_of (w := wr.drewN nq) hyb
    unfold maxLen at z1 z2
    have HP := Lib.hid (And.intro hall (And.intro hBr (And.intro hlx hly)))
    clear hall hBr hlx hly hx hy hxb hyb hb1 hb2 c0 c1 d0 d1
    go_upto_region 6 with (fail)
    go_cut [42] (fun s wx => s = .bool (lx != ly) ∧ Below wr.heap.size wr wx)
    case first =>
      go_quiet (fail)
      go_wp2
      go_meet
      exact ⟨rfl, below_dn _ _ _⟩
    case rest =>
    obtain ⟨rfl, hst⟩ := hcut
    have hBx := below_step HP.out.2.1 HP.out.2.1.size hst
    clear hst
    by_cases he : lx = ly
    · subst he
      have n1 : (lx != lx) = false := by simp
      rw [n1]
      clear n1
      go_wp2
      go_roundw
      case rel => exact ⟨k + 1, by omega, by go_num, hBx, fun j hj => by
        rcases Nat.lt_succ_iff_lt_or_eq.1 hj with hj | rfl
        · exact HP.out.1 j hj
        · rw [HP.out.2.2.1, HP.out.2.2.2]⟩
      case measure => simp [intOf]; omega
    · have n1 : (lx != ly) = true := by simp [he]
      rw [n1]
      obtain rfl := HNO.out (fun e => he (by rw [← HP.out.2.2.1, ← HP.out.2.2.2, e]))
      clear n1
      go_wp2
      go_ret
      exact ⟨rfl, below_step HQ.out.2.2.2.2 HQ.out.2.2.2.2.size hBx⟩
  obtain rfl : k = d.blocks.length := by omega
  have HBL := Lib.hid (ext_getD _ _ [] HL1.out hall)
  clear hall hk hlt c0 c1 d0 d1
  obtain ⟨V, hV⟩ : ∃ V, V = wr := ⟨_, rfl⟩
  subst hV
  have HBV := Lib.hid hBr
  clear hBr
  go_wp2_with fail
  go_loopw [6] (fun i wr => ∃ k : Nat, k ≤ d.waits.length ∧ i = .int .i64 k ∧ Below V.heap.size V wr ∧ ∀ j, j < k → d.waits.getD j ⟨0, []⟩ = d'.waits.getD j ⟨0, []⟩) (fun i _ => d.waits.length - (intOf i).toNat)
  case atStart => exact ⟨0, Nat.zero_le _, rfl, Below.refl _ _, fun j hj => absurd hj (Nat.not_lt_zero _)⟩
  case round =>
  obtain ⟨k, hk, rfl, hBr, hall⟩ := hrel
  replace c0' := (hBr.cell (p := ⟨w.heap.size, 0, none⟩) (cell_lt' c0')).trans c0'
  replace c1' := (hBr.cell (p := ⟨w.heap.size, 1, none⟩) (cell_lt' c1')).trans c1'
  replace d0' := (hBr.cell (p := ⟨w.heap.size + 1, 0, none⟩) (cell_lt' d0')).trans d0'
  replace d1' := (hBr.cell (p := ⟨w.heap.size + 1, 1, none⟩) (cell_lt' d1')).trans d1'
  by_cases hlt : k < d.waits.length
  · obtain ⟨b1, o1, k1, e1, -, -, -, z1, hb1⟩ := ((HQ.out.2.2.1.step HBV.out).step hBr).2.at_ (by omega)
    injection e1 with ea _ ec
    subst ea ec
    obtain ⟨b2, o2, k2, e2, -, -, -, z2, hb2⟩ := ((HQ.out.2.2.2.1.step HBV.out).step hBr).2.at_ (by omega)
    injection e2 with ea _ ec
    subst ea ec
    have hkm : k < d'.waits.length := by omega
    obtain ⟨f0, -, x, f1, hxb⟩ := hb1 k (d.waits.getD k ⟨0, []⟩) (get_l _ _ _ hlt)
    obtain ⟨f0', -, y, f1', hyb⟩ := hb2 k (d'.waits.getD k ⟨0, []⟩) (get_l _ _ _ hkm)
    obtain ⟨X, hX⟩ : ∃ X, d.waits.getD k ⟨0, []⟩ = X := ⟨_, rfl⟩
    obtain ⟨Y, hY⟩ : ∃ Y, d'.waits.getD k ⟨0, []⟩ = Y := ⟨_, rfl⟩
    rw [hX] at f0 hxb
    rw [hY] at f0' hyb
    obtain ⟨px, lx⟩ := X
    obtain ⟨py, ly⟩ := Y
    simp [rWrite] at f0 f1 f0' f1'
    simp only at hxb hyb
    obtain ⟨ax, kx, rfl, -, -⟩ := hxb.form rfl
    obtain ⟨ay, ky, rfl, -, -⟩ := hyb.form rfl
    have v1 := fun nq => cv_of (w := wr.drewN nq) hxb
    have v2 := fun nq => cv_of (w := wr.drewN nq) hyb
    unfold maxLen at z1 z2
    have HP := Lib.hid (And.intro hall (And.intro hBr (And.intro hX hY)))
    clear hall hBr hX hY hxb hyb hb1 hb2
    by_cases hpq : px = py
    case neg =>
      have n1 : (px != py) = true := by simp [hpq]
      have n2 : ¬ px = py := hpq
      obtain rfl := HNO.out (fun e => hpq (by
        have h1 := HP.out.2.2.1
        have h2 := HP.out.2.2.2
        rw [e, h2] at h1
        exact (congrArg WrL.at_ h1).symm))
      go_wp2_with fail
      go_quiet (fail)
      go_wp2
      go_ret
      exact ⟨rfl, (below_step (below_step HQ.out.2.2.2.2 HQ.out.2.2.2.2.size (below_step HBV.out HBV.out.size HP.out.2.1)) (Nat.le_trans HQ.out.2.2.2.2.size (Nat.le_trans HBV.out.size HP.out.2.1.size)) (below_dn _ _ _))⟩
    subst hpq
    have n1 : (px != px) = false := by simp
    go_upto_region 11 with (fail)
    go_cut [79] (fun s wx => s = .bool (lx != ly) ∧ Below wr.heap.size wr wx)
    case first =>
      go_quiet (fail)
      go_wp2
      go_meet
      exact ⟨rfl, below_dn _ _ _⟩
    case rest =>
    obtain ⟨rfl, hst⟩ := hcut
    have hBx := below_step HP.out.2.1 HP.out.2.1.size hst
    clear hst n1
    by_cases he : lx = ly
    · subst he
      have n1 : (lx != lx) = false := by simp
      rw [n1]
      clear n1
      go_wp2
      go_roundw
      case rel => exact ⟨k + 1, by omega, by go_num, hBx, fun j hj => by
        rcases Nat.lt_succ_iff_lt_or_eq.1 hj with hj | rfl
        · exact HP.out.1 j hj
        · rw [HP.out.2.2.1, HP.out.2.2.2]⟩
      case measure => simp [intOf]; omega
    · have n1 : (lx != ly) = true := by simp [he]
      rw [n1]
      obtain rfl := HNO.out (fun e => he (by
        have h1 := HP.out.2.2.1
        have h2 := HP.out.2.2.2
        rw [e, h2] at h1
        exact (congrArg WrL.data h1).symm))
      clear n1
      go_wp2
      go_ret
      exact ⟨rfl, below_step HQ.out.2.2.2.2 HQ.out.2.2.2.2.size (below_step HBV.out HBV.out.size hBx)⟩
  obtain rfl : k = d.waits.length := by omega
  obtain rfl : r = true := by
    rw [← HR.out]
    exact decide_eq_true (HF.out HBL.out (ext_getD _ _ ⟨0, []⟩ HL2.out hall))
  clear hall hk hlt
  go_wp2
  go_ret
  exact ⟨rfl, below_step HQ.out.2.2.2.2 HQ.out.2.2.2.2.size (below_step HBV.out HBV.out.size hBr)⟩

set_option maxRecDepth 100000 in
set_option maxHeartbeats 1000000 in
/-- The reference's Seen: of a disk that may be, at a place inside. -/
theorem rseen_any (b u : Value) (d : DiskL) (pn : Nat) (w : World) (h : DiskV w 0 w.heap.size b u d) (hp : pn < d.blocks.length) :
    Calls Try.prog 86 #[.agg #[b, u], .int .i64 pn] w fun e w' => ∃ v, e = .returned v ∧ Bytes w' 0 w'.heap.size v (seenD d pn) ∧ Below w.heap.size w w' := by
  have hst := (Below.refl w.heap.size w).alloc (Nat.le_refl _) (.cells #[b, u] 25)
  have hD := h.step hst
  have hq := World.alloc_heap_new w (.cells #[b, u] 25)
  obtain ⟨ab, cb, rfl, g1, g2, -, -⟩ := h.1
  obtain ⟨au, cu, rfl, g3, g4, -, -⟩ := h.2
  unfold maxLen at g2 g4
  clear h
  obtain ⟨W, hW⟩ : ∃ W, w.alloc (.cells #[.slice ab d.blocks.length cb, .slice au d.waits.length cu] 25) = W := ⟨_, rfl⟩
  rw [hW] at hst hD hq
  have c0 := blk_cell hq 0
  have c1 := blk_cell hq 1
  simp at c0 c1
  have HQ := Lib.hid (And.intro hD hst)
  clear hD hst hq
  go_enter Try.func86, Try.ntmps86
  go_wp2_with fail
  go_loopw [5] (fun i wr => ∃ k : Nat, k ≤ d.waits.length ∧ i = .int .i64 ((d.waits.length : Int) - 1 - k) ∧ wr = W ∧ ∀ j, d.waits.length ≤ j + k → j < d.waits.length → (d.waits.getD j ⟨0, []⟩).at_ ≠ pn) (fun i _ => (intOf i + 1).toNat)
  case atStart => exact ⟨0, Nat.zero_le _, by simp, rfl, fun j h1 h2 => by omega⟩
  case round =>
  obtain ⟨k, hk, rfl, rfl, hall⟩ := hrel
  by_cases hlt : k < d.waits.length
  · obtain ⟨m, hm, hmk⟩ : ∃ m : Nat, m < d.waits.length ∧ m + 1 + k = d.waits.length := ⟨d.waits.length - 1 - k, by omega, by omega⟩
    rw [show ((d.waits.length : Int) - 1 - (k : Int)) = (m : Int) by omega]
    obtain ⟨b1, o1, k1, e1, -, -, -, z1, hb1⟩ := HQ.out.1.2.at_ (by omega)
    injection e1 with ea _ ec
    subst ea ec
    obtain ⟨f0, -, x, f1, hxb⟩ := hb1 m (d.waits.getD m ⟨0, []⟩) (get_l _ _ _ hm)
    obtain ⟨X, hX⟩ : ∃ X, d.waits.getD m ⟨0, []⟩ = X := ⟨_, rfl⟩
    rw [hX] at f0 hxb
    obtain ⟨px, lx⟩ := X
    simp [rWrite] at f0 f1
    simp only at hxb
    unfold maxLen at z1
    have HP := Lib.hid (And.intro hall (And.intro hX (And.intro hxb hmk)))
    clear hall hX hxb hb1 hmk
    by_cases hpq : px = (pn : Int)
    · have n1 : (px == (pn : Int)) = true := by simp [hpq]
      go_wp2
      go_ret
      refine ⟨x, rfl, ?_, HQ.out.2⟩
      have hs : seenD d pn = lx := by
        unfold seenD
        rw [lastW_at d.waits pn m hm (by rw [HP.out.2.1]; exact hpq) (fun j h1 h2 => HP.out.1 j (by have := HP.out.2.2.2; omega) h2), HP.out.2.1]
      rw [hs]
      exact HP.out.2.2.1
    · have n1 : (px == (pn : Int)) = false := by simp [hpq]
      go_wp2
      go_roundw
      case rel => exact ⟨k + 1, by omega, by have := HP.out.2.2.2; congr 1; omega, trivial, fun j h1 h2 => by
        have hmk := HP.out.2.2.2
        rcases Nat.lt_or_ge m j with h | h
        · exact HP.out.1 j (by omega) h2
        · obtain rfl : j = m := by omega
          rw [HP.out.2.1]
          exact hpq⟩
      case measure => simp [intOf]
  obtain rfl : k = d.waits.length := by omega
  have hs : seenD d pn = d.blocks.getD pn [] := by
    unfold seenD
    rw [lastW_none d.waits pn (fun x hx => by
      obtain ⟨j, hj⟩ := List.mem_iff_getElem?.1 hx
      have hjl := (List.getElem?_eq_some_iff.1 hj).1
      have := hall j (by omega) hjl
      rw [List.getD_eq_getElem?_getD, hj] at this
      exact this)]
    rfl
  have HS := Lib.hid hs
  clear hs hall
  obtain ⟨b1, o1, k1, e1, -, -, -, z1, hb1⟩ := HQ.out.1.1.at_ (by omega)
  injection e1 with ea _ ec
  subst ea ec
  obtain ⟨x, hx, hxb⟩ := hb1 pn (d.blocks.getD pn []) (get_l _ _ _ hp)
  have hx' : wr.cell? ⟨b1, o1 + pn, none⟩ = some x := by simpa [rBytes] using hx
  unfold maxLen at z1
  have HX := Lib.hid hxb
  clear hb1 hx hxb
  go_wp2
  go_ret
  exact ⟨x, rfl, by rw [HS.out]; exact HX.out, HQ.out.2⟩

end Go.Proofs.Ytkfgegdnpinbdaa

namespace Go.Proofs.Ytkfgegdnpinbdaa
open Go.RowKit

/-- The cells of some writes. -/
def wcells (bs : List (Int × Value)) : List Value := bs.flatMap fun x => [.int .i64 x.1, x.2]
theorem wcells_length (bs : List (Int × Value)) : (wcells bs).length = bs.length * 2 := by
  induction bs with
  | nil => rfl
  | cons x l ih =>
    show ([Value.int .i64 x.1, x.2] ++ wcells l).length = _
    rw [List.length_append, ih]
    simp
    omega
theorem wcells_get (bs : List (Int × Value)) (i : Nat) (x : Int × Value) (h : bs[i]? = some x) : (wcells bs)[i * 2]? = some (.int .i64 x.1) ∧ (wcells bs)[i * 2 + 1]? = some x.2 := by
  induction bs generalizing i with
  | nil => simp at h
  | cons y l ih =>
    cases i with
    | zero => simp at h; subst h; exact ⟨rfl, rfl⟩
    | succ i =>
      obtain ⟨h1, h2⟩ := ih i (by simpa using h)
      have e : wcells (y :: l) = .int .i64 y.1 :: y.2 :: wcells l := rfl
      rw [e, show (i + 1) * 2 = i * 2 + 1 + 1 by omega, show i * 2 + 1 + 1 + 1 = (i * 2 + 1) + 1 + 1 by omega, List.getElem?_cons_succ, List.getElem?_cons_succ, List.getElem?_cons_succ, List.getElem?_cons_succ]
      exact ⟨h1, h2⟩
theorem wcells_inv (bs : List (Int × Value)) (j : Nat) (u : Value) (h : (wcells bs)[j]? = some u) : ∃ i x, bs[i]? = some x ∧ ((j = i * 2 ∧ u = .int .i64 x.1) ∨ (j = i * 2 + 1 ∧ u = x.2)) := by
  have hj : j < bs.length * 2 := by rw [← wcells_length]; exact (List.getElem?_eq_some_iff.1 h).1
  have hi : j / 2 < bs.length := by omega
  refine ⟨j / 2, bs[j / 2], by simp [hi], ?_⟩
  obtain ⟨h1, h2⟩ := wcells_get bs (j / 2) bs[j / 2] (by simp [hi])
  rcases Nat.mod_two_eq_zero_or_one j with e | e
  · left
    have e2 : j = j / 2 * 2 := by omega
    rw [e2] at h
    exact ⟨e2, Option.some.inj (h.symm.trans h1)⟩
  · right
    have e2 : j = j / 2 * 2 + 1 := by omega
    rw [e2] at h
    exact ⟨e2, Option.some.inj (h.symm.trans h2)⟩

/-- Writes that may be appended: their cells are there; their bytes lie in W. -/
def SrcW (W w : World) (sv : Value) (l : List WrL) : Prop := ∃ a c, sv = .slice a l.length c ∧ (a = none → c = 0 ∧ l = []) ∧
  ∃ bs : List (Int × Value), bs.length = l.length ∧ (∀ (i : Nat) (x : WrL), l[i]? = some x → ∃ y : Value, bs[i]? = some (x.at_, y) ∧ (Lit.int .i64 x.at_).wf = true ∧ Bytes W 0 W.heap.size y x.data) ∧
    ∀ ad, a = some ad → ∀ j u, (wcells bs)[j]? = some u → w.cell? (ad.add j) = some u
theorem SrcW.of {W w : World} {sv : Value} {l : List WrL} (h : Sl rWrite W 0 W.heap.size sv l) (hB : Below W.heap.size W w) : SrcW W w sv l := by
  obtain ⟨a, c, rfl, h1, h2, h3, h4⟩ := id h
  refine ⟨a, c, rfl, fun e => ⟨h4 e, List.eq_nil_of_length_eq_zero (by have := h4 e; omega)⟩, ?_⟩
  obtain ⟨bs, hbl, hba⟩ := list_of (n := l.length) (p := fun i (x : Int × Value) => x.1 = (l.getD i ⟨0, []⟩).at_ ∧ (Lit.int .i64 x.1).wf = true ∧ Bytes W 0 W.heap.size x.2 (l.getD i ⟨0, []⟩).data ∧ ∀ ad, a = some ad → W.cell? (ad.add (i * 2)) = some (.int .i64 x.1) ∧ W.cell? (ad.add (i * 2 + 1)) = some x.2 ∧ ad.block < W.heap.size ∧ ad.spot = none) (fun i hi => by
    obtain ⟨b, off, rfl, hlo, hhi, hc⟩ := h3 (by omega)
    obtain ⟨f0, f1, v, f2, f3⟩ := hc i _ (get_l l ⟨0, []⟩ i hi)
    refine ⟨((l.getD i ⟨0, []⟩).at_, v), rfl, f1, f3, fun ad e => ?_⟩
    cases e
    have e2 : ∀ j, (⟨b, off, none⟩ : Addr).add j = ⟨b, off + j, none⟩ := fun j => by unfold Addr.add; split <;> simp_all
    rw [e2, e2]
    exact ⟨f0, f2, hhi, rfl⟩)
  refine ⟨bs, hbl, fun i x hx => ?_, fun ad e j u hj => ?_⟩
  · have hi : i < l.length := (List.getElem?_eq_some_iff.1 hx).1
    have hb : bs[i]? = some (bs[i]'(by omega)) := by simp
    obtain ⟨p1, p2, p3, -⟩ := hba i _ hb
    rw [get_l l ⟨0, []⟩ i hi] at hx
    cases hx
    refine ⟨(bs[i]'(by omega)).2, ?_, by rw [← p1]; exact p2, p3⟩
    rw [hb, ← p1]
  · obtain ⟨i, x, hx, hh⟩ := wcells_inv bs j u hj
    obtain ⟨-, -, -, p4⟩ := hba i x hx
    obtain ⟨q1, q2, q3, q4⟩ := p4 ad e
    have hk : ∀ k, w.cell? (ad.add k) = W.cell? (ad.add k) := fun k => by
      obtain ⟨bb, oo, ss⟩ := ad
      simp only at q3 q4
      subst q4
      have e2 : (⟨bb, oo, none⟩ : Addr).add k = ⟨bb, oo + k, none⟩ := by unfold Addr.add; split <;> simp_all
      rw [e2]
      exact hB.cell (p := ⟨bb, oo + k, none⟩) q3
    rcases hh with ⟨rfl, rfl⟩ | ⟨rfl, rfl⟩
    · rw [hk]; exact q1
    · rw [hk]; exact q2
theorem SrcW.one {W w : World} {p : Int} {y : Value} {l : List UInt8} (hp : (Lit.int .i64 p).wf = true) (hy : Bytes W 0 W.heap.size y l) : SrcW W (w.alloc (.cells #[.int .i64 p, y] 92)) (.slice (some ⟨w.heap.size, 0, none⟩) 1 1) [⟨p, l⟩] := by
  refine ⟨_, _, rfl, fun h => (by cases h), [(p, y)], rfl, fun i x hx => ?_, fun ad e j u hj => ?_⟩
  · cases i with
    | zero => cases hx; exact ⟨y, rfl, hp, hy⟩
    | succ i => simp at hx
  · cases e
    have hn := World.alloc_heap_new w (.cells #[.int .i64 p, y] 92)
    rcases j with _ | _ | j'
    · cases hj; exact blk_cell hn 0
    · cases hj; exact blk_cell hn 1
    · simp [wcells] at hj

theorem wpList_appW {w : World} {ops : Array Oper} {rest : List Oper} {o : Oper} {a : Act} {Q : Exit → Act → World → Prop} (hgd : o.guard = none) (s x : Operand)
    (ho : o.op = .call { callee := .builtin .append, args := #[s, x], argTypes := #[23, 23] }) (base : Nat) (W : World) (v sv : Value) (l l2 : List WrL) (hs : a.eval s = v) (hx : a.eval x = sv)
    (hown : OwnW base W w v l) (hsrc : SrcW W w sv l2) (hlen : l.length + l2.length ≤ 100000) (hbase : base ≤ w.heap.size)
    (h : ∀ ad cc w', OwnW base W w' (.slice ad (l ++ l2).length cc) (l ++ l2) → Below base w w' → wpList Try.prog ops Q rest (a.put o.dst (.slice ad (l ++ l2).length cc)) w') : wpList Try.prog ops Q (o :: rest) a w := by
  obtain ⟨i0, hi0, hz0, hz1, hz2⟩ := info_parts (P := Try.prog) (e := 92) (z := .agg #[.int .i64 0, .slice none 0 0]) (size := 2) (bytes := 32) (by kernel_rfl)
  obtain ⟨xs, hrow, hxs⟩ := hown
  obtain ⟨ad, c, rfl, hn, bs, hbl, hba, hcl⟩ := hsrc
  have hform : ∀ {v : Value} {n : Nat} {ys : List Value} {w : World}, w.ownsRow base 92 2 v n ys → ∃ ad cc, v = .slice ad n cc := fun h => by
    rcases h.2 with ⟨rfl, h0⟩ | ⟨g, cap, cur, rfl, -⟩
    · exact ⟨none, 0, by rw [h0]⟩
    · exact ⟨_, _, rfl⟩
  rcases ad with _ | ad
  · obtain ⟨rfl, rfl⟩ := hn rfl
    obtain ⟨ad, cc, rfl⟩ := hform hrow
    refine wpList_append_own_none hgd s x 23 ho base 92 i0 2 Try.underlying23 hi0 _ _ _ hs hrow hx ?_
    have := h ad cc w (by rw [List.append_nil]; exact ⟨xs, hrow, hxs⟩) ((Below.refl _ w).mono hbase)
    rw [List.append_nil] at this
    exact this
  · have hone : ∀ u ∈ wcells bs, u.oneCell' = true := by
      intro u hu
      obtain ⟨j, hj⟩ := List.mem_iff_getElem?.1 hu
      obtain ⟨i, x, hxx, hh⟩ := wcells_inv bs j u hj
      have hi : i < l2.length := by rw [← hbl]; exact (List.getElem?_eq_some_iff.1 hxx).1
      obtain ⟨y, hy1, hy2, hy3⟩ := hba i _ (get_l l2 ⟨0, []⟩ i hi)
      rw [hy1] at hxx
      cases hxx
      rcases hh with ⟨-, rfl⟩ | ⟨-, rfl⟩
      · rfl
      · obtain ⟨a2, c2, rfl, -⟩ := hy3; rfl
    refine wpList_append_own w hgd s x 23 ho base 92 i0 _ 2 32 Try.underlying23 hi0 hz0 hz1 hz2 rfl (by decide) v l.length xs hs hrow ad l2.length c (wcells bs) hx (by rw [wcells_length, hbl]) (hcl ad rfl) hone (by unfold maxLen; omega) (by omega) hbase ?_
    intro v' w' hown' hg' _
    obtain ⟨ad', cc', rfl⟩ := hform hown'
    have hB' : Below base w w' := ((Below.refl w.heap.size w).mono hbase).grown hg' hbase (own_block hrow)
    have := h ad' cc' w' ⟨xs ++ wcells bs, by rw [List.length_append]; exact hown', fun j y hj => ?_⟩ hB'
    · rw [List.length_append] at this
      exact this
    · have hxl := hrow.1
      rcases Nat.lt_or_ge j l.length with hjl | hjl
      · rw [List.getElem?_append_left hjl] at hj
        obtain ⟨⟨p1, p2⟩, z, p3, p4⟩ := hxs j y hj
        exact ⟨⟨by rw [List.getElem?_append_left (by omega)]; exact p1, p2⟩, z, by rw [List.getElem?_append_left (by omega)]; exact p3, p4⟩
      · rw [List.getElem?_append_right hjl] at hj
        obtain ⟨z, p1, p2, p3⟩ := hba _ y hj
        obtain ⟨q1, q2⟩ := wcells_get bs _ _ p1
        refine ⟨⟨?_, p2⟩, z, ?_, p3⟩
        · rw [List.getElem?_append_right (by omega), hxl, show j * 2 - l.length * 2 = (j - l.length) * 2 by omega]; exact q1
        · rw [List.getElem?_append_right (by omega), hxl, show j * 2 + 1 - l.length * 2 = (j - l.length) * 2 + 1 by omega]; exact q2

theorem OwnW.same {base : Nat} {W w w' : World} {v : Value} {l : List WrL} (h : OwnW base W w v l) (hs : ∀ k, base ≤ k → ∀ o, w.heap[k]? = some o → w'.heap[k]? = some o) : OwnW base W w' v l := by
  obtain ⟨xs, ⟨hl, hrow⟩, hx⟩ := h
  refine ⟨xs, ⟨hl, ?_⟩, hx⟩
  rcases hrow with h | ⟨g, cap, cur, e, hg, hh, h1, h2, h3, h4⟩
  · exact .inl h
  · exact .inr ⟨g, cap, cur, e, hg, hs g hg _ hh, h1, h2, h3, h4⟩
theorem OwnW.set {base : Nat} {W w : World} {v : Value} {l : List WrL} (h : OwnW base W w v l) (r o : Nat) (u : Value) (hr : r < base) : OwnW base W (w.setCell ⟨r, o, none⟩ u) v l :=
  h.same fun k hk _ hx => (set_other w r o u k (by omega)).trans hx
theorem OwnW.alloc {base : Nat} {W w : World} {v : Value} {l : List WrL} (h : OwnW base W w v l) (o : Obj) : OwnW base W (w.alloc o) v l :=
  h.same fun k _ _ hx => (Below.heap_alloc w o k (Array.getElem?_eq_some_iff.1 hx).1).trans hx

/-- What a call answered: a disk; nothing that was there has turned. -/
structure GotD (w w' : World) (b u : Value) (d : DiskL) : Prop where
  disk : DiskV w' 0 w'.heap.size b u d
  below : Below w.heap.size w w'
/-- A disk whose data lies below hi, or in what was made from w on. -/
structure GotK (hi : Nat) (w w' : World) (b u : Value) (d : DiskL) : Prop where
  disk : ∀ W : World, w'.heap.size ≤ W.heap.size → (∀ k, k < hi ∨ w.heap.size ≤ k → k < w'.heap.size → W.heap[k]? = w'.heap[k]?) → DiskV W 0 W.heap.size b u d
  below : Below w.heap.size w w'
theorem GotK.got {hi : Nat} {w w' : World} {b u : Value} {d : DiskL} (h : GotK hi w w' b u d) : GotD w w' b u d := ⟨h.disk w' (Nat.le_refl _) (fun _ _ _ => rfl), h.below⟩

end Go.Proofs.Ytkfgegdnpinbdaa

namespace Go.Proofs.Ytkfgegdnpinbdaa
open Go.RowKit

theorem GotD.nil_ {w w' : World} (h : Below w.heap.size w w') : GotD w w' (.slice none 0 0) (.slice none 0 0) ⟨[], []⟩ := ⟨DiskV.nil_ _ _ _, h⟩

theorem GotK.nil_ {hi : Nat} {w w' : World} (h : Below w.heap.size w w') : GotK hi w w' (.slice none 0 0) (.slice none 0 0) ⟨[], []⟩ := ⟨fun _ _ _ => ⟨Sl.nil_ _ _ _, Sl.nil_ _ _ _⟩, h⟩
end Go.Proofs.Ytkfgegdnpinbdaa

namespace Go.Proofs.Ytkfgegdnpinbdaa
open Go.RowKit

theorem SrcW.to {W W2 w : World} {sv : Value} {l : List WrL} (h : SrcW W w sv l) (hk : ∀ v x, Bytes W 0 W.heap.size v x → Bytes W2 0 W2.heap.size v x) : SrcW W2 w sv l := by
  obtain ⟨a, c, e, hn, bs, hbl, hba, hcl⟩ := h
  exact ⟨a, c, e, hn, bs, hbl, fun i x hx => by obtain ⟨y, p1, p2, p3⟩ := hba i x hx; exact ⟨y, p1, p2, hk _ _ p3⟩, hcl⟩

end Go.Proofs.Ytkfgegdnpinbdaa

namespace Go.Proofs.Ytkfgegdnpinbdaa
open Go.RowKit

/-- What is in cells stays. -/
def CKc (w w' : World) : Prop := ∀ a v, w.cell? a = some v → w'.cell? a = some v ∧ w'.frozen? a = w.frozen? a
theorem CKc.refl (w : World) : CKc w w := fun _ _ h => ⟨h, rfl⟩
theorem CKc.trans {a b c : World} (h : CKc a b) (k : CKc b c) : CKc a c := fun p v e => ⟨(k p v (h p v e).1).1, ((k p v (h p v e).1).2).trans (h p v e).2⟩
theorem Bytes.ck {w w' : World} (h : CKc w w') {lo hi : Nat} {v : Value} {l : List UInt8} (hb : Bytes w lo hi v l) : Bytes w' lo hi v l := by
  obtain ⟨a, c, e, h1, h2, h3, h4⟩ := hb
  refine ⟨a, c, e, h1, h2, fun hp => ?_, h4⟩
  obtain ⟨b, off, ea, hlo, hhi, hc⟩ := h3 hp
  exact ⟨b, off, ea, hlo, hhi, fun i x hx => (h _ _ (hc i x hx)).1⟩
theorem thawed_ck {w w' : World} (h : CKc w w') {lo hi : Nat} {v : Value} {l : List UInt8} (hb : Bytes w lo hi v l) (ht : Thawed w v) : Thawed w' v := by
  intro b off n c e i hi
  obtain ⟨a, c', e', h1, h2, h3, h4⟩ := hb
  subst e
  cases e'
  obtain ⟨b', off', ea, _, hhi, hc⟩ := h3 (by omega)
  cases ea
  have hil : l[i]? = some (l[i]'hi) := by simp [hi]
  rw [(h _ _ (hc i _ hil)).2]
  exact ht _ _ _ _ rfl i hi
def RdCK {α : Type} (r : Rd α) : Prop := ∀ {w w' : World} {lo hi : Nat} {x : α} {f g : Nat → Option Value}, CKc w w' → (∀ j v, f j = some v → g j = some v) → r.R w lo hi x f → r.R w' lo hi x g
theorem rInt_ck (k : IntKind) : RdCK (rInt k) := fun _ hg h => ⟨hg _ _ h.1, h.2⟩
theorem rBytes_ck : RdCK rBytes := fun hc hg h => by obtain ⟨v, h1, h2⟩ := h; exact ⟨v, hg _ _ h1, h2.ck hc⟩
theorem rBytesT_ck : RdCK rBytesT := fun hc hg h => by obtain ⟨v, h1, h2, h3⟩ := h; exact ⟨v, hg _ _ h1, h2.ck hc, thawed_ck hc h2 h3⟩
theorem rWrite_ck : RdCK rWrite := fun hc hg h => by obtain ⟨g0, g1, v, h1, h2⟩ := h; exact ⟨hg _ _ g0, g1, v, hg _ _ h1, h2.ck hc⟩
theorem rWriteT_ck : RdCK rWriteT := fun hc hg h => by obtain ⟨g0, g1, v, h1, h2, h3⟩ := h; exact ⟨hg _ _ g0, g1, v, hg _ _ h1, h2.ck hc, thawed_ck hc h2 h3⟩
theorem Sl.ck {α : Type} {r : Rd α} (hr : RdCK r) {w w' : World} {lo hi : Nat} {v : Value} {l : List α} (h : Sl r w lo hi v l) (hc : CKc w w') : Sl r w' lo hi v l := by
  obtain ⟨a, c, e, h1, h2, h3, h4⟩ := h
  refine ⟨a, c, e, h1, h2, fun hp => ?_, h4⟩
  obtain ⟨b, off, ea, hlo, hhi, hx⟩ := h3 hp
  exact ⟨b, off, ea, hlo, hhi, fun i x hxi => hr hc (fun j v hv => (hc _ _ hv).1) (hx i x hxi)⟩
/-- The world without some blocks. -/
def hideW (w : World) (S : Nat → Bool) : World := { w with heap := w.heap.mapIdx fun i o => if S i then .cells #[] 0 (0, 0) else o }
theorem hideW_get (w : World) (S : Nat → Bool) (k : Nat) (h : S k = false) : (hideW w S).heap[k]? = w.heap[k]? := by
  unfold hideW
  simp only [Array.getElem?_mapIdx]
  cases w.heap[k]? with
  | none => rfl
  | some o => simp [h]
theorem hideW_cell (w : World) (S : Nat → Bool) (a : Addr) (h : S a.block = false) : (hideW w S).cell? a = w.cell? a := World.cell?_of_block (hideW_get w S _ h)
theorem hideW_frozen (w : World) (S : Nat → Bool) (a : Addr) (h : S a.block = false) : (hideW w S).frozen? a = w.frozen? a := World.frozen?_of_block (hideW_get w S _ h)
theorem hideW_no (w : World) (S : Nat → Bool) (a : Addr) (h : S a.block = true) : (hideW w S).cell? a = none := by
  unfold World.cell? hideW
  simp only [Array.getElem?_mapIdx]
  cases w.heap[a.block]? with
  | none => rfl
  | some o => simp [h]
theorem hideW_ck {w w' : World} {S S' : Nat → Bool} (h : ∀ k, k < w.heap.size → S k = false → S' k = false ∧ w'.heap[k]? = w.heap[k]?) : CKc (hideW w S) (hideW w' S') := by
  intro a v hv
  have hS : S a.block = false := by
    cases e : S a.block with
    | false => rfl
    | true => rw [hideW_no w S a e] at hv; cases hv
  rw [hideW_cell w S a hS] at hv
  obtain ⟨h1, h2⟩ := h a.block (cell_lt' hv) hS
  rw [hideW_cell w' S' a h1, hideW_frozen w' S' a h1, hideW_frozen w S a hS, World.cell?_of_block h2, World.frozen?_of_block h2]
  exact ⟨hv, rfl⟩
theorem hideW_out (w : World) (S : Nat → Bool) : CKc (hideW w S) w := by
  intro a v hv
  have hS : S a.block = false := by
    cases e : S a.block with
    | false => rfl
    | true => rw [hideW_no w S a e] at hv; cases hv
  rw [hideW_cell w S a hS] at hv
  exact ⟨hv, (hideW_frozen w S a hS).symm⟩
/-- What lies in blocks that are not hidden. -/
theorem hideW_kp {w0 w : World} {lo hi : Nat} {S : Nat → Bool} (h : ∀ k, lo ≤ k → k < hi → S k = false ∧ w.heap[k]? = w0.heap[k]?) : Kp lo hi w0 (hideW w S) := fun b o h1 h2 => by
  obtain ⟨g1, g2⟩ := h b h1 h2
  exact ⟨(hideW_cell w S _ g1).trans (World.cell?_of_block g2), (hideW_frozen w S _ g1).trans (World.frozen?_of_block g2)⟩

/-- Blocks S, and the row's own. -/
def andOwn (S : Nat → Bool) (v : Value) (k : Nat) : Bool := S k || decide (v.ownBlock = some k)
theorem andOwn_no {S : Nat → Bool} {v : Value} {k : Nat} (h : andOwn S v k = false) : S k = false ∧ v.ownBlock ≠ some k := by
  unfold andOwn at h
  simpa using h
theorem andOwn_of {S : Nat → Bool} {v : Value} {k : Nat} (h1 : S k = false) (h2 : v.ownBlock ≠ some k) : andOwn S v k = false := by
  unfold andOwn
  simp [h1, h2]

/-- A row of the call's own that holds l: what its elements point to lies neither in the row nor in the blocks S. -/
def OwnR {α : Type} (r : Rd α) (base : Nat) (T : TypeId) (lo : Nat) (S : Nat → Bool) (w : World) (v : Value) (l : List α) : Prop :=
  (∀ g, v.ownBlock = some g → S g = false) ∧ ∃ xs, w.ownsRow base T r.n v l.length xs ∧ ∀ j x, l[j]? = some x → r.R (hideW w (andOwn S v)) lo w.heap.size x (fun i => xs[j * r.n + i]?)
theorem OwnR.nil_ {α : Type} (r : Rd α) (base : Nat) (T : TypeId) (lo : Nat) (S : Nat → Bool) (w : World) : OwnR r base T lo S w (.slice none 0 0) ([] : List α) :=
  ⟨fun g h => (by cases h), [], World.ownsRow_nil _ _ _ _, fun j x h => (by simp at h)⟩
theorem OwnR.lt {α : Type} {r : Rd α} {base : Nat} {T : TypeId} {lo : Nat} {S : Nat → Bool} {w : World} {v : Value} {l : List α} (h : OwnR r base T lo S w v l) : ∀ k, v.ownBlock = some k → base ≤ k ∧ k < w.heap.size := by
  obtain ⟨-, xs, h1, -⟩ := h
  exact h1.lt
theorem OwnR.form {α : Type} {r : Rd α} {base : Nat} {T : TypeId} {lo : Nat} {S : Nat → Bool} {w : World} {v : Value} {l : List α} (h : OwnR r base T lo S w v l) : ∃ ad c, v = .slice ad l.length c ∧ c ≤ maxLen := by
  obtain ⟨-, xs, h1, -⟩ := h
  rcases h1.2 with ⟨rfl, h0⟩ | ⟨g, cap, cur, rfl, -, -, -, h2, -⟩
  · exact ⟨none, 0, by rw [h0], Nat.zero_le _⟩
  · exact ⟨_, _, rfl, h2⟩
theorem OwnR.to {α : Type} {r : Rd α} (hr : RdCK r) {base : Nat} {T : TypeId} {lo : Nat} {S : Nat → Bool} {w w' : World} {v : Value} {l : List α} (h : OwnR r base T lo S w v l)
    (hs : w.heap.size ≤ w'.heap.size) (hk : ∀ k, k < w.heap.size → S k = false → w'.heap[k]? = w.heap[k]?) : OwnR r base T lo S w' v l := by
  have hlt := h.lt
  obtain ⟨h0, xs, ⟨hl, hrow⟩, hx⟩ := h
  refine ⟨h0, xs, ⟨hl, ?_⟩, fun j x hj => r.more (Nat.le_refl _) hs (hr (hideW_ck fun k h1 h2 => ⟨h2, hk k h1 (andOwn_no h2).1⟩) (fun _ _ e => e) (hx j x hj))⟩
  rcases hrow with h | ⟨g, cap, cur, rfl, hg, hh, rest⟩
  · exact .inl h
  · exact .inr ⟨g, cap, cur, rfl, hg, (hk g (hlt g rfl).2 (h0 g rfl)).trans hh, rest⟩
theorem OwnR.step {α : Type} {r : Rd α} (hr : RdCK r) {base : Nat} {T : TypeId} {lo : Nat} {S : Nat → Bool} {w w' : World} {v : Value} {l : List α} (h : OwnR r base T lo S w v l) (hB : Below w.heap.size w w') : OwnR r base T lo S w' v l :=
  h.to hr hB.size fun k hk _ => hB.block k hk
theorem OwnR.alloc {α : Type} {r : Rd α} (hr : RdCK r) {base : Nat} {T : TypeId} {lo : Nat} {S : Nat → Bool} {w : World} {v : Value} {l : List α} (h : OwnR r base T lo S w v l) (o : Obj) : OwnR r base T lo S (w.alloc o) v l :=
  h.step hr ((Below.refl _ _).alloc (Nat.le_refl _) o)
theorem OwnR.setS {α : Type} {r : Rd α} (hr : RdCK r) {base : Nat} {T : TypeId} {lo : Nat} {S : Nat → Bool} {w : World} {v : Value} {l : List α} (h : OwnR r base T lo S w v l) (p : Addr) (u : Value) (hp : S p.block = true) : OwnR r base T lo S (w.setCell p u) v l :=
  h.to hr (by rw [World.size_setCell]; exact Nat.le_refl _) fun k _ hk => Below.heap_setCell w p u k (fun e => by rw [e, hp] at hk; cases hk)
theorem OwnR.sl {α : Type} {r : Rd α} (hr : RdCK r) {base : Nat} {T : TypeId} {lo : Nat} {S : Nat → Bool} {w : World} {v : Value} {l : List α} (h : OwnR r base T lo S w v l) {lo' : Nat} (h1 : lo' ≤ base) (h2 : lo' ≤ lo) : Sl r w lo' w.heap.size v l := by
  obtain ⟨h0, xs, ⟨hl, hrow⟩, hx⟩ := h
  rcases hrow with ⟨rfl, hz⟩ | ⟨g, cap, cur, rfl, hg, hh, g1, g2, g3, g4⟩
  · have : l = [] := List.eq_nil_of_length_eq_zero (by omega)
    subst this
    exact Sl.nil_ _ _ _
  · refine ⟨_, _, rfl, g1, g2, fun _ => ⟨g, 0, rfl, by omega, (Array.getElem?_eq_some_iff.1 hh).1, fun i x hxi => ?_⟩, fun h => by cases h⟩
    have hc : ∀ j u, xs[j]? = some u → w.cell? ⟨g, j, none⟩ = some u := by
      intro j u hj
      rw [cell_of_row w g j cur T (0, 0) hh, ← hj, ← g4, List.getElem?_take, if_pos]
      · simp
      · have := (List.getElem?_eq_some_iff.1 hj).1
        rw [hl] at this
        exact this
    refine r.more h2 (Nat.le_refl _) (hr (hideW_out w _) (fun j u hj => ?_) (hx i x hxi))
    show w.cell? ⟨g, 0 + i * r.n + j, none⟩ = some u
    rw [Nat.zero_add]
    exact hc _ _ hj
/-- The row may be written. -/
theorem OwnR.thaw {α : Type} {r : Rd α} {base : Nat} {T : TypeId} {lo : Nat} {S : Nat → Bool} {w : World} {v : Value} {l : List α} (h : OwnR r base T lo S w v l) : ∀ g o, v.ownBlock = some g → w.frozen? ⟨g, o, none⟩ = false := by
  obtain ⟨-, xs, ⟨-, hrow⟩, -⟩ := h
  intro g o hg
  rcases hrow with ⟨rfl, -⟩ | ⟨g', cap, cur, rfl, -, hh, -⟩
  · cases hg
  · cases hg
    simp [World.frozen?, hh]

/-- append to such a row. -/
theorem own_form {w : World} {base n size : Nat} {T : TypeId} {v : Value} {xs : List Value} (h : w.ownsRow base T size v n xs) : ∃ ad c, v = .slice ad n c := by
  rcases h.2 with ⟨rfl, h0⟩ | ⟨g, cap, cur, rfl, -⟩
  · exact ⟨none, 0, by rw [h0]⟩
  · exact ⟨_, _, rfl⟩
theorem OwnR.app {α : Type} {r : Rd α} (hr : RdCK r) {base : Nat} {T : TypeId} {lo : Nat} {S : Nat → Bool} {w w' : World} {v v' : Value} {l l2 : List α} {xs news : List Value} (h0 : ∀ g, v.ownBlock = some g → S g = false) (hrow : w.ownsRow base T r.n v l.length xs)
    (hx : ∀ j x, l[j]? = some x → r.R (hideW w (andOwn S v)) lo w.heap.size x (fun i => xs[j * r.n + i]?)) (hS : ∀ k, w.heap.size ≤ k → S k = false) (hy : ∀ j x, l2[j]? = some x → r.R (hideW w (andOwn S v)) lo w.heap.size x (fun i => news[j * r.n + i]?))
    (hown' : w'.ownsRow base T r.n v' (l.length + l2.length) (xs ++ news)) (hg : w.grownBy w' v.ownBlock) (hv : v'.ownBlock = v.ownBlock ∨ v'.ownBlock = some w.heap.size) : OwnR r base T lo S w' v' (l ++ l2) := by
  have hlt := hrow.lt
  have hck : CKc (hideW w (andOwn S v)) (hideW w' (andOwn S v')) := hideW_ck fun k h1 h2 => by
    obtain ⟨g1, g2⟩ := andOwn_no h2
    refine ⟨andOwn_of g1 ?_, hg.block k h1 (fun e => g2 e.symm)⟩
    rcases hv with e | e
    · rw [e]; exact g2
    · rw [e]; intro e2; cases e2; exact absurd h1 (Nat.lt_irrefl _)
  refine ⟨fun g hg' => ?_, xs ++ news, by rw [List.length_append]; exact hown', fun j x hj => ?_⟩
  · rcases hv with e | e
    · exact h0 g (e ▸ hg')
    · rw [e] at hg'; cases hg'; exact hS _ (Nat.le_refl _)
  · have hxl := hrow.1
    rcases Nat.lt_or_ge j l.length with hjl | hjl
    · rw [List.getElem?_append_left hjl] at hj
      refine r.more (Nat.le_refl _) hg.size (hr hck (fun i u hu => ?_) (hx j x hj))
      have := (List.getElem?_eq_some_iff.1 hu).1
      rw [List.getElem?_append_left this]
      exact hu
    · rw [List.getElem?_append_right hjl] at hj
      refine r.more (Nat.le_refl _) hg.size (hr hck (fun i u hu => ?_) (hy _ x hj))
      have e : j * r.n = l.length * r.n + (j - l.length) * r.n := by rw [← Nat.add_mul]; congr 1; omega
      rw [List.getElem?_append_right (by omega), show j * r.n + i - xs.length = (j - l.length) * r.n + i by omega]
      exact hu
theorem wp_append_run {P : Program} {w w' : World} {o : Oper} {a : Act} {K : Act → World → Prop} {Q : Exit → Act → World → Prop} (s x : Operand) (t : TypeId)
    (ho : o.op = .call { callee := .builtin .append, args := #[s, x], argTypes := #[t, t] }) {v v' sv : Value} (hs : a.eval s = v) (hx : a.eval x = sv) (hr : (Builtin.append_ #[t, t] o.type #[v, sv]).run P w = .ok v' w') (h : K (a.put o.dst v') w') : o.wp P a w K Q := by
  unfold Oper.wp
  simp only [execOp, ho, resolve, invoke, builtin, Sem.run_bind, Sem.run_pure, Result.andThen_ok, List.map_toArray, List.map_cons, List.map_nil, hs, hx, hr]
  exact h
/-- What an append to such a row comes to. -/
theorem run_appR {P : Program} {α : Type} {r : Rd α} (hr : RdCK r) {w : World} (t ty T : TypeId) (z : Value) (bytes : Nat) (ht : P.underlying t = some (.slice T)) (hi : (P.info? T).map (fun i => (i.zero, i.size, i.bytes)) = some (some z, r.n, bytes)) (hzs : z.cells.size = r.n) (hn0 : 0 < r.n)
    (base lo : Nat) (S : Nat → Bool) (v : Value) (l l2 : List α) (hown : OwnR r base T lo S w v l) (hS : ∀ k, w.heap.size ≤ k → S k = false)
    (ad : Addr) (c : Nat) (news : List Value) (hl2 : news.length = l2.length * r.n) (hnews : ∀ j u, news[j]? = some u → w.cell? (ad.add j) = some u) (h1 : ∀ u ∈ news, u.oneCell' = true)
    (hy : ∀ j x, l2[j]? = some x → r.R (hideW w (andOwn S v)) lo w.heap.size x (fun i => news[j * r.n + i]?))
    (hlen : l.length + l2.length ≤ 1000000) (hbytes : bytes ≤ 1000) (hbase : base ≤ w.heap.size) :
    ∃ ad' cc w', (Builtin.append_ #[t, t] ty #[v, .slice (some ad) l2.length c]).run P w = .ok (.slice ad' (l ++ l2).length cc) w' ∧ OwnR r base T lo S w' (.slice ad' (l ++ l2).length cc) (l ++ l2) ∧ Below base w w' ∧ ∀ k, k < w.heap.size → v.ownBlock ≠ some k → w'.heap[k]? = w.heap[k]? := by
  obtain ⟨i0, hi0, hz0, hz1, hz2⟩ := info_parts hi
  obtain ⟨h0, xs, hrow, hxs⟩ := hown
  obtain ⟨v', w', hrun, hown', hg, -, hv⟩ := run_append_own_at (P := P) w base t ty T i0 z r.n bytes ht hi0 hz0 hz1 hz2 hzs hn0 v l.length xs hrow ad l2.length c news hl2 hnews h1 (by unfold maxLen; omega) (Nat.le_trans (Nat.mul_le_mul hlen hbytes) (by omega)) hbase
  obtain ⟨ad', cc', hv'⟩ := own_form hown'
  have hB' : Below base w w' := ((Below.refl w.heap.size w).mono hbase).grown hg hbase (fun k hk => (hrow.lt k hk).1)
  have hR := OwnR.app hr h0 hrow hxs hS hy hown' hg hv
  have e : (l ++ l2).length = l.length + l2.length := List.length_append
  rw [← e] at hv'
  rw [hv'] at hR hrun
  exact ⟨ad', cc', w', hrun, hR, hB', fun k hk hne => hg.block k hk (fun e => hne e.symm)⟩
theorem wp_appR {P : Program} {α : Type} {r : Rd α} (hr : RdCK r) {w : World} {o : Oper} {a : Act} {K : Act → World → Prop} {Q : Exit → Act → World → Prop} (s x : Operand) (t : TypeId)
    (ho : o.op = .call { callee := .builtin .append, args := #[s, x], argTypes := #[t, t] }) (T : TypeId) (z : Value) (bytes : Nat) (ht : P.underlying t = some (.slice T)) (hi : (P.info? T).map (fun i => (i.zero, i.size, i.bytes)) = some (some z, r.n, bytes)) (hzs : z.cells.size = r.n) (hn0 : 0 < r.n)
    (base lo : Nat) (S : Nat → Bool) (v : Value) (l l2 : List α) (hs : a.eval s = v) (hown : OwnR r base T lo S w v l) (hS : ∀ k, w.heap.size ≤ k → S k = false)
    (ad : Addr) (c : Nat) (news : List Value) (hx : a.eval x = .slice (some ad) l2.length c) (hl2 : news.length = l2.length * r.n) (hnews : ∀ j u, news[j]? = some u → w.cell? (ad.add j) = some u) (h1 : ∀ u ∈ news, u.oneCell' = true)
    (hy : ∀ j x, l2[j]? = some x → r.R (hideW w (andOwn S v)) lo w.heap.size x (fun i => news[j * r.n + i]?))
    (hlen : l.length + l2.length ≤ 1000000) (hbytes : bytes ≤ 1000) (hbase : base ≤ w.heap.size)
    (h : ∀ ad cc w', OwnR r base T lo S w' (.slice ad (l ++ l2).length cc) (l ++ l2) → Below base w w' → (∀ k, k < w.heap.size → v.ownBlock ≠ some k → w'.heap[k]? = w.heap[k]?) → K (a.put o.dst (.slice ad (l ++ l2).length cc)) w') : o.wp P a w K Q := by
  obtain ⟨ad', cc, w', hrun, h1', h2', h3'⟩ := run_appR hr t o.type T z bytes ht hi hzs hn0 base lo S v l l2 hown hS ad c news hl2 hnews h1 hy hlen hbytes hbase
  exact wp_append_run s x t ho hs hx hrun (h _ _ _ h1' h2' h3')
theorem wpList_appR {P : Program} {α : Type} {r : Rd α} (hr : RdCK r) {w : World} {ops : Array Oper} {rest : List Oper} {o : Oper} {a : Act} {Q : Exit → Act → World → Prop} (hgd : o.guard = none) (s x : Operand) (t : TypeId)
    (ho : o.op = .call { callee := .builtin .append, args := #[s, x], argTypes := #[t, t] }) (T : TypeId) (z : Value) (bytes : Nat) (ht : P.underlying t = some (.slice T)) (hi : (P.info? T).map (fun i => (i.zero, i.size, i.bytes)) = some (some z, r.n, bytes)) (hzs : z.cells.size = r.n) (hn0 : 0 < r.n)
    (base lo : Nat) (S : Nat → Bool) (v : Value) (l l2 : List α) (hs : a.eval s = v) (hown : OwnR r base T lo S w v l) (hS : ∀ k, w.heap.size ≤ k → S k = false)
    (ad : Addr) (c : Nat) (news : List Value) (hx : a.eval x = .slice (some ad) l2.length c) (hl2 : news.length = l2.length * r.n) (hnews : ∀ j u, news[j]? = some u → w.cell? (ad.add j) = some u) (h1 : ∀ u ∈ news, u.oneCell' = true)
    (hy : ∀ j x, l2[j]? = some x → r.R (hideW w (andOwn S v)) lo w.heap.size x (fun i => news[j * r.n + i]?))
    (hlen : l.length + l2.length ≤ 1000000) (hbytes : bytes ≤ 1000) (hbase : base ≤ w.heap.size)
    (h : ∀ ad cc w', OwnR r base T lo S w' (.slice ad (l ++ l2).length cc) (l ++ l2) → Below base w w' → (∀ k, k < w.heap.size → v.ownBlock ≠ some k → w'.heap[k]? = w.heap[k]?) → wpList P ops Q rest (a.put o.dst (.slice ad (l ++ l2).length cc)) w') : wpList P ops Q (o :: rest) a w :=
  wpList_plain hgd fun _ hK => wp_appR hr s x t ho T z bytes ht hi hzs hn0 base lo S v l l2 hs hown hS ad c news hx hl2 hnews h1 hy hlen hbytes hbase fun _ _ _ g1 g2 g3 => hK _ _ (h _ _ _ g1 g2 g3)
/-- append of bytes, at a call. -/
theorem run_appB {P : Program} {w : World} (t ty e : TypeId) (ht : P.underlying t = some (.slice e)) (hi : (P.info? e).map (fun i => (i.zero, i.size, i.bytes)) = some (some (.int .u8 0), 1, 1))
    (base : Nat) (v : Value) (l : List UInt8) (hown : OwnB base e w v l) (lo hi' : Nat) (sv : Value) (bs : List UInt8) (hr : Bytes w lo hi' sv bs) (hsz : l.length + bs.length ≤ 140737488355328) (hbase : base ≤ w.heap.size) :
    ∃ v' w', (Builtin.append_ #[t, t] ty #[v, sv]).run P w = .ok v' w' ∧ OwnB base e w' v' (l ++ bs) ∧ Below base w w' ∧ ∀ k, k < w.heap.size → v.ownBlock ≠ some k → w'.heap[k]? = w.heap[k]? := by
  obtain ⟨i0, hi0, hz0, hz1, hz2⟩ := info_parts hi
  obtain ⟨ad, c, rfl, h1, h2, h3, h4⟩ := hr
  have hbel : ∀ w', w.grownBy w' v.ownBlock → Below base w w' := fun w' hg => ((Below.refl w.heap.size w).mono hbase).grown hg hbase hown.block
  rcases ad with _ | ad
  · have hc : c = 0 := h4 rfl
    subst hc
    have hb0 : bs = [] := List.eq_nil_of_length_eq_zero (by omega)
    subst hb0
    exact ⟨v, w, run_append_owned_none w base t ty e i0 1 ht hi0 v _ _ hown, by simpa using hown, hbel _ (World.grownBy.refl w _), fun _ _ _ => rfl⟩
  · have hl : (bs.map bV).length = bs.length * 1 := by simp
    obtain ⟨v', w', hrun, hown', hg, -, -⟩ := run_append_own_at (P := P) w base t ty e i0 _ 1 1 ht hi0 hz0 hz1 hz2 rfl (by decide) v l.length _ hown ad bs.length c (bs.map bV) hl (by
      intro j u hu
      have hj : j < bs.length := by have := (List.getElem?_eq_some_iff.1 hu).1; simpa using this
      obtain ⟨b, off, e1, _, _, hc⟩ := h3 (by omega)
      cases e1
      have e2 : (⟨b, off, none⟩ : Addr).add j = ⟨b, off + j, none⟩ := by unfold Addr.add; split <;> simp_all
      rw [e2, hc j bs[j] (by simp [hj])]
      simp [hj] at hu
      rw [hu]) (by
      intro u hu
      obtain ⟨y, _, rfl⟩ := List.mem_map.1 hu
      rfl) (by unfold maxLen; omega) (by omega) hbase
    exact ⟨v', w', hrun, by unfold OwnB; simpa using hown', hbel _ hg, fun k hk hne => hg.block k hk (fun e => hne e.symm)⟩
theorem wp_appB {P : Program} {w : World} {o : Oper} {a : Act} {K : Act → World → Prop} {Q : Exit → Act → World → Prop} (s x : Operand) (t : TypeId)
    (ho : o.op = .call { callee := .builtin .append, args := #[s, x], argTypes := #[t, t] }) (e : TypeId) (ht : P.underlying t = some (.slice e)) (hi : (P.info? e).map (fun i => (i.zero, i.size, i.bytes)) = some (some (.int .u8 0), 1, 1))
    (base : Nat) (v : Value) (l : List UInt8) (hs : a.eval s = v) (hown : OwnB base e w v l) (lo hi' : Nat) (sv : Value) (bs : List UInt8) (hx : a.eval x = sv) (hr : Bytes w lo hi' sv bs) (hsz : l.length + bs.length ≤ 140737488355328) (hbase : base ≤ w.heap.size)
    (h : ∀ v' w', OwnB base e w' v' (l ++ bs) → Below base w w' → (∀ k, k < w.heap.size → v.ownBlock ≠ some k → w'.heap[k]? = w.heap[k]?) → K (a.put o.dst v') w') : o.wp P a w K Q := by
  obtain ⟨v', w', hrun, h1', h2', h3'⟩ := run_appB t o.type e ht hi base v l hown lo hi' sv bs hr hsz hbase
  exact wp_append_run s x t ho hs hx hrun (h _ _ h1' h2' h3')
/-- One element that was laid into a new block just so. -/
theorem news_one {w : World} (cs : Array Value) (T : TypeId) : ∀ j u, cs.toList[j]? = some u → (w.alloc (.cells cs T)).cell? ((⟨w.heap.size, 0, none⟩ : Addr).add j) = some u := by
  intro j u hu
  have e2 : (⟨w.heap.size, 0, none⟩ : Addr).add j = ⟨w.heap.size, j, none⟩ := by unfold Addr.add; split <;> simp_all
  rw [e2, cell_of_row _ w.heap.size j cs T (0, 0) (World.alloc_heap_new w _)]
  simpa using hu
end Go.Proofs.Ytkfgegdnpinbdaa

namespace Go.Proofs.Ytkfgegdnpinbdaa
open Go.RowKit

/-- One element more: the row behind the making of its bytes, and what is appended. -/
theorem row_bytes1 {base : Nat} {T : TypeId} {lo : Nat} {S : Nat → Bool} {wr w0 z : World} {v u : Value} {kl : List (List UInt8)} {x : List UInt8} (h : OwnR rBytes base T lo S wr v kl) (hS : ∀ k, wr.heap.size ≤ k → S k = false) (h0 : w0.heap = wr.heap)
    (hB : Below w0.heap.size w0 z) (hb : Bytes z w0.heap.size z.heap.size u x) (hlo : lo ≤ wr.heap.size) (T2 : TypeId) :
    OwnR rBytes base T lo S (z.alloc (.cells #[u] T2)) v kl ∧ ∀ j y, [x][j]? = some y → rBytes.R (hideW (z.alloc (.cells #[u] T2)) (andOwn S v)) lo (z.alloc (.cells #[u] T2)).heap.size y (fun i => [u][j * rBytes.n + i]?) := by
  have hs : wr.heap.size = w0.heap.size := by rw [h0]
  refine ⟨(h.to rBytes_ck (by rw [hs]; exact hB.size) (fun k hk _ => (hB.block k (by omega)).trans (by rw [h0]))).alloc rBytes_ck _, fun j y hj => ?_⟩
  cases j with
  | zero =>
    cases hj
    refine ⟨u, rfl, (hb.kept (hideW_kp fun k h1 h2 => ⟨andOwn_of (hS k (by omega)) (fun e => ?_), Below.heap_alloc z _ k h2⟩)).more (by omega) (by simp)⟩
    have := (h.lt k e).2
    omega
  | succ j => simp at hj
theorem row_write1 {base : Nat} {T : TypeId} {lo : Nat} {S : Nat → Bool} {wr w0 z : World} {v u : Value} {kl : List WrL} {p : Int} {x : List UInt8} (h : OwnR rWrite base T lo S wr v kl) (hS : ∀ k, wr.heap.size ≤ k → S k = false) (h0 : w0.heap = wr.heap)
    (hB : Below w0.heap.size w0 z) (hb : Bytes z w0.heap.size z.heap.size u x) (hlo : lo ≤ wr.heap.size) (hp : (Lit.int .i64 p).wf = true) (T2 : TypeId) :
    OwnR rWrite base T lo S (z.alloc (.cells #[.int .i64 p, u] T2)) v kl ∧ ∀ j y, [(⟨p, x⟩ : WrL)][j]? = some y → rWrite.R (hideW (z.alloc (.cells #[.int .i64 p, u] T2)) (andOwn S v)) lo (z.alloc (.cells #[.int .i64 p, u] T2)).heap.size y (fun i => [.int .i64 p, u][j * rWrite.n + i]?) := by
  have hs : wr.heap.size = w0.heap.size := by rw [h0]
  refine ⟨(h.to rWrite_ck (by rw [hs]; exact hB.size) (fun k hk _ => (hB.block k (by omega)).trans (by rw [h0]))).alloc rWrite_ck _, fun j y hj => ?_⟩
  cases j with
  | zero =>
    cases hj
    refine ⟨rfl, hp, u, rfl, (hb.kept (hideW_kp fun k h1 h2 => ⟨andOwn_of (hS k (by omega)) (fun e => ?_), Below.heap_alloc z _ k h2⟩)).more (by omega) (by simp)⟩
    have := (h.lt k e).2
    omega
  | succ j => simp at hj
theorem snoc_take {α : Type} (l : List α) (k : Nat) (d : α) (h : k < l.length) : l.take (k + 1) = l.take k ++ [l.getD k d] := by
  rw [List.take_succ_eq_append_getElem h]
  simp [h]
/-- The blocks of a call's own variables. -/
def boxS (lo n : Nat) (k : Nat) : Bool := decide (lo ≤ k) && decide (k < lo + n)
theorem boxS_no {lo n k : Nat} (h : lo + n ≤ k) : boxS lo n k = false := by unfold boxS; simp; omega
theorem boxS_yes {lo n k : Nat} (h1 : lo ≤ k) (h2 : k < lo + n) : boxS lo n k = true := by unfold boxS; simp; omega
theorem dat_len (d : DiskL) (x : List UInt8) (h : x ∈ datD d) : x.length ≤ (datD d).flatten.length := by
  obtain ⟨i, hi, e⟩ := List.mem_iff_getElem.1 h
  have h1 := posD_succ (datD d) i hi
  have h2 := posD_le (datD d) (i + 1)
  have h3 : (datD d).getD i [] = x := by rw [← e]; simp [hi]
  rw [h3] at h1
  omega

end Go.Proofs.Ytkfgegdnpinbdaa

