/- RingCodes: the words and contracts, part 12. -/
import Derived.Test.YtcibihakjcenaaaRingCodesQ1
import Derived.Test.YtcibihakjcenaaaRingCodesQ2
import Derived.Test.YtcibihakjcenaaaRingCodesQ3
import Derived.Test.YtcibihakjcenaaaRingCodesQ4
import Derived.Test.YtcibihakjcenaaaRingCodesQ5
import Derived.Test.YtcibihakjcenaaaRingCodesQ6
import Derived.Test.YtcibihakjcenaaaRingCodesQ7
import Derived.Test.YtcibihakjcenaaaRingCodesQ8
import Derived.Test.YtcibihakjcenaaaRingCodesQ9
import Derived.Test.YtcibihakjcenaaaRingCodesQ10
import Derived.Test.YtcibihakjcenaaaRingCodesQ11
import Derived.WalkKit
import Derived.WalkLawsBesides
import Derived.WalkSpells
import Derived.Lib.Hide
import Derived.Laws.Rows
import Derived.Laws.AppendOwnNone
import Derived.Maps.AppendAt
import Derived.ProofKit
import Derived.Deep.Slices
import Derived.WideShapes
import Derived.RangeFuncNested
import Derived.RangeFuncBound
import Derived.RangeFuncCalls
import Derived.RangeFuncLeaves
import Derived.RangeFuncBox
import Derived.Shelf.Abstract
import Derived.Shelf.RegionOpen
import Derived.OwnWalkIn
import Derived.TacticsInMore
import Derived.LoopNIn
import Derived.LoopIn
import Derived.Lib.AppendZerosOnto
import Derived.Lib.SliceRun
import Derived.Lib.Walk
import Derived.Deep.LoopGhost
import Derived.Laws.CopyOwn
import Derived.Laws.CopyRow
import Derived.OrdersHeld
import Derived.Deep.QuietTactic
import Derived.BigQuiet
import Derived.StillTailTactics
import Derived.OpenShut
import Derived.Deep.DeepCutAuto
import Derived.Deep.RegionHeld
import Derived.Laws.MakeOwn
import Derived.KernelRfl
import Derived.BigFrameIn
import Derived.ShutString
import Derived.ChangeOld
import Derived.Below
namespace Go.Proofs.Ytcibihakjcenaaa
open Go.RowKit

/-- Where a generation's superblock stands. -/
def slotU (g : UInt32) : Nat := g.toNat % 4
theorem uslot_any (g : UInt32) (w : World) : Calls Try.prog 23 #[wV g] w fun e w' => e = .returned (.int .i64 (slotU g : Nat)) ∧ w' = w := by
  have hg := g.toNat_lt
  obtain ⟨n, hn⟩ : ∃ n, g.toNat = n := ⟨_, rfl⟩
  unfold slotU
  simp only [wV]
  rw [hn] at hg ⊢
  clear hn
  have h1 : (n : Int) < 9223372036854775808 := by omega
  go_enter Try.func23, Try.ntmps23
  go_wp2
  go_ret
  exact ⟨by simp, rfl⟩
set_option maxRecDepth 100000 in
set_option maxHeartbeats 1000000 in
/-- slices.Equal at ints. -/
theorem eqd_any (v u : Value) (l m : List Int) (w : World) (hv : Sl (rInt .i64) w 0 w.heap.size v l) (hu : Sl (rInt .i64) w 0 w.heap.size u m) :
    Calls Try.prog 70 #[v, u] w fun e w' => e = .returned (.bool (decide (l = m))) ∧ Below w.heap.size w w' := by
  have HV := Lib.hid hv
  have HU := Lib.hid hu
  obtain ⟨av, cv, rfl, g1, g2, -, -⟩ := hv
  obtain ⟨au, cu, rfl, g1', g2', -, -⟩ := hu
  unfold maxLen at g2 g2'
  obtain ⟨r, hr⟩ : ∃ r, decide (l = m) = r := ⟨_, rfl⟩
  rw [hr]
  have HR := Lib.hid hr
  clear hr
  go_enter Try.func70, Try.ntmps70
  by_cases hl : l.length = m.length
  case neg =>
    obtain rfl : r = false := by
      rw [← HR.out]
      exact decide_eq_false (fun e => hl (by rw [e]))
    have i1 : ¬ (l.length : Int) = m.length := by omega
    go_wp2
    go_ret
    exact ⟨rfl, Below.refl _ _⟩
  have i1 : ((l.length : Int) != m.length) = false := by simp; omega
  have HL := Lib.hid hl
  have hlm : l.length ≤ m.length := by omega
  clear hl
  go_wp2
  go_loopw [5, 13] (fun _ i wr => ∃ k : Nat, k ≤ l.length ∧ i = .int .i64 k ∧ Below w.heap.size w wr ∧ ∀ j, j < k → l.getD j 0 = m.getD j 0) (fun _ i _ => l.length - (intOf i).toNat)
  case atStart => exact ⟨0, Nat.zero_le _, rfl, Below.refl _ _, fun j hj => absurd hj (Nat.not_lt_zero _)⟩
  case round =>
  obtain ⟨k, hk, rfl, hB, hall⟩ := hrel
  by_cases hlt : k < l.length
  · obtain ⟨b1, o1, c1, e1, -, hz1, -, z3, -⟩ := HV.out.at_ (by omega)
    injection e1 with ea _ ec
    subst ea ec
    obtain ⟨b2, o2, c2, e2, -, hz2, -, z3', -⟩ := HU.out.at_ (by omega)
    injection e2 with ea _ ec
    subst ea ec
    have ck1 := (HV.out.below hB (Nat.le_refl _)).cellI k hlt
    have ck2 := (HU.out.below hB (Nat.le_refl _)).cellI k (by omega)
    obtain ⟨X, hX⟩ : ∃ X, l.getD k 0 = X := ⟨_, rfl⟩
    obtain ⟨Y, hY⟩ : ∃ Y, m.getD k 0 = Y := ⟨_, rfl⟩
    rw [hX] at ck1
    rw [hY] at ck2
    have hkm : k < m.length := by omega
    unfold maxLen at z3 z3'
    have HP := Lib.hid (And.intro hall (And.intro hB (And.intro hX hY)))
    clear hall hB hX hY
    by_cases he : X = Y
    · subst he
      have HE := Lib.hid (show l.getD k 0 = m.getD k 0 by rw [HP.out.2.2.1, HP.out.2.2.2])
      have n1 : (X != X) = false := by simp
      go_upto_region 6 with (fail)
      go_quiet (fail)
      go_wp2
      go_roundw
      case measure => simp only [intOf]; omega
      case rel =>
        refine ⟨k + 1, by omega, by go_num, below_step HP.out.2.1 HP.out.2.1.size (below_dr _ _), fun j hj => ?_⟩
        rcases Nat.lt_succ_iff_lt_or_eq.1 hj with h | rfl
        · exact HP.out.1 j h
        · exact HE.out
    · obtain rfl : r = false := by
        rw [← HR.out]
        refine decide_eq_false fun e => he ?_
        rw [← HP.out.2.2.1, ← HP.out.2.2.2, e]
      have n1 : (X != Y) = true := by simpa using he
      have n2 : (X == Y) = false := by simpa using he
      go_upto_region 6 with (fail)
      go_quiet (fail)
      go_wp2
      go_ret
      exact ⟨rfl, below_step HP.out.2.1 HP.out.2.1.size (below_dr _ _)⟩
  · have hkl : k = l.length := by omega
    subst hkl
    obtain rfl : r = true := by
      rw [← HR.out]
      exact decide_eq_true (ext_getD l m 0 HL.out hall)
    go_wp2
    go_ret
    exact ⟨rfl, hB⟩
theorem sup_eq (s t : SupL) : decide (s = t) = (((s.gen.toNat : Int) == t.gen.toNat) && ((s.root == t.root) && (((s.next.toNat : Int) == t.next.toNat) && (((s.table.toNat : Int) == t.table.toNat) && decide (s.dead = t.dead))))) := by
  have n1 : ∀ a b : UInt32, ((a.toNat : Int) == b.toNat) = decide (a = b) := fun a b => by
    rw [Bool.eq_iff_iff]
    simp only [beq_iff_eq, decide_eq_true_eq]
    constructor
    · intro h; exact UInt32.toNat_inj.1 (by omega)
    · intro h; rw [h]
  obtain ⟨a, b, c, d, e⟩ := s
  obtain ⟨a', b', c', d', e'⟩ := t
  simp only [n1, SupL.mk.injEq]
  rw [Bool.eq_iff_iff]
  simp
set_option maxRecDepth 100000 in
set_option maxHeartbeats 1000000 in
/-- ring.Same. -/
theorem usame_any (s t : SupL) (u v : Value) (w : World) (h_s : SupV w 0 w.heap.size u s) (h_t : SupV w 0 w.heap.size v t) :
    Calls Try.prog 22 #[.agg #[wV s.gen, .int .i64 s.root, wV s.next, wV s.table, u], .agg #[wV t.gen, .int .i64 t.root, wV t.next, wV t.table, v]] w fun e w' => e = .returned (.bool (decide (s = t))) ∧ Below w.heap.size w w' := by
  rw [sup_eq]
  have hI := h_s.2
  have hJ := h_t.2
  have hq := fun W hh1 hh2 => eqd_any u v s.dead t.dead W hh1 hh2
  clear h_s h_t
  simp only [wV]
  generalize (s.gen.toNat : Int) = a1 at *
  generalize (t.gen.toNat : Int) = b1 at *
  generalize s.root = a2 at *
  generalize t.root = b2 at *
  generalize (s.next.toNat : Int) = a3 at *
  generalize (t.next.toNat : Int) = b3 at *
  generalize (s.table.toNat : Int) = a4 at *
  generalize (t.table.toNat : Int) = b4 at *
  generalize decide (s.dead = t.dead) = z at *
  have hB := ((Below.refl w.heap.size w).alloc (Nat.le_refl _) (.cells #[.int .u32 a1, .int .i64 a2, .int .u32 a3, .int .u32 a4, u] 25)).alloc (by simp) (.cells #[.int .u32 b1, .int .i64 b2, .int .u32 b3, .int .u32 b4, v] 25)
  have hn := two_new w (.cells #[.int .u32 a1, .int .i64 a2, .int .u32 a3, .int .u32 a4, u] 25) (.cells #[.int .u32 b1, .int .i64 b2, .int .u32 b3, .int .u32 b4, v] 25)
  replace hI := hI.step hB
  replace hJ := hJ.step hB
  have HB := Lib.hid (And.intro hB (And.intro hI hJ))
  clear hB hI hJ
  go_enter Try.func22, Try.ntmps22
  go_upto_region 1 with (fail)
  obtain ⟨V, hV⟩ : ∃ V, (w.alloc (.cells #[.int .u32 a1, .int .i64 a2, .int .u32 a3, .int .u32 a4, u] 25)).alloc (.cells #[.int .u32 b1, .int .i64 b2, .int .u32 b3, .int .u32 b4, v] 25) = V := ⟨_, rfl⟩
  rw [hV] at hn HB ⊢
  clear hV
  have x0 := blk_cell hn.1 0
  have x1 := blk_cell hn.1 1
  have x2 := blk_cell hn.1 2
  have x3 := blk_cell hn.1 3
  have x4 := blk_cell hn.1 4
  have y0 := blk_cell hn.2 0
  have y1 := blk_cell hn.2 1
  have y2 := blk_cell hn.2 2
  have y3 := blk_cell hn.2 3
  have y4 := blk_cell hn.2 4
  simp at x0 x1 x2 x3 x4 y0 y1 y2 y3 y4
  clear hn
  cases e1 : a1 == b1
  case false =>
    go_wp2
    go_ret
    exact ⟨by rw [e1]; rfl, HB.out.1⟩
  cases e2 : a2 == b2
  case false =>
    go_wp2
    go_ret
    exact ⟨by rw [e1, e2]; rfl, HB.out.1⟩
  cases e3 : a3 == b3
  case false =>
    go_wp2
    go_ret
    exact ⟨by rw [e1, e2, e3]; rfl, HB.out.1⟩
  cases e4 : a4 == b4
  case false =>
    go_wp2
    go_ret
    exact ⟨by rw [e1, e2, e3, e4]; rfl, HB.out.1⟩
  go_wp2_with fail
  refine (hq _ HB.out.2.1 HB.out.2.2).mono ?_
  rintro e w1 ⟨rfl, hst⟩
  go_wp2
  go_ret
  exact ⟨by rw [e1, e2, e3, e4]; rfl, below_step HB.out.1 HB.out.1.size hst⟩
end Go.Proofs.Ytcibihakjcenaaa

namespace Go.Proofs.Ytcibihakjcenaaa
open Go.RowKit

theorem rutaken_any (x : Int) (w : World) : Calls Try.prog 102 #[.int .i64 x] w fun e w' => e = .returned (.bool (takB x)) ∧ w' = w := by
  by_cases h1 : 8 ≤ x
  · by_cases h2 : x < 256
    · have e : takB x = true := by unfold takB; simp [h1, h2]
      rw [e]
      go_enter Try.func102, Try.ntmps102
      go_wp2
      go_ret
      exact ⟨rfl, rfl⟩
    · have e : takB x = false := by unfold takB; simp [h2]
      rw [e]
      go_enter Try.func102, Try.ntmps102
      go_wp2
      go_ret
      exact ⟨rfl, rfl⟩
  · have e : takB x = false := by unfold takB; simp [h1]
    rw [e]
    go_enter Try.func102, Try.ntmps102
    go_wp2
    go_ret
    exact ⟨rfl, rfl⟩

set_option maxRecDepth 100000 in
set_option maxHeartbeats 1000000 in
/-- The reference's May. -/
theorem rumay_any (s : SupL) (u : Value) (w : World) (h_s : SupV w 0 w.heap.size u s) :
    Calls Try.prog 57 #[.agg #[wV s.gen, .int .i64 s.root, wV s.next, wV s.table, u]] w fun e w' => e = .returned (.bool (mayU s)) ∧ Below w.heap.size w w' := by
  have hI := h_s.2
  obtain ⟨a, c, rfl, g1, g2, -, -⟩ := id hI
  unfold maxLen at g2
  have hE : mayU s = (s.dead.all takB && (takB s.root && decide (s.dead.length ≤ 40))) := rfl
  have ht := fun W => rutaken_any s.root W
  have hd := fun k W => rutaken_any (s.dead.getD k 0) W
  have hfail : ∀ k, k < s.dead.length → takB (s.dead.getD k 0) = false → s.dead.all takB = false := fun k hk h => by
    rw [Bool.eq_false_iff]
    intro e
    rw [List.all_eq_true] at e
    have := e (s.dead.getD k 0) (by rw [List.getD_eq_getElem?_getD, List.getElem?_eq_getElem hk]; exact List.getElem_mem hk)
    rw [h] at this
    cases this
  have hall : (∀ k, k < s.dead.length → takB (s.dead.getD k 0) = true) → s.dead.all takB = true := fun h => by
    rw [List.all_eq_true]
    intro x hx
    obtain ⟨k, hk, rfl⟩ := List.getElem_of_mem hx
    have := h k hk
    rwa [List.getD_eq_getElem?_getD, List.getElem?_eq_getElem hk] at this
  generalize mayU s = z at *
  generalize wV s.gen = vg
  generalize wV s.next = vn
  generalize wV s.table = vt
  generalize s.root = ro at *
  generalize s.dead.all takB = da at *
  generalize takB ro = tr at *
  have HE := Lib.hid (And.intro hE (And.intro hfail hall))
  clear hE hfail hall
  have hst := (Below.refl w.heap.size w).alloc (Nat.le_refl _) (.cells #[vg, .int .i64 ro, vn, vt, .slice a s.dead.length c] 25)
  have hq := LK.new w (.cells #[vg, .int .i64 ro, vn, vt, .slice a s.dead.length c] 25)
  replace hI := hI.step hst
  have HI := Lib.hid (And.intro hI hst)
  clear hI hst h_s
  go_enter Try.func57, Try.ntmps57
  go_upto_region 1 with (fail)
  obtain ⟨V, hV⟩ : ∃ V, (w.alloc (.cells #[vg, .int .i64 ro, vn, vt, .slice a s.dead.length c] 25)) = V := ⟨_, rfl⟩
  rw [hV] at hq HI ⊢
  clear hV
  have c1 := LK.cell hq 1
  have c4 := LK.cell hq 4
  simp at c1 c4
  have HD := Lib.hid hd
  have HT := Lib.hid ht
  clear hd ht
  go_wp2
  go_loop [3] (fun i => ∃ k : Nat, k ≤ s.dead.length ∧ i = .int .i64 k ∧ ∀ j, j < k → takB (s.dead.getD j 0) = true) (fun i => s.dead.length - (intOf i).toNat)
  case atStart => exact ⟨0, Nat.zero_le _, rfl, fun j hj => absurd hj (Nat.not_lt_zero _)⟩
  case round =>
  obtain ⟨k, hk, rfl, hall⟩ := hrel
  by_cases hlt : k < s.dead.length
  · obtain ⟨b1, o1, c2, e1, -, hz1, -, z3, -⟩ := HI.out.1.at_ (by omega)
    injection e1 with ea _ ec
    subst ea ec
    have ck := HI.out.1.cellI k hlt
    have kd := HD.out k V
    obtain ⟨X, hX⟩ : ∃ X, s.dead.getD k 0 = X := ⟨_, rfl⟩
    rw [hX] at ck kd
    obtain ⟨tx, htx⟩ : ∃ t, takB X = t := ⟨_, rfl⟩
    rw [htx] at kd
    have HP := Lib.hid (And.intro hall (And.intro hX htx))
    have KD := Lib.hid kd
    clear hall hX htx kd
    unfold maxLen at z3
    go_wp2_with fail
    refine KD.out.mono ?_
    rintro e w1 ⟨rfl, rfl⟩
    cases tx
    case false =>
      obtain rfl : da = false := HE.out.2.1 k hlt (by rw [HP.out.2.1]; exact HP.out.2.2)
      obtain rfl : z = false := by rw [HE.out.1]; rfl
      go_wp2
      go_ret
      exact ⟨rfl, HI.out.2⟩
    go_wp2
    go_round
    case rel => exact ⟨k + 1, by omega, by go_num, fun j hj => by
      rcases Nat.lt_succ_iff_lt_or_eq.1 hj with h | rfl
      · exact HP.out.1 j h
      · rw [HP.out.2.1]; exact HP.out.2.2⟩
    case measure => simp [intOf]; omega
  obtain rfl : k = s.dead.length := by omega
  obtain rfl : da = true := HE.out.2.2 hall
  clear hall
  go_wp2_with fail
  refine (HT.out _).mono ?_
  rintro e w2 ⟨rfl, rfl⟩
  cases tr
  case false =>
    go_wp2
    go_ret
    exact ⟨by rw [HE.out.1]; simp, HI.out.2⟩
  by_cases h40 : s.dead.length ≤ 40
  · have h41 : (s.dead.length : Int) ≤ 40 := by omega
    go_wp2
    go_ret
    exact ⟨by rw [HE.out.1]; simp [h40], HI.out.2⟩
  · have h41 : (40 : Int) < s.dead.length := by omega
    go_wp2
    go_ret
    exact ⟨by rw [HE.out.1]; simp [h40]; exact h41, HI.out.2⟩

set_option maxRecDepth 100000 in
set_option maxHeartbeats 1000000 in
/-- The reference's Check. -/
theorem rucheck_any (s : SupL) (u : Value) (w : World) (h_s : SupV w 0 w.heap.size u s) :
    Calls Try.prog 21 #[.agg #[wV s.gen, .int .i64 s.root, wV s.next, wV s.table, u]] w fun e w' => e = .returned (.int .i64 (errUw s)) ∧ Below w.heap.size w w' := by
  have hst := (Below.refl w.heap.size w).alloc (Nat.le_refl _) (.cells #[wV s.gen, .int .i64 s.root, wV s.next, wV s.table, u] 25)
  have hq := LK.new w (.cells #[wV s.gen, .int .i64 s.root, wV s.next, wV s.table, u] 25)
  have k1 := rumay_any s u _ ⟨h_s.1, h_s.2.step hst⟩
  have hE : errUw s = if mayU s then 0 else 8 := rfl
  generalize errUw s = z at *
  generalize wV s.gen = vg at *
  generalize wV s.next = vn at *
  generalize wV s.table = vt at *
  generalize s.root = ro at *
  generalize mayU s = m at *
  have HK := Lib.hid (And.intro k1 hst)
  obtain ⟨a, c, rfl, g1, g2, -, -⟩ := id h_s.2
  clear k1 hst h_s
  obtain ⟨V, hV⟩ : ∃ V, (w.alloc (.cells #[vg, .int .i64 ro, vn, vt, .slice a s.dead.length c] 25)) = V := ⟨_, rfl⟩
  rw [hV] at hq HK
  have c0 := LK.cell hq 0
  have c1 := LK.cell hq 1
  have c2 := LK.cell hq 2
  have c3 := LK.cell hq 3
  have c4 := LK.cell hq 4
  simp at c0 c1 c2 c3 c4
  cases m
  all_goals
    simp at hE
    subst hE
    go_enter Try.func21, Try.ntmps21
    go_wp2_with fail
    refine HK.out.1.mono ?_
    rintro e w1 ⟨rfl, hst⟩
    go_wp2
    go_ret
    exact ⟨rfl, below_step HK.out.2 HK.out.2.size hst⟩

/-- The reference's Slot. -/
theorem ruslot_any (g : UInt32) (w : World) : Calls Try.prog 24 #[wV g] w fun e w' => e = .returned (.int .i64 (slotU g : Nat)) ∧ w' = w := by
  have hg := g.toNat_lt
  obtain ⟨n, hn⟩ : ∃ n, g.toNat = n := ⟨_, rfl⟩
  unfold slotU
  simp only [wV]
  rw [hn] at hg ⊢
  clear hn
  have h1 : (n : Int) < 4294967296 := by omega
  go_enter Try.func24, Try.ntmps24
  go_wp2
  go_ret
  exact ⟨by simp, rfl⟩
set_option maxRecDepth 100000 in
set_option maxHeartbeats 1000000 in
/-- SameNumbers. -/
theorem rnums_any (v u : Value) (l m : List Int) (w : World) (hv : Sl (rInt .i64) w 0 w.heap.size v l) (hu : Sl (rInt .i64) w 0 w.heap.size u m) :
    Calls Try.prog 66 #[v, u] w fun e w' => e = .returned (.bool (decide (l = m))) ∧ Below w.heap.size w w' := by
  have HV := Lib.hid hv
  have HU := Lib.hid hu
  obtain ⟨av, cv, rfl, g1, g2, -, -⟩ := hv
  obtain ⟨au, cu, rfl, g1', g2', -, -⟩ := hu
  unfold maxLen at g2 g2'
  obtain ⟨r, hr⟩ : ∃ r, decide (l = m) = r := ⟨_, rfl⟩
  rw [hr]
  have HR := Lib.hid hr
  clear hr
  go_enter Try.func66, Try.ntmps66
  by_cases hl : l.length = m.length
  case neg =>
    obtain rfl : r = false := by
      rw [← HR.out]
      exact decide_eq_false (fun e => hl (by rw [e]))
    have i1 : ¬ (l.length : Int) = m.length := by omega
    go_wp2
    go_ret
    exact ⟨rfl, Below.refl _ _⟩
  have i1 : ((l.length : Int) != m.length) = false := by simp; omega
  have HL := Lib.hid hl
  have hlm : l.length ≤ m.length := by omega
  clear hl
  go_wp2
  go_loopw [5] (fun i wr => ∃ k : Nat, k ≤ l.length ∧ i = .int .i64 k ∧ Below w.heap.size w wr ∧ ∀ j, j < k → l.getD j 0 = m.getD j 0) (fun i _ => l.length - (intOf i).toNat)
  case atStart => exact ⟨0, Nat.zero_le _, rfl, Below.refl _ _, fun j hj => absurd hj (Nat.not_lt_zero _)⟩
  case round =>
  obtain ⟨k, hk, rfl, hB, hall⟩ := hrel
  by_cases hlt : k < l.length
  · obtain ⟨b1, o1, c1, e1, -, hz1, -, z3, -⟩ := HV.out.at_ (by omega)
    injection e1 with ea _ ec
    subst ea ec
    obtain ⟨b2, o2, c2, e2, -, hz2, -, z3', -⟩ := HU.out.at_ (by omega)
    injection e2 with ea _ ec
    subst ea ec
    have ck1 := (HV.out.below hB (Nat.le_refl _)).cellI k hlt
    have ck2 := (HU.out.below hB (Nat.le_refl _)).cellI k (by omega)
    obtain ⟨X, hX⟩ : ∃ X, l.getD k 0 = X := ⟨_, rfl⟩
    obtain ⟨Y, hY⟩ : ∃ Y, m.getD k 0 = Y := ⟨_, rfl⟩
    rw [hX] at ck1
    rw [hY] at ck2
    have hkm : k < m.length := by omega
    unfold maxLen at z3 z3'
    have HP := Lib.hid (And.intro hall (And.intro hB (And.intro hX hY)))
    clear hall hB hX hY
    by_cases he : X = Y
    · subst he
      have HE := Lib.hid (show l.getD k 0 = m.getD k 0 by rw [HP.out.2.2.1, HP.out.2.2.2])
      have n1 : (X != X) = false := by simp
      go_upto_region 6 with (fail)
      go_quiet (fail)
      go_wp2
      go_roundw
      case measure => simp only [intOf]; omega
      case rel =>
        refine ⟨k + 1, by omega, by go_num, below_step HP.out.2.1 HP.out.2.1.size (below_dr _ _), fun j hj => ?_⟩
        rcases Nat.lt_succ_iff_lt_or_eq.1 hj with h | rfl
        · exact HP.out.1 j h
        · exact HE.out
    · obtain rfl : r = false := by
        rw [← HR.out]
        refine decide_eq_false fun e => he ?_
        rw [← HP.out.2.2.1, ← HP.out.2.2.2, e]
      have n1 : (X != Y) = true := by simpa using he
      have n2 : (X == Y) = false := by simpa using he
      go_upto_region 6 with (fail)
      go_quiet (fail)
      go_wp2
      go_ret
      exact ⟨rfl, below_step HP.out.2.1 HP.out.2.1.size (below_dr _ _)⟩
  · have hkl : k = l.length := by omega
    subst hkl
    obtain rfl : r = true := by
      rw [← HR.out]
      exact decide_eq_true (ext_getD l m 0 HL.out hall)
    go_wp2
    go_ret
    exact ⟨rfl, hB⟩
set_option maxRecDepth 100000 in
set_option maxHeartbeats 1000000 in
/-- The reference's Same. -/
theorem rusame_any (s t : SupL) (u v : Value) (w : World) (h_s : SupV w 0 w.heap.size u s) (h_t : SupV w 0 w.heap.size v t) :
    Calls Try.prog 19 #[.agg #[wV s.gen, .int .i64 s.root, wV s.next, wV s.table, u], .agg #[wV t.gen, .int .i64 t.root, wV t.next, wV t.table, v]] w fun e w' => e = .returned (.bool (decide (s = t))) ∧ Below w.heap.size w w' := by
  rw [sup_eq]
  have hI := h_s.2
  have hJ := h_t.2
  have hq := fun W hh1 hh2 => rnums_any u v s.dead t.dead W hh1 hh2
  clear h_s h_t
  simp only [wV]
  generalize (s.gen.toNat : Int) = a1 at *
  generalize (t.gen.toNat : Int) = b1 at *
  generalize s.root = a2 at *
  generalize t.root = b2 at *
  generalize (s.next.toNat : Int) = a3 at *
  generalize (t.next.toNat : Int) = b3 at *
  generalize (s.table.toNat : Int) = a4 at *
  generalize (t.table.toNat : Int) = b4 at *
  generalize decide (s.dead = t.dead) = z at *
  have hB := ((Below.refl w.heap.size w).alloc (Nat.le_refl _) (.cells #[.int .u32 a1, .int .i64 a2, .int .u32 a3, .int .u32 a4, u] 25)).alloc (by simp) (.cells #[.int .u32 b1, .int .i64 b2, .int .u32 b3, .int .u32 b4, v] 25)
  have hn := two_new w (.cells #[.int .u32 a1, .int .i64 a2, .int .u32 a3, .int .u32 a4, u] 25) (.cells #[.int .u32 b1, .int .i64 b2, .int .u32 b3, .int .u32 b4, v] 25)
  replace hI := hI.step hB
  replace hJ := hJ.step hB
  have HB := Lib.hid (And.intro hB (And.intro hI hJ))
  clear hB hI hJ
  go_enter Try.func19, Try.ntmps19
  go_upto_region 1 with (fail)
  obtain ⟨V, hV⟩ : ∃ V, (w.alloc (.cells #[.int .u32 a1, .int .i64 a2, .int .u32 a3, .int .u32 a4, u] 25)).alloc (.cells #[.int .u32 b1, .int .i64 b2, .int .u32 b3, .int .u32 b4, v] 25) = V := ⟨_, rfl⟩
  rw [hV] at hn HB ⊢
  clear hV
  have x0 := blk_cell hn.1 0
  have x1 := blk_cell hn.1 1
  have x2 := blk_cell hn.1 2
  have x3 := blk_cell hn.1 3
  have x4 := blk_cell hn.1 4
  have y0 := blk_cell hn.2 0
  have y1 := blk_cell hn.2 1
  have y2 := blk_cell hn.2 2
  have y3 := blk_cell hn.2 3
  have y4 := blk_cell hn.2 4
  simp at x0 x1 x2 x3 x4 y0 y1 y2 y3 y4
  clear hn
  cases e1 : a1 == b1
  case false =>
    go_wp2
    go_ret
    exact ⟨by rw [e1]; rfl, HB.out.1⟩
  cases e2 : a2 == b2
  case false =>
    go_wp2
    go_ret
    exact ⟨by rw [e1, e2]; rfl, HB.out.1⟩
  cases e3 : a3 == b3
  case false =>
    go_wp2
    go_ret
    exact ⟨by rw [e1, e2, e3]; rfl, HB.out.1⟩
  cases e4 : a4 == b4
  case false =>
    go_wp2
    go_ret
    exact ⟨by rw [e1, e2, e3, e4]; rfl, HB.out.1⟩
  go_wp2_with fail
  refine (hq _ HB.out.2.1 HB.out.2.2).mono ?_
  rintro e w1 ⟨rfl, hst⟩
  go_wp2
  go_ret
  exact ⟨by rw [e1, e2, e3, e4]; rfl, below_step HB.out.1 HB.out.1.size hst⟩
end Go.Proofs.Ytcibihakjcenaaa

