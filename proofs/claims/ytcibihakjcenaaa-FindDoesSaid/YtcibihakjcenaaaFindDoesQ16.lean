/- FindDoes: the words and contracts, part 16. -/
import Derived.Test.YtcibihakjcenaaaFindDoesQ1
import Derived.Test.YtcibihakjcenaaaFindDoesQ2
import Derived.Test.YtcibihakjcenaaaFindDoesQ3
import Derived.Test.YtcibihakjcenaaaFindDoesQ4
import Derived.Test.YtcibihakjcenaaaFindDoesQ5
import Derived.Test.YtcibihakjcenaaaFindDoesQ6
import Derived.Test.YtcibihakjcenaaaFindDoesQ7
import Derived.Test.YtcibihakjcenaaaFindDoesQ8
import Derived.Test.YtcibihakjcenaaaFindDoesQ9
import Derived.Test.YtcibihakjcenaaaFindDoesQ10
import Derived.Test.YtcibihakjcenaaaFindDoesQ11
import Derived.Test.YtcibihakjcenaaaFindDoesQ12
import Derived.Test.YtcibihakjcenaaaFindDoesQ13
import Derived.Test.YtcibihakjcenaaaFindDoesQ14
import Derived.Test.YtcibihakjcenaaaFindDoesQ15
import Derived.WalkKit
import Derived.WalkLawsBesides
import Derived.WalkSpells
import Derived.Lib.Hide
import Derived.Laws.Rows
import Derived.Laws.AppendOwnNone
import Derived.Maps.AppendAt
import Derived.RangeFuncNested
import Derived.RangeFuncBound
import Derived.RangeFuncCalls
import Derived.RangeFuncLeaves
import Derived.RangeFuncBox
import Derived.Shelf.Abstract
import Derived.Shelf.RegionOpen
import Derived.OwnWalkIn
import Derived.TacticsInMore
import Derived.LoopNIn
import Derived.LoopIn
import Derived.ProofKit
import Derived.Deep.Slices
import Derived.WideShapes
import Derived.OrdersHeld
import Derived.Deep.QuietTactic
import Derived.BigQuiet
import Derived.StillTailTactics
import Derived.OpenShut
import Derived.Lib.SliceRun
import Derived.Lib.AppendZerosOnto
import Derived.Lib.Walk
import Derived.Deep.LoopGhost
import Derived.Laws.CopyOwn
import Derived.Deep.DeepCutAuto
import Derived.Laws.CopyRow
import Derived.Laws.MakeOwn
import Derived.Deep.RegionHeld
import Derived.KernelRfl
import Derived.BigFrameIn
import Derived.OrdersIn
namespace Go.Proofs.Ytcibihakjcenaaa
open Go.RowKit

set_option linter.unusedSimpArgs false
def treR (s : StoreL) (p : Int) : Int := if isR s p = true ∧ innerR s (rdR s p).level.toNat (rdR s p).items ⟨0, 0, 0⟩ false = true then (rdR s p).level + 1 else -1
set_option maxRecDepth 100000 in
set_option maxHeartbeats 2000000 in
theorem rtree_any (b_s u_s x_s y_s : Value) (s : StoreL) (p : Int) (w : World) (h_s : StoreV w 0 w.heap.size b_s u_s x_s y_s s) (hm : mayS s = true) :
    Calls Try.prog 76 #[.agg #[b_s, u_s, x_s, y_s], .int .i64 p] w fun e w' => e = .returned (.int .i64 (treR s p)) ∧ Below w.heap.size w w' := by
  obtain ⟨ab_s, cb_s, rfl, gb_s, gc_s, -, -⟩ := h_s.1.1
  obtain ⟨au_s, cu_s, rfl, gu_s, gv_s, -, -⟩ := h_s.1.2
  obtain ⟨ax_s, cx_s, rfl, gx_s, gz_s⟩ := h_s.2.1.form rfl
  obtain ⟨ay_s, cy_s, rfl, gy_s, gw_s⟩ := h_s.2.2.form rfl
  unfold maxLen at gc_s gv_s gz_s gw_s
  have hst := ((Below.refl w.heap.size w).alloc (Nat.le_refl _) (.cells #[.slice ab_s s.disk.blocks.length cb_s, .slice au_s s.disk.waits.length cu_s, .slice ax_s s.now.length cx_s, .slice ay_s s.last.length cy_s] 46))
  have q_s := LK.new w (.cells #[.slice ab_s s.disk.blocks.length cb_s, .slice au_s s.disk.waits.length cu_s, .slice ax_s s.now.length cx_s, .slice ay_s s.last.length cy_s] 46)
  have hB : LW w _ := hst
  have O_s := (LO.of h_s (Nat.le_refl _)).step hst
  have sz_V : w.heap.size + 0 < (w.alloc (.cells #[.slice ab_s s.disk.blocks.length cb_s, .slice au_s s.disk.waits.length cu_s, .slice ax_s s.now.length cx_s, .slice ay_s s.last.length cy_s] 46)).heap.size := by simp
  obtain ⟨V, hV⟩ : ∃ V, (w.alloc (.cells #[.slice ab_s s.disk.blocks.length cb_s, .slice au_s s.disk.waits.length cu_s, .slice ax_s s.now.length cx_s, .slice ay_s s.last.length cy_s] 46)) = V := ⟨_, rfl⟩
  rw [hV] at sz_V q_s O_s hB
  clear hst h_s
  have HQ := Lib.hid (And.intro q_s (And.intro O_s hB))
  clear q_s O_s hB
  have c_q_s0 := LK.cell HQ.out.1 0
  have c_q_s1 := LK.cell HQ.out.1 1
  have c_q_s2 := LK.cell HQ.out.1 2
  have c_q_s3 := LK.cell HQ.out.1 3
  simp at c_q_s0 c_q_s1 c_q_s2 c_q_s3
  have hT : treR s p = if isR s p = true ∧ innerR s (rdR s p).level.toNat (rdR s p).items ⟨0, 0, 0⟩ false = true then (rdR s p).level + 1 else -1 := rfl
  generalize treR s p = R at *
  have hmn : isR s p = true → mayN (rdR s p) = true := fun h => by
    have h2 := h
    unfold isR at h2
    rw [decide_eq_true_eq] at h2
    unfold rdR
    rw [h, if_pos rfl]
    exact nodeB_may h2.2.2
  have k_r := fun V b u x y hh => rsread_any b u x y s p V hh hm
  obtain ⟨ir, hir⟩ : ∃ q, isR s p = q := ⟨_, rfl⟩
  obtain ⟨lv, its, hN⟩ : ∃ lv its, rdR s p = ⟨lv, its⟩ := ⟨_, _, rfl⟩
  rw [hir, hN] at hT k_r hmn
  simp only at hT k_r hmn
  have HT := Lib.hid (And.intro hT (And.intro hmn hm))
  clear hT hmn hir hN hm
  have HC := Lib.hid (k_r)
  clear k_r
  go_enter Try.func76, Try.ntmps76
  go_upto_region 1 with (fail)
  clear hV
  go_wp2_with fail
  refine (HC.out _ _ _ _ _ HQ.out.2.1.v).mono ?_
  rintro e w1 ⟨v9, rfl, hsl, hst⟩
  clear c_q_s0 c_q_s1 c_q_s2 c_q_s3
  obtain ⟨q_s, O_s, hB⟩ := HQ.out
  clear HQ
  have S_n := LS.of hsl (Nat.le_refl _)
  obtain ⟨a_n, c_n, rfl, g_n, gm_n, -, -⟩ := id hsl
  unfold maxLen at gm_n
  clear hsl
  have sz_w1 : V.heap.size ≤ w1.heap.size := hst.size
  replace q_s := q_s.step hst
  replace O_s := O_s.step hst
  replace hB := hB.step hst
  clear hst
  have HQ := Lib.hid (And.intro q_s (And.intro O_s (And.intro S_n hB)))
  clear q_s O_s S_n hB
  have c_q_s0 := LK.cell HQ.out.1 0
  have c_q_s1 := LK.cell HQ.out.1 1
  have c_q_s2 := LK.cell HQ.out.1 2
  have c_q_s3 := LK.cell HQ.out.1 3
  simp at c_q_s0 c_q_s1 c_q_s2 c_q_s3
  go_upto_region 2 with (fail)
  clear c_q_s0 c_q_s1 c_q_s2 c_q_s3
  obtain ⟨q_s, O_s, S_n, hB⟩ := HQ.out
  clear HQ
  have hst := (Below.refl w1.heap.size w1).alloc (Nat.le_refl _) (.cells #[.int .i64 lv, .slice a_n its.length c_n] 119)
  have hlt : w1.heap.size < (w1.alloc (.cells #[.int .i64 lv, .slice a_n its.length c_n] 119)).heap.size := by simp
  have q_n := LK.new w1 (.cells #[.int .i64 lv, .slice a_n its.length c_n] 119)
  replace q_s := q_s.step hst
  replace O_s := O_s.step hst
  replace S_n := S_n.step hst
  replace hB := hB.step hst
  obtain ⟨w2, hw⟩ : ∃ v, w1.alloc (.cells #[.int .i64 lv, .slice a_n its.length c_n] 119) = v := ⟨_, rfl⟩
  rw [hw] at hlt q_n q_s O_s S_n hB ⊢
  clear hw hst
  have sz_w2 := hlt
  clear hlt
  have HQ := Lib.hid (And.intro q_s (And.intro O_s (And.intro S_n (And.intro q_n hB))))
  clear q_s O_s S_n q_n hB
  have c_q_s0 := LK.cell HQ.out.1 0
  have c_q_s1 := LK.cell HQ.out.1 1
  have c_q_s2 := LK.cell HQ.out.1 2
  have c_q_s3 := LK.cell HQ.out.1 3
  have c_q_n0 := LK.cell HQ.out.2.2.2.1 0
  have c_q_n1 := LK.cell HQ.out.2.2.2.1 1
  simp at c_q_s0 c_q_s1 c_q_s2 c_q_s3 c_q_n0 c_q_n1
  cases ir
  case false =>
    have hR := HT.out.1
    rw [if_neg (by simp)] at hR
    subst hR
    go_wp2
    go_ret
    exact ⟨rfl, HQ.out.2.2.2.2⟩
  have hmn := HT.out.2.1 (by trivial)
  obtain ⟨⟨m1, m2⟩, -⟩ := mayN_all hmn
  simp only at m1 m2
  obtain ⟨l, rfl⟩ : ∃ l : Nat, lv = l := ⟨lv.toNat, by omega⟩
  have ki : ∀ V b u x y v, StoreV V 0 V.heap.size b u x y s → Sl rItem V 0 V.heap.size v its → Calls Try.prog 118 #[.agg #[b, u, x, y], .agg #[.int .i64 l, v], .agg #[.int .u8 0, .int .u32 0, .int .u32 0], .bool false] V fun e w' => e = .returned (.bool (innerR s l its ⟨0, 0, 0⟩ false)) ∧ Below V.heap.size V w' := fun V b u x y v h1 h2 => inn_any l b u x y v s its ⟨0, 0, 0⟩ false V h1 HT.out.2.2 h2 hmn
  have hR := HT.out.1
  rw [Int.toNat_natCast] at hR
  obtain ⟨ii, hii⟩ : ∃ q, innerR s l its ⟨0, 0, 0⟩ false = q := ⟨_, rfl⟩
  rw [hii] at ki hR
  have KI := Lib.hid ki
  have HR := Lib.hid hR
  clear ki hR hii hmn HT
  go_wp2_with fail
  refine (KI.out _ _ _ _ _ _ HQ.out.2.1.v HQ.out.2.2.1.v).mono ?_
  rintro e w3 ⟨rfl, hst⟩
  clear c_q_s0 c_q_s1 c_q_s2 c_q_s3 c_q_n0 c_q_n1
  obtain ⟨q_s, O_s, S_n, q_n, hB⟩ := HQ.out
  clear HQ
  have sz_w3 : w2.heap.size ≤ w3.heap.size := hst.size
  replace q_s := q_s.step hst
  replace O_s := O_s.step hst
  replace S_n := S_n.step hst
  replace q_n := q_n.step hst
  replace hB := hB.step hst
  clear hst
  have HQ := Lib.hid (And.intro q_s (And.intro O_s (And.intro S_n (And.intro q_n hB))))
  clear q_s O_s S_n q_n hB
  have c_q_s0 := LK.cell HQ.out.1 0
  have c_q_s1 := LK.cell HQ.out.1 1
  have c_q_s2 := LK.cell HQ.out.1 2
  have c_q_s3 := LK.cell HQ.out.1 3
  have c_q_n0 := LK.cell HQ.out.2.2.2.1 0
  have c_q_n1 := LK.cell HQ.out.2.2.2.1 1
  simp at c_q_s0 c_q_s1 c_q_s2 c_q_s3 c_q_n0 c_q_n1
  cases ii
  case false =>
    have hR := HR.out
    rw [if_neg (by simp)] at hR
    subst hR
    go_wp2
    go_ret
    exact ⟨rfl, HQ.out.2.2.2.2⟩
  have hR := HR.out
  rw [if_pos (by simp)] at hR
  subst hR
  go_wp2
  go_ret
  exact ⟨rfl, HQ.out.2.2.2.2⟩

set_option maxRecDepth 100000 in
set_option maxHeartbeats 2000000 in
theorem rfcheck_any (b_s u_s x_s y_s : Value) (s : StoreL) (p : Int) (w : World) (h_s : StoreV w 0 w.heap.size b_s u_s x_s y_s s) :
    Calls Try.prog 28 #[.agg #[b_s, u_s, x_s, y_s], .int .i64 p] w fun e w' => e = .returned (.tuple #[.int .i64 (heiC s p), .int .i64 (errCk s p)]) ∧ Below w.heap.size w w' := by
  obtain ⟨ab_s, cb_s, rfl, gb_s, gc_s, -, -⟩ := h_s.1.1
  obtain ⟨au_s, cu_s, rfl, gu_s, gv_s, -, -⟩ := h_s.1.2
  obtain ⟨ax_s, cx_s, rfl, gx_s, gz_s⟩ := h_s.2.1.form rfl
  obtain ⟨ay_s, cy_s, rfl, gy_s, gw_s⟩ := h_s.2.2.form rfl
  unfold maxLen at gc_s gv_s gz_s gw_s
  have hst := ((Below.refl w.heap.size w).alloc (Nat.le_refl _) (.cells #[.slice ab_s s.disk.blocks.length cb_s, .slice au_s s.disk.waits.length cu_s, .slice ax_s s.now.length cx_s, .slice ay_s s.last.length cy_s] 46))
  have q_s := LK.new w (.cells #[.slice ab_s s.disk.blocks.length cb_s, .slice au_s s.disk.waits.length cu_s, .slice ax_s s.now.length cx_s, .slice ay_s s.last.length cy_s] 46)
  have hB : LW w _ := hst
  have O_s := (LO.of h_s (Nat.le_refl _)).step hst
  have sz_V : w.heap.size + 0 < (w.alloc (.cells #[.slice ab_s s.disk.blocks.length cb_s, .slice au_s s.disk.waits.length cu_s, .slice ax_s s.now.length cx_s, .slice ay_s s.last.length cy_s] 46)).heap.size := by simp
  obtain ⟨V, hV⟩ : ∃ V, (w.alloc (.cells #[.slice ab_s s.disk.blocks.length cb_s, .slice au_s s.disk.waits.length cu_s, .slice ax_s s.now.length cx_s, .slice ay_s s.last.length cy_s] 46)) = V := ⟨_, rfl⟩
  rw [hV] at sz_V q_s O_s hB
  clear hst h_s
  have HQ := Lib.hid (And.intro q_s (And.intro O_s hB))
  clear q_s O_s hB
  have c_q_s0 := LK.cell HQ.out.1 0
  have c_q_s1 := LK.cell HQ.out.1 1
  have c_q_s2 := LK.cell HQ.out.1 2
  have c_q_s3 := LK.cell HQ.out.1 3
  simp at c_q_s0 c_q_s1 c_q_s2 c_q_s3
  have he : errAs s p ≠ 0 → errCk s p = errAs s p ∧ heiC s p = 0 := fun h => by
    have h1 : errCk s p = errAs s p := by unfold errCk; rw [if_pos h]
    exact ⟨h1, by unfold heiC; rw [if_neg (by rw [h1]; exact h)]⟩
  have ha : errAs s p = if mayS s then (if p < 8 ∨ 256 ≤ p then 2 else if s.now.getD p.toNat 0 = 0 then 6 else 0) else 8 := rfl
  have hck := fun (hm : mayS s = true) h8 h9 h0 => check_is (s := s) (p := p) ⟨0, 0, 0⟩ hm h8 h9 h0
  have hh0 : errCk s p ≠ 0 → heiC s p = 0 := fun h => by unfold heiC; rw [if_neg h]
  have hlv : isR s p = true → 0 ≤ (rdR s p).level := fun h => by
    have h2 := h
    unfold isR at h2
    rw [decide_eq_true_eq] at h2
    unfold rdR
    rw [h, if_pos rfl]
    exact (mayN_all (nodeB_may h2.2.2)).1.1
  have htr : treR s p = if isR s p = true ∧ innerR s (rdR s p).level.toNat (rdR s p).items ⟨0, 0, 0⟩ false = true then (rdR s p).level + 1 else -1 := rfl
  have k_m := fun V b u x y hh => rsmay_any b u x y s V hh
  have k_t := fun V b u x y hh hm => rtree_any b u x y s p V hh hm
  have hnl := fun hm => now_len (s := s) hm
  generalize errCk s p = E at *
  generalize heiC s p = H at *
  generalize errAs s p = A at *
  generalize treR s p = T at *
  obtain ⟨ms, hms⟩ : ∃ q, mayS s = q := ⟨_, rfl⟩
  rw [hms] at ha k_m k_t hck hnl
  have HN := Lib.hid (And.intro he (And.intro ha (And.intro hck (And.intro hh0 (And.intro hlv (And.intro htr hnl))))))
  clear he ha hck hh0 hlv htr hnl hms
  have HC := Lib.hid (And.intro k_m k_t)
  clear k_m k_t
  go_enter Try.func28, Try.ntmps28
  go_upto_region 1 with (fail)
  clear hV
  go_wp2_with fail
  refine (HC.out.1 _ _ _ _ _ HQ.out.2.1.v).mono ?_
  rintro e w1 ⟨rfl, hst⟩
  clear c_q_s0 c_q_s1 c_q_s2 c_q_s3
  obtain ⟨q_s, O_s, hB⟩ := HQ.out
  clear HQ
  have sz_w1 : V.heap.size ≤ w1.heap.size := hst.size
  replace q_s := q_s.step hst
  replace O_s := O_s.step hst
  replace hB := hB.step hst
  clear hst
  have HQ := Lib.hid (And.intro q_s (And.intro O_s hB))
  clear q_s O_s hB
  have c_q_s0 := LK.cell HQ.out.1 0
  have c_q_s1 := LK.cell HQ.out.1 1
  have c_q_s2 := LK.cell HQ.out.1 2
  have c_q_s3 := LK.cell HQ.out.1 3
  simp at c_q_s0 c_q_s1 c_q_s2 c_q_s3
  cases ms
  case false =>
    have ha : A = 8 := by rw [HN.out.2.1]; rfl
    subst ha
    obtain ⟨he, hh⟩ := HN.out.1 (by decide)
    subst he hh
    go_wp2
    go_ret2
    exact ⟨rfl, HQ.out.2.2⟩
  by_cases h8 : p < 8
  case pos =>
    have ha : A = 2 := by rw [HN.out.2.1]; rw [if_pos rfl, if_pos (.inl h8)]
    subst ha
    obtain ⟨he, hh⟩ := HN.out.1 (by decide)
    subst he hh
    go_wp2
    go_ret2
    exact ⟨rfl, HQ.out.2.2⟩
  by_cases h9 : 256 ≤ p
  case pos =>
    have ha : A = 2 := by rw [HN.out.2.1]; rw [if_pos rfl, if_pos (.inr h9)]
    subst ha
    obtain ⟨he, hh⟩ := HN.out.1 (by decide)
    subst he hh
    go_wp2
    go_ret2
    exact ⟨rfl, HQ.out.2.2⟩
  have hnl := HN.out.2.2.2.2.2.2 rfl
  obtain ⟨q, rfl⟩ : ∃ q : Nat, p = q := ⟨p.toNat, by omega⟩
  obtain ⟨bn, on_, cn, e1, -, zn, zn1, zn2, hcn⟩ := HQ.out.2.1.n.at_n hnl (by omega)
  injection e1 with e1 e3 e2
  subst e1 e2
  have cq := hcn q (s.now.getD q 0) (get_l _ _ _ (by omega))
  have HE3 := Lib.hid e3
  clear e3
  unfold maxLen at zn2
  simp only [bV] at cq
  have ha := HN.out.2.1
  have hck := HN.out.2.2.1 rfl (by omega) (by omega)
  rw [Int.toNat_natCast] at ha hck
  rw [if_pos rfl, if_neg (by omega)] at ha
  obtain ⟨x, hx⟩ : ∃ x, s.now.getD q 0 = x := ⟨_, rfl⟩
  rw [hx] at cq ha hck
  have HA := Lib.hid (And.intro ha hck)
  clear ha hck hcn hx
  have iq : ¬ (s.now.length : Int) ≤ (q : Int) := by omega
  have iq2 : (q : Int) < s.now.length := by omega
  clear hnl
  by_cases hx0 : x = 0
  case pos =>
    subst hx0
    have ha := HA.out.1
    rw [if_pos rfl] at ha
    subst ha
    obtain ⟨he, hh⟩ := HN.out.1 (by decide)
    subst he hh
    go_wp2
    go_ret2
    exact ⟨rfl, HQ.out.2.2⟩
  have ix : ((x.toNat : Int) == 0) = false := by
    rw [beq_eq_false_iff_ne]
    intro e
    exact hx0 (UInt8.toNat_inj.1 (by simpa using e))
  obtain ⟨hE, hH⟩ := HA.out.2 hx0
  have HE := Lib.hid (And.intro hE hH)
  clear hE hH HA hx0
  go_wp2_with fail
  refine (HC.out.2 _ _ _ _ _ HQ.out.2.1.v (by trivial)).mono ?_
  rintro e w2 ⟨rfl, hst⟩
  clear c_q_s0 c_q_s1 c_q_s2 c_q_s3
  obtain ⟨q_s, O_s, hB⟩ := HQ.out
  clear HQ
  have sz_w2 : w1.heap.size ≤ w2.heap.size := hst.size
  replace q_s := q_s.step hst
  replace O_s := O_s.step hst
  replace hB := hB.step hst
  clear hst
  have HQ := Lib.hid (And.intro q_s (And.intro O_s hB))
  clear q_s O_s hB
  have c_q_s0 := LK.cell HQ.out.1 0
  have c_q_s1 := LK.cell HQ.out.1 1
  have c_q_s2 := LK.cell HQ.out.1 2
  have c_q_s3 := LK.cell HQ.out.1 3
  simp at c_q_s0 c_q_s1 c_q_s2 c_q_s3
  by_cases hc : isR s (q : Int) = true ∧ innerR s (rdR s (q : Int)).level.toNat (rdR s (q : Int)).items ⟨0, 0, 0⟩ false = true
  case pos =>
    have hT := HN.out.2.2.2.2.2.1
    rw [if_pos hc] at hT
    have hE := HE.out.1
    rw [if_pos hc] at hE
    have hH := HE.out.2 hE
    have hl := HN.out.2.2.2.2.1 hc.1
    rw [← hT] at hH
    subst hE hH
    have i1 : ¬ H < 0 := by rw [hT]; omega
    clear hT hl hc
    go_wp2
    go_ret2
    exact ⟨rfl, HQ.out.2.2⟩
  have hT := HN.out.2.2.2.2.2.1
  rw [if_neg hc] at hT
  have hE := HE.out.1
  rw [if_neg hc] at hE
  have hH := HN.out.2.2.2.1 (by rw [hE]; decide)
  subst hT hE hH
  clear hc
  go_wp2
  go_ret2
  exact ⟨rfl, HQ.out.2.2⟩

end Go.Proofs.Ytcibihakjcenaaa

