/- NodeCodes: the words and contracts, part 8. -/
import Derived.Test.YthealkfpflkipaaNodeCodesQ1
import Derived.Test.YthealkfpflkipaaNodeCodesQ2
import Derived.Test.YthealkfpflkipaaNodeCodesQ3
import Derived.Test.YthealkfpflkipaaNodeCodesQ4
import Derived.Test.YthealkfpflkipaaNodeCodesQ5
import Derived.Test.YthealkfpflkipaaNodeCodesQ6
import Derived.Test.YthealkfpflkipaaNodeCodesQ7
import Derived.WalkKit
import Derived.WalkLawsBesides
import Derived.WalkSpells
import Derived.Lib.Hide
import Derived.Laws.Rows
import Derived.Laws.AppendOwnNone
import Derived.Maps.AppendAt
import Derived.ProofKit
import Derived.Deep.Slices
import Derived.WideShapes
import Derived.RangeFuncNested
import Derived.RangeFuncBound
import Derived.RangeFuncCalls
import Derived.RangeFuncLeaves
import Derived.RangeFuncBox
import Derived.Shelf.Abstract
import Derived.Shelf.RegionOpen
import Derived.OwnWalkIn
import Derived.TacticsInMore
import Derived.LoopNIn
import Derived.LoopIn
import Derived.Lib.AppendZerosOnto
import Derived.Lib.SliceRun
import Derived.Lib.Walk
import Derived.Deep.LoopGhost
import Derived.Laws.CopyOwn
import Derived.Laws.CopyRow
import Derived.OrdersHeld
import Derived.Deep.QuietTactic
import Derived.BigQuiet
import Derived.StillTailTactics
import Derived.OpenShut
import Derived.Deep.DeepCutAuto
import Derived.Deep.RegionHeld
namespace Go.Proofs.Ythealkfpflkipaa
open Go.RowKit

theorem below_dr (w : World) (n : Nat) : Below w.heap.size w (w.drewN n) := ⟨rfl, rfl, rfl, Nat.le_refl _, fun _ _ => rfl⟩
def nokI : ItemL := ⟨⟨0, 0, 0⟩, 0, []⟩
/-- What is asked of item number i of a node. -/
def stepN (n : NodeL) (i : Nat) : Bool := mayI (n.items.getD i nokI) && (i == 0 || lessK (n.items.getD (i - 1) nokI).key (n.items.getD i nokI).key) && (decide (n.level ≤ 0) || (decide ((n.items.getD i nokI).ref ≠ 0) && (n.items.getD i nokI).val.length == 0))
def mayN (n : NodeL) : Bool := decide (0 ≤ n.level) && decide (n.level < 6) && decide (n.items.length ≤ 5) && (decide (n.level ≤ 0) || n.items.length != 0) && (List.range n.items.length).all (stepN n)
theorem mayN_bad {n : NodeL} {i : Nat} (hi : i < n.items.length) (h : stepN n i = false) : mayN n = false := by
  have : (List.range n.items.length).all (stepN n) = false := by
    rw [List.all_eq_false]
    exact ⟨i, List.mem_range.2 hi, by rw [h]; decide⟩
  unfold mayN
  rw [this, Bool.and_false]
theorem mayN_yes {n : NodeL} (h0 : 0 ≤ n.level) (h1 : n.level < 6) (h2 : n.items.length ≤ 5) (h3 : n.level ≤ 0 ∨ n.items.length ≠ 0) (h : ∀ i, i < n.items.length → stepN n i = true) : mayN n = true := by
  have : (List.range n.items.length).all (stepN n) = true := by
    rw [List.all_eq_true]
    intro x hx
    exact h x (List.mem_range.1 hx)
  unfold mayN
  rw [this]
  have h4 : (decide (n.level ≤ 0) || n.items.length != 0) = true := by
    rcases h3 with h | h
    · simp [h]
    · rw [bne_iff_ne.2 h, Bool.or_true]
  rw [decide_eq_true h0, decide_eq_true h1, decide_eq_true h2, h4]
  rfl

set_option maxRecDepth 100000 in
set_option maxHeartbeats 4000000 in
/-- node.Check. -/
theorem ncheck_any (n : NodeL) (v : Value) (w : World) (h : Sl rItem w 0 w.heap.size v n.items) :
    Calls Try.prog 30 #[.agg #[.int .i64 n.level, v]] w fun e w' => e = .returned (.int .i64 (mayE (mayN n))) ∧ Below w.heap.size w w' := by
  obtain ⟨av, cv, rfl, g1, g2, -, -⟩ := id h
  unfold maxLen at g2
  have hst := (Below.refl w.heap.size w).alloc (Nat.le_refl _) (.cells #[.int .i64 n.level, .slice av n.items.length cv] 54)
  have qn := LK.new w (.cells #[.int .i64 n.level, .slice av n.items.length cv] 54)
  have hB : LW w _ := hst
  have hS := (LS.of h (Nat.le_refl _)).step hst
  obtain ⟨V, hV⟩ : ∃ V, w.alloc (.cells #[.int .i64 n.level, .slice av n.items.length cv] 54) = V := ⟨_, rfl⟩
  rw [hV] at hB hS qn
  have HBAD := Lib.hid (fun i hi h => mayN_bad (n := n) (i := i) hi h)
  have HYES := Lib.hid (fun a b c d e => mayN_yes (n := n) a b c d e)
  have hb1 : ¬ 0 ≤ n.level → mayN n = false := fun h => by unfold mayN; simp [h]
  have hb2 : ¬ n.level < 6 → mayN n = false := fun h => by unfold mayN; simp [h]
  have hb3 : ¬ n.items.length ≤ 5 → mayN n = false := fun h => by unfold mayN; simp [h]
  have hb4 : ¬ n.level ≤ 0 → n.items.length = 0 → mayN n = false := fun h h2 => by unfold mayN; rw [h2, decide_eq_false h]; simp
  have HB4 := Lib.hid (And.intro hb1 (And.intro hb2 (And.intro hb3 hb4)))
  have hstep : ∀ i, stepN n i = (mayI (n.items.getD i nokI) && (i == 0 || lessK (n.items.getD (i - 1) nokI).key (n.items.getD i nokI).key) && (decide (n.level ≤ 0) || (decide ((n.items.getD i nokI).ref ≠ 0) && (n.items.getD i nokI).val.length == 0))) := fun i => rfl
  have HST := Lib.hid hstep
  generalize mayN n = mn at *
  clear h hst hb1 hb2 hb3 hb4 hstep
  obtain ⟨lv, its⟩ := n
  simp only at *
  have HQ := Lib.hid (And.intro qn (And.intro hS hB))
  have c0 := LK.cell qn 0
  have c1 := LK.cell qn 1
  simp at c0 c1
  clear qn hS hB
  obtain ⟨ab, hab⟩ : ∃ ab, decide (0 < lv) = ab := ⟨_, rfl⟩
  go_enter Try.func30, Try.ntmps30
  go_upto_region 1 with (fail)
  clear hV
  by_cases l0 : lv < 0
  · have hm := HB4.out.1 (by omega)
    subst hm
    go_wp2
    go_ret
    exact ⟨rfl, HQ.out.2.2⟩
  have d0 : decide (lv < 0) = false := by simp; omega
  by_cases l6 : 6 ≤ lv
  · have hm := HB4.out.2.1 (by omega)
    subst hm
    go_wp2
    go_ret
    exact ⟨rfl, HQ.out.2.2⟩
  have d6 : decide (6 ≤ lv) = false := by simp; omega
  by_cases l5 : 5 < its.length
  · have hm := HB4.out.2.2.1 (by omega)
    subst hm
    have d5 : (5 : Int) < its.length := by omega
    go_wp2
    go_ret
    exact ⟨rfl, HQ.out.2.2⟩
  have d5 : decide ((5 : Int) < its.length) = false := by simp; omega
  by_cases lz : 0 < lv ∧ its.length = 0
  · have hm := HB4.out.2.2.2 (by omega) lz.2
    subst hm
    obtain rfl : ab = true := by rw [← hab]; simpa using lz.1
    have e0 : ((its.length : Int) == 0) = true := by rw [lz.2]; rfl
    clear lz
    go_wp2
    go_ret
    exact ⟨rfl, HQ.out.2.2⟩
  have hz : ab = true → ((its.length : Int) == 0) = false := fun hh => by
    rw [hh] at hab
    have : 0 < lv := by simpa using hab
    rw [beq_eq_false_iff_ne]
    intro e
    exact lz ⟨this, by omega⟩
  have hlz : lv ≤ 0 ∨ its.length ≠ 0 := by
    by_cases e : its.length = 0
    · left
      by_cases e2 : 0 < lv
      · exact absurd ⟨e2, e⟩ lz
      · omega
    · exact .inr e
  have HLZ := Lib.hid (And.intro hlz hab)
  clear lz hlz
  go_upto_region 2 with (fail)
  clear hab
  go_cut [32] (fun t wx => t = .bool false ∧ wx = V)
  case first =>
    cases ab
    · clear hz
      go_wp2
      go_meet
      exact ⟨rfl, rfl⟩
    · have hz1 := hz rfl
      clear hz
      go_wp2
      go_meet
      exact ⟨rfl, rfl⟩
  case rest =>
  obtain ⟨rfl, rfl⟩ := hcut
  obtain ⟨V2, hV2⟩ : ∃ V2, V2 = wc := ⟨_, rfl⟩
  subst hV2
  clear hz d0 d6 d5
  go_wp2_with fail
  go_loopw [36] (fun i wr => ∃ k : Nat, k ≤ its.length ∧ i = .int .i64 k ∧ Below V2.heap.size V2 wr ∧ ∀ j, j < k → stepN ⟨lv, its⟩ j = true) (fun i _ => its.length - (intOf i).toNat)
  case atStart => exact ⟨0, Nat.zero_le _, rfl, Below.refl _ _, fun j hj => absurd hj (Nat.not_lt_zero _)⟩
  case round =>
  obtain ⟨k, hk, rfl, hBr, hall⟩ := hrel
  have hst := hBr
  clear c0 c1
  obtain ⟨qn, hS, hB⟩ := HQ.out
  clear HQ
  have sz_wr : V2.heap.size ≤ wr.heap.size := hst.size
  replace qn := qn.step hst
  replace hS := hS.step hst
  replace hB := hB.step hst
  clear hst
  have HQ := Lib.hid (And.intro qn (And.intro hS hB))
  clear qn hS hB
  have c_qn0 := LK.cell HQ.out.1 0
  have c_qn1 := LK.cell HQ.out.1 1
  simp at c_qn0 c_qn1
  by_cases hlt : k < its.length
  · obtain ⟨bb, bo, cb, e1, -, -, -, zc, hcell⟩ := HQ.out.2.1.v.at_ (by omega)
    injection e1 with e1 _ e2
    subst e1 e2
    obtain ⟨f0, f1, f2, f3, f3w, vx, f4, hvx⟩ := hcell k (its.getD k nokI) (get_l _ _ _ hlt)
    obtain ⟨xn, hxn⟩ : ∃ xn, (its.getD k nokI).val.length = xn := ⟨_, rfl⟩
    obtain ⟨ax, cx, rfl, -, hcx⟩ := hvx.form hxn
    have hbad := HBAD.out k hlt
    have hstk := HST.out k
    obtain ⟨x, hx⟩ : ∃ x, its.getD k nokI = x := ⟨_, rfl⟩
    rw [hx] at f0 f1 f2 f3 f3w hvx hstk hxn
    rw [hxn] at hstk
    simp only [bV, wV, Nat.add_zero] at f0 f1 f2 f3 f4
    have hn5 : rItem.n = 5 := rfl
    rw [hn5] at f0 f1 f2 f3 f4 hcell
    unfold maxLen at zc hcx
    have hX := LB.of hvx (Nat.le_refl _)
    have HBR := Lib.hid (And.intro hBr (And.intro hall (And.intro hcell (And.intro hbad (And.intro hstk (And.intro hx hxn))))))
    clear hxn hBr hall hcell hvx hbad hstk hx hn5
    obtain ⟨qn, hS, hB⟩ := HQ.out
    clear HQ
    have hR : LW wr wr := Below.refl _ _
    have HQ := Lib.hid (And.intro qn (And.intro hS (And.intro hX (And.intro hR hB))))
    clear qn hS hX hR hB
    go_upto_region 7 with (fail)
    clear c_qn0 c_qn1
    obtain ⟨qn, hS, hX, hR, hB⟩ := HQ.out
    clear HQ
    have hst := (Below.refl wr.heap.size wr).alloc (Nat.le_refl _) (.cells #[.int .u8 (x.key.kind.toNat : Int), .int .u32 (x.key.id.toNat : Int), .int .u32 (x.key.off.toNat : Int), .int .i64 x.ref, .slice ax xn cx] 85)
    have hlt : wr.heap.size < (wr.alloc (.cells #[.int .u8 (x.key.kind.toNat : Int), .int .u32 (x.key.id.toNat : Int), .int .u32 (x.key.off.toNat : Int), .int .i64 x.ref, .slice ax xn cx] 85)).heap.size := by simp
    have qx := LK.new wr (.cells #[.int .u8 (x.key.kind.toNat : Int), .int .u32 (x.key.id.toNat : Int), .int .u32 (x.key.off.toNat : Int), .int .i64 x.ref, .slice ax xn cx] 85)
    replace qn := qn.step hst
    replace hS := hS.step hst
    replace hX := hX.step hst
    replace hR := hR.step hst
    replace hB := hB.step hst
    obtain ⟨w1, hw⟩ : ∃ v, wr.alloc (.cells #[.int .u8 (x.key.kind.toNat : Int), .int .u32 (x.key.id.toNat : Int), .int .u32 (x.key.off.toNat : Int), .int .i64 x.ref, .slice ax xn cx] 85) = v := ⟨_, rfl⟩
    rw [hw] at hlt qx qn hS hX hR hB ⊢
    clear hw hst
    have sz_w1 := hlt
    clear hlt
    have HQ := Lib.hid (And.intro qn (And.intro hS (And.intro hX (And.intro hR (And.intro qx hB)))))
    clear qn hS hX hR qx hB
    have c_qn0 := LK.cell HQ.out.1 0
    have c_qn1 := LK.cell HQ.out.1 1
    have c_qx0 := LK.cell HQ.out.2.2.2.2.1 0
    have c_qx1 := LK.cell HQ.out.2.2.2.2.1 1
    have c_qx2 := LK.cell HQ.out.2.2.2.2.1 2
    have c_qx3 := LK.cell HQ.out.2.2.2.2.1 3
    have c_qx4 := LK.cell HQ.out.2.2.2.2.1 4
    simp at c_qn0 c_qn1 c_qx0 c_qx1 c_qx2 c_qx3 c_qx4
    clear f0 f1 f2 f3 f4
    have k_chk := icheck_any x (.slice ax xn cx) w1 HQ.out.2.2.1.v
    simp only [itemV, bV, wV] at k_chk
    have KC := Lib.hid k_chk
    clear k_chk
    go_wp2_with fail
    refine (KC.out).mono ?_
    rintro e w2 ⟨rfl, hst⟩
    clear c_qn0 c_qn1 c_qx0 c_qx1 c_qx2 c_qx3 c_qx4
    obtain ⟨qn, hS, hX, hR, qx, hB⟩ := HQ.out
    clear HQ
    have sz_w2 : w1.heap.size ≤ w2.heap.size := hst.size
    replace qn := qn.step hst
    replace hS := hS.step hst
    replace hX := hX.step hst
    replace hR := hR.step hst
    replace qx := qx.step hst
    replace hB := hB.step hst
    clear hst
    have HQ := Lib.hid (And.intro qn (And.intro hS (And.intro hX (And.intro hR (And.intro qx hB)))))
    clear qn hS hX hR qx hB
    have c_qn0 := LK.cell HQ.out.1 0
    have c_qn1 := LK.cell HQ.out.1 1
    have c_qx0 := LK.cell HQ.out.2.2.2.2.1 0
    have c_qx1 := LK.cell HQ.out.2.2.2.2.1 1
    have c_qx2 := LK.cell HQ.out.2.2.2.2.1 2
    have c_qx3 := LK.cell HQ.out.2.2.2.2.1 3
    have c_qx4 := LK.cell HQ.out.2.2.2.2.1 4
    simp at c_qn0 c_qn1 c_qx0 c_qx1 c_qx2 c_qx3 c_qx4
    cases hmx : mayI x
    case false =>
      have hm := HBR.out.2.2.2.1 (by rw [HBR.out.2.2.2.2.1, hmx]; rfl)
      subst hm
      have me8 : mayE false = 8 := rfl
      rw [me8]
      go_wp2
      go_ret
      exact ⟨rfl, HQ.out.2.2.2.2.2⟩
    have me0 : mayE true = 0 := rfl
    rw [me0]
    clear me0 KC
    have hstk := HBR.out.2.2.2.2.1
    rw [hmx, Bool.true_and] at hstk
    have HS2 := Lib.hid hstk
    clear hstk hmx
    go_upto_region 10 with (fail)
    rcases Nat.eq_zero_or_pos k with hk0 | hk0
    · have e0 : decide ((0 : Int) < (k : Int)) = false := by simp; omega
      have e00 : decide (0 < k) = false := by simp; omega
      have e01 : ¬ 0 < k := by omega
      have hs3 : stepN ⟨lv, its⟩ k = (decide (lv ≤ 0) || decide (x.ref ≠ 0) && xn == 0) := by
        rw [HS2.out, show (k == 0) = true by simp [hk0]]
        rfl
      have HS3 := Lib.hid hs3
      clear hs3 hk0
      cases ab
      · have hlv : decide (lv ≤ 0) = true := by
          have := HLZ.out.2
          rw [decide_eq_false_iff_not] at this
          rw [decide_eq_true_eq]
          omega
        have HLV := Lib.hid hlv
        clear hlv
        go_quiet (fail)
        have hok : stepN ⟨lv, its⟩ k = true := by rw [HS3.out]; rw [HLV.out]; rfl
        have hallk := fun j (hj : j < k + 1) => (Nat.lt_succ_iff_lt_or_eq.1 hj).elim (HBR.out.2.1 j) (fun e => e ▸ hok)
        have HAL := Lib.hid hallk
        clear hallk hok
        go_wp2
        go_roundw
        case rel => exact ⟨k + 1, by omega, by go_num, HBR.out.1.trans (Below.mono (LW.step HQ.out.2.2.2.1 (below_dr _ _)) HBR.out.1.size), HAL.out⟩
        case measure => simp [intOf]; omega
      have hlv : decide (lv ≤ 0) = false := by
        have := HLZ.out.2
        rw [decide_eq_true_eq] at this
        rw [decide_eq_false_iff_not]
        omega
      have HLV := Lib.hid hlv
      clear hlv
      by_cases hr0 : x.ref = 0
      · have r0 : (x.ref == 0) = true := by simp [hr0]
        have HR0 := Lib.hid hr0
        clear hr0
        go_quiet (fail)
        have hm := HBR.out.2.2.2.1 (by rw [HS3.out]; rw [HLV.out, HR0.out]; rfl)
        subst hm
        go_wp2
        go_ret
        exact ⟨rfl, LW.step HQ.out.2.2.2.2.2 (below_dr _ _)⟩
      have r0 : (x.ref == 0) = false := by simp [hr0]
      have hr1 : decide (x.ref ≠ 0) = true := by simp [hr0]
      have HR0 := Lib.hid hr1
      clear hr0 hr1
      by_cases hv0 : xn = 0
      · have v0 : decide ((0 : Int) < (xn : Int)) = false := by simp [hv0]
        have v00 : decide (0 < xn) = false := by simp [hv0]
        have v01 : ¬ 0 < xn := by omega
        have hv1 : (xn == 0) = true := by simp [hv0]
        have HV1 := Lib.hid hv1
        clear hv0 hv1
        go_quiet (fail)
        have hok : stepN ⟨lv, its⟩ k = true := by rw [HS3.out]; rw [HLV.out, HR0.out, HV1.out]; rfl
        have hallk := fun j (hj : j < k + 1) => (Nat.lt_succ_iff_lt_or_eq.1 hj).elim (HBR.out.2.1 j) (fun e => e ▸ hok)
        have HAL := Lib.hid hallk
        clear hallk hok
        go_wp2
        go_roundw
        case rel => exact ⟨k + 1, by omega, by go_num, HBR.out.1.trans (Below.mono (LW.step HQ.out.2.2.2.1 (below_dr _ _)) HBR.out.1.size), HAL.out⟩
        case measure => simp [intOf]; omega
      have v0 : decide ((0 : Int) < (xn : Int)) = true := by simp; omega
      have v00 : decide (0 < xn) = true := by simp; omega
      have v01 : 0 < xn := by omega
      have hv1 : (xn == 0) = false := by simp [hv0]
      have HV1 := Lib.hid hv1
      clear hv0 hv1
      go_quiet (fail)
      have hm := HBR.out.2.2.2.1 (by rw [HS3.out]; rw [HLV.out, HR0.out, HV1.out]; rfl)
      subst hm
      go_wp2
      go_ret
      exact ⟨rfl, LW.step HQ.out.2.2.2.2.2 (below_dr _ _)⟩
    obtain ⟨m, rfl⟩ : ∃ m, k = m + 1 := ⟨k - 1, by omega⟩
    have hcm := HBR.out.2.2.1 m (its.getD m nokI) (get_l _ _ _ (by omega))
    obtain ⟨y, hy⟩ : ∃ y, its.getD m nokI = y := ⟨_, rfl⟩
    rw [hy] at hcm
    obtain ⟨u0, u1, u2, -, -, -, -⟩ := hcm
    simp only [bV, wV, Nat.add_zero] at u0 u1 u2
    have hbb := cell_lt' u0
    simp only at hbb
    have y0 := fun X => (Below.cell (below_step HQ.out.2.2.2.1 (Below.size HQ.out.2.2.2.1) (aft_below w2 X)) (p := ⟨bb, bo + m * 5, none⟩) hbb).trans u0
    have y1 := fun X => (Below.cell (below_step HQ.out.2.2.2.1 (Below.size HQ.out.2.2.2.1) (aft_below w2 X)) (p := ⟨bb, bo + m * 5 + 1, none⟩) hbb).trans u1
    have y2 := fun X => (Below.cell (below_step HQ.out.2.2.2.1 (Below.size HQ.out.2.2.2.1) (aft_below w2 X)) (p := ⟨bb, bo + m * 5 + 2, none⟩) hbb).trans u2
    have k_less := fun W => less_any y.key x.key W
    simp only [keyV, bV, wV] at k_less
    have hs3 := HS2.out
    rw [show (m + 1 == 0) = false by simp, Bool.false_or, Nat.add_sub_cancel, hy] at hs3
    obtain ⟨bl, hbl⟩ : ∃ bl, lessK y.key x.key = bl := ⟨_, rfl⟩
    rw [hbl] at k_less hs3
    have HKL := Lib.hid k_less
    clear k_less hbl u0 u1 u2 hy
    clear c_qn0 c_qn1 c_qx0 c_qx1 c_qx2 c_qx3 c_qx4
    have x_qn0 := fun X => LK.cell (HQ.out.1.step (aft_below w2 X)) 0
    have x_qn1 := fun X => LK.cell (HQ.out.1.step (aft_below w2 X)) 1
    have x_qx0 := fun X => LK.cell (HQ.out.2.2.2.2.1.step (aft_below w2 X)) 0
    have x_qx1 := fun X => LK.cell (HQ.out.2.2.2.2.1.step (aft_below w2 X)) 1
    have x_qx2 := fun X => LK.cell (HQ.out.2.2.2.2.1.step (aft_below w2 X)) 2
    have x_qx3 := fun X => LK.cell (HQ.out.2.2.2.2.1.step (aft_below w2 X)) 3
    have x_qx4 := fun X => LK.cell (HQ.out.2.2.2.2.1.step (aft_below w2 X)) 4
    simp at x_qn0 x_qn1 x_qx0 x_qx1 x_qx2 x_qx3 x_qx4
    have im1 : (m : Int) < its.length := by omega
    have im2 : ¬ (its.length : Int) ≤ m := by omega
    have e0 : decide ((0 : Int) < ((m + 1 : Nat) : Int)) = true := by rw [decide_eq_true_eq]; omega
    have e1 : decide ((0 : Int) < (m : Int) + 1) = true := by rw [decide_eq_true_eq]; omega
    cases bl
    · have hs4 : stepN ⟨lv, its⟩ (m + 1) = false := hs3
      have HS3 := Lib.hid hs4
      clear hs3 hs4
      refine wp_region_held_drew (S := Cls w2) (by kernel_rfl) (Cls.drew w2) (fun hCl => ?_)
      refine wpAnyH_seg (fuel := 17) (by kernel_rfl) (fun _ d _ _ _ h => by cases d <;> exact h) hCl [0, 1, 2, 3, 4, 5, 6, 7, 8, 9, 10, 11] _ _ _ (by kernel_rfl) (by kernel_rfl) ?_
      simp only [opsOf_cons, opsOf_nil, consOp_some, List.getElem?_toArray, List.getElem?_cons_succ, List.getElem?_cons_zero]
      repeat (first | go_big_quiet_step (fail) | quiet_step (fail))
      refine wpQuiet_nil ?_
      refine wpAnyH_each (fuel := 16) [12] (by kernel_rfl) (by simp) (by kernel_rfl) ?_
      refine Each.cons _ rfl (fun K' hK => ?_) Each.nil
      go_simp
      refine (HKL.out _).mono ?_
      rintro e z1 ⟨rfl, hb⟩
      have hst := below_step hCl.below hCl.below.size hb
      clear hb
      have hCl := Cls.of hst
      refine hK.out (Cls w2) (fun _ h => h) hCl ?_
      clear hK K'
      refine wpAnyH_seg (fuel := 0) (by kernel_rfl) (fun _ d _ _ _ h => by cases d <;> exact h) hCl [13, 14, 15, 16, 17, 18, 19, 20, 21, 22, 23, 24, 25, 26, 27, 28] _ _ _ (by kernel_rfl) (by kernel_rfl) ?_
      simp only [opsOf_cons, opsOf_nil, consOp_some, List.getElem?_toArray, List.getElem?_cons_succ, List.getElem?_cons_zero]
      repeat (first | go_big_quiet_step (fail) | quiet_step (fail))
      refine wpQuiet_nil ?_
      refine wpAnyH_done (by kernel_rfl) ?_ _
      have hm := HBR.out.2.2.2.1 (by rw [HS3.out]; skip)
      subst hm
      go_wp2
      go_ret
      exact ⟨rfl, LW.step HQ.out.2.2.2.2.2 (hst)⟩
    rw [Bool.true_and] at hs3
    have HS3 := Lib.hid hs3
    clear hs3
    cases ab
    · have hlv : decide (lv ≤ 0) = true := by
        have := HLZ.out.2
        rw [decide_eq_false_iff_not] at this
        rw [decide_eq_true_eq]
        omega
      have HLV := Lib.hid hlv
      clear hlv
      refine wp_region_held_drew (S := Cls w2) (by kernel_rfl) (Cls.drew w2) (fun hCl => ?_)
      refine wpAnyH_seg (fuel := 17) (by kernel_rfl) (fun _ d _ _ _ h => by cases d <;> exact h) hCl [0, 1, 2, 3, 4, 5, 6, 7, 8, 9, 10, 11] _ _ _ (by kernel_rfl) (by kernel_rfl) ?_
      simp only [opsOf_cons, opsOf_nil, consOp_some, List.getElem?_toArray, List.getElem?_cons_succ, List.getElem?_cons_zero]
      repeat (first | go_big_quiet_step (fail) | quiet_step (fail))
      refine wpQuiet_nil ?_
      refine wpAnyH_each (fuel := 16) [12] (by kernel_rfl) (by simp) (by kernel_rfl) ?_
      refine Each.cons _ rfl (fun K' hK => ?_) Each.nil
      go_simp
      refine (HKL.out _).mono ?_
      rintro e z1 ⟨rfl, hb⟩
      have hst := below_step hCl.below hCl.below.size hb
      clear hb
      have hCl := Cls.of hst
      refine hK.out (Cls w2) (fun _ h => h) hCl ?_
      clear hK K'
      refine wpAnyH_seg (fuel := 0) (by kernel_rfl) (fun _ d _ _ _ h => by cases d <;> exact h) hCl [13, 14, 15, 16, 17, 18, 19, 20, 21, 22, 23, 24, 25, 26, 27, 28] _ _ _ (by kernel_rfl) (by kernel_rfl) ?_
      simp only [opsOf_cons, opsOf_nil, consOp_some, List.getElem?_toArray, List.getElem?_cons_succ, List.getElem?_cons_zero]
      repeat (first | go_big_quiet_step (fail) | quiet_step (fail))
      refine wpQuiet_nil ?_
      refine wpAnyH_done (by kernel_rfl) ?_ _
      have hok : stepN ⟨lv, its⟩ (m + 1) = true := by rw [HS3.out]; rw [HLV.out]; rfl
      have hallk := fun j (hj : j < (m + 1) + 1) => (Nat.lt_succ_iff_lt_or_eq.1 hj).elim (HBR.out.2.1 j) (fun e => e ▸ hok)
      have HAL := Lib.hid hallk
      clear hallk hok
      go_wp2
      go_roundw
      case rel => exact ⟨(m + 1) + 1, by omega, by go_num, HBR.out.1.trans (Below.mono (LW.step HQ.out.2.2.2.1 (hst)) HBR.out.1.size), HAL.out⟩
      case measure => simp [intOf]; omega
    have hlv : decide (lv ≤ 0) = false := by
      have := HLZ.out.2
      rw [decide_eq_true_eq] at this
      rw [decide_eq_false_iff_not]
      omega
    have HLV := Lib.hid hlv
    clear hlv
    by_cases hr0 : x.ref = 0
    · have r0 : (x.ref == 0) = true := by simp [hr0]
      have HR0 := Lib.hid hr0
      clear hr0
      refine wp_region_held_drew (S := Cls w2) (by kernel_rfl) (Cls.drew w2) (fun hCl => ?_)
      refine wpAnyH_seg (fuel := 17) (by kernel_rfl) (fun _ d _ _ _ h => by cases d <;> exact h) hCl [0, 1, 2, 3, 4, 5, 6, 7, 8, 9, 10, 11] _ _ _ (by kernel_rfl) (by kernel_rfl) ?_
      simp only [opsOf_cons, opsOf_nil, consOp_some, List.getElem?_toArray, List.getElem?_cons_succ, List.getElem?_cons_zero]
      repeat (first | go_big_quiet_step (fail) | quiet_step (fail))
      refine wpQuiet_nil ?_
      refine wpAnyH_each (fuel := 16) [12] (by kernel_rfl) (by simp) (by kernel_rfl) ?_
      refine Each.cons _ rfl (fun K' hK => ?_) Each.nil
      go_simp
      refine (HKL.out _).mono ?_
      rintro e z1 ⟨rfl, hb⟩
      have hst := below_step hCl.below hCl.below.size hb
      clear hb
      have hCl := Cls.of hst
      refine hK.out (Cls w2) (fun _ h => h) hCl ?_
      clear hK K'
      refine wpAnyH_seg (fuel := 0) (by kernel_rfl) (fun _ d _ _ _ h => by cases d <;> exact h) hCl [13, 14, 15, 16, 17, 18, 19, 20, 21, 22, 23, 24, 25, 26, 27, 28] _ _ _ (by kernel_rfl) (by kernel_rfl) ?_
      simp only [opsOf_cons, opsOf_nil, consOp_some, List.getElem?_toArray, List.getElem?_cons_succ, List.getElem?_cons_zero]
      repeat (first | go_big_quiet_step (fail) | quiet_step (fail))
      refine wpQuiet_nil ?_
      refine wpAnyH_done (by kernel_rfl) ?_ _
      have hm := HBR.out.2.2.2.1 (by rw [HS3.out]; rw [HLV.out, HR0.out]; rfl)
      subst hm
      go_wp2
      go_ret
      exact ⟨rfl, LW.step HQ.out.2.2.2.2.2 (hst)⟩
    have r0 : (x.ref == 0) = false := by simp [hr0]
    have hr1 : decide (x.ref ≠ 0) = true := by simp [hr0]
    have HR0 := Lib.hid hr1
    clear hr0 hr1
    by_cases hv0 : xn = 0
    · have v0 : decide ((0 : Int) < (xn : Int)) = false := by simp [hv0]
      have v00 : decide (0 < xn) = false := by simp [hv0]
      have v01 : ¬ 0 < xn := by omega
      have hv1 : (xn == 0) = true := by simp [hv0]
      have HV1 := Lib.hid hv1
      clear hv0 hv1
      refine wp_region_held_drew (S := Cls w2) (by kernel_rfl) (Cls.drew w2) (fun hCl => ?_)
      refine wpAnyH_seg (fuel := 17) (by kernel_rfl) (fun _ d _ _ _ h => by cases d <;> exact h) hCl [0, 1, 2, 3, 4, 5, 6, 7, 8, 9, 10, 11] _ _ _ (by kernel_rfl) (by kernel_rfl) ?_
      simp only [opsOf_cons, opsOf_nil, consOp_some, List.getElem?_toArray, List.getElem?_cons_succ, List.getElem?_cons_zero]
      repeat (first | go_big_quiet_step (fail) | quiet_step (fail))
      refine wpQuiet_nil ?_
      refine wpAnyH_each (fuel := 16) [12] (by kernel_rfl) (by simp) (by kernel_rfl) ?_
      refine Each.cons _ rfl (fun K' hK => ?_) Each.nil
      go_simp
      refine (HKL.out _).mono ?_
      rintro e z1 ⟨rfl, hb⟩
      have hst := below_step hCl.below hCl.below.size hb
      clear hb
      have hCl := Cls.of hst
      refine hK.out (Cls w2) (fun _ h => h) hCl ?_
      clear hK K'
      refine wpAnyH_seg (fuel := 0) (by kernel_rfl) (fun _ d _ _ _ h => by cases d <;> exact h) hCl [13, 14, 15, 16, 17, 18, 19, 20, 21, 22, 23, 24, 25, 26, 27, 28] _ _ _ (by kernel_rfl) (by kernel_rfl) ?_
      simp only [opsOf_cons, opsOf_nil, consOp_some, List.getElem?_toArray, List.getElem?_cons_succ, List.getElem?_cons_zero]
      repeat (first | go_big_quiet_step (fail) | quiet_step (fail))
      refine wpQuiet_nil ?_
      refine wpAnyH_done (by kernel_rfl) ?_ _
      have hok : stepN ⟨lv, its⟩ (m + 1) = true := by rw [HS3.out]; rw [HLV.out, HR0.out, HV1.out]; rfl
      have hallk := fun j (hj : j < (m + 1) + 1) => (Nat.lt_succ_iff_lt_or_eq.1 hj).elim (HBR.out.2.1 j) (fun e => e ▸ hok)
      have HAL := Lib.hid hallk
      clear hallk hok
      go_wp2
      go_roundw
      case rel => exact ⟨(m + 1) + 1, by omega, by go_num, HBR.out.1.trans (Below.mono (LW.step HQ.out.2.2.2.1 (hst)) HBR.out.1.size), HAL.out⟩
      case measure => simp [intOf]; omega
    have v0 : decide ((0 : Int) < (xn : Int)) = true := by simp; omega
    have v00 : decide (0 < xn) = true := by simp; omega
    have v01 : 0 < xn := by omega
    have hv1 : (xn == 0) = false := by simp [hv0]
    have HV1 := Lib.hid hv1
    clear hv0 hv1
    refine wp_region_held_drew (S := Cls w2) (by kernel_rfl) (Cls.drew w2) (fun hCl => ?_)
    refine wpAnyH_seg (fuel := 17) (by kernel_rfl) (fun _ d _ _ _ h => by cases d <;> exact h) hCl [0, 1, 2, 3, 4, 5, 6, 7, 8, 9, 10, 11] _ _ _ (by kernel_rfl) (by kernel_rfl) ?_
    simp only [opsOf_cons, opsOf_nil, consOp_some, List.getElem?_toArray, List.getElem?_cons_succ, List.getElem?_cons_zero]
    repeat (first | go_big_quiet_step (fail) | quiet_step (fail))
    refine wpQuiet_nil ?_
    refine wpAnyH_each (fuel := 16) [12] (by kernel_rfl) (by simp) (by kernel_rfl) ?_
    refine Each.cons _ rfl (fun K' hK => ?_) Each.nil
    go_simp
    refine (HKL.out _).mono ?_
    rintro e z1 ⟨rfl, hb⟩
    have hst := below_step hCl.below hCl.below.size hb
    clear hb
    have hCl := Cls.of hst
    refine hK.out (Cls w2) (fun _ h => h) hCl ?_
    clear hK K'
    refine wpAnyH_seg (fuel := 0) (by kernel_rfl) (fun _ d _ _ _ h => by cases d <;> exact h) hCl [13, 14, 15, 16, 17, 18, 19, 20, 21, 22, 23, 24, 25, 26, 27, 28] _ _ _ (by kernel_rfl) (by kernel_rfl) ?_
    simp only [opsOf_cons, opsOf_nil, consOp_some, List.getElem?_toArray, List.getElem?_cons_succ, List.getElem?_cons_zero]
    repeat (first | go_big_quiet_step (fail) | quiet_step (fail))
    refine wpQuiet_nil ?_
    refine wpAnyH_done (by kernel_rfl) ?_ _
    have hm := HBR.out.2.2.2.1 (by rw [HS3.out]; rw [HLV.out, HR0.out, HV1.out]; rfl)
    subst hm
    go_wp2
    go_ret
    exact ⟨rfl, LW.step HQ.out.2.2.2.2.2 (hst)⟩
  obtain rfl : k = its.length := by omega
  have hm := HYES.out l0 l6 (by omega) HLZ.out.1 hall
  subst hm
  clear hall
  go_wp2
  go_ret
  exact ⟨rfl, HQ.out.2.2⟩
end Go.Proofs.Ythealkfpflkipaa

namespace Go.Proofs.Ythealkfpflkipaa
open Go.RowKit

def cntN (l : List ItemL) (k : KeyL) : Nat := (l.filter fun x => lessK x.key k).length
def isN (l : List ItemL) (k : KeyL) : Bool := decide (cntN l k < l.length) && decide ((l.getD (cntN l k) nokI).key = k)
theorem cntN_le (l : List ItemL) (k : KeyL) : cntN l k ≤ l.length := List.length_filter_le _ _
theorem cntN_succ (l : List ItemL) (k : KeyL) (j : Nat) (h : j < l.length) : cntN (l.take (j + 1)) k = cntN (l.take j) k + if lessK (l.getD j nokI).key k then 1 else 0 := by
  unfold cntN
  rw [List.take_succ_eq_append_getElem h, List.filter_append, List.length_append]
  have e : l.getD j nokI = l[j] := by simp [h]
  rw [e]
  cases hb : lessK l[j].key k <;> simp [hb]

set_option maxRecDepth 100000 in
set_option maxHeartbeats 4000000 in
/-- node.Place. -/
theorem nplace_any (lv : Int) (its : List ItemL) (v : Value) (kk : KeyL) (w : World) (h : Sl rItem w 0 w.heap.size v its) :
    Calls Try.prog 27 #[.agg #[.int .i64 lv, v], keyV kk] w fun e w' => e = .returned (.tuple #[.int .i64 (cntN its kk : Nat), .bool (isN its kk)]) ∧ Below w.heap.size w w' := by
  obtain ⟨av, cv, rfl, g1, g2, -, -⟩ := id h
  unfold maxLen at g2
  simp only [keyV, bV, wV]
  have hst := ((Below.refl w.heap.size w).alloc (Nat.le_refl _) (.cells #[.int .i64 lv, .slice av its.length cv] 54)).alloc (by simp) (.cells #[.int .u8 (kk.kind.toNat : Int), .int .u32 (kk.id.toNat : Int), .int .u32 (kk.off.toNat : Int)] 56)
  have hq := two_new w (.cells #[.int .i64 lv, .slice av its.length cv] 54) (.cells #[.int .u8 (kk.kind.toNat : Int), .int .u32 (kk.id.toNat : Int), .int .u32 (kk.off.toNat : Int)] 56)
  have qn := LK.of hq.1
  have qk := LK.of hq.2
  have hB : LW w _ := hst
  have hS := (LS.of h (Nat.le_refl _)).step hst
  have sz_V : w.heap.size + 1 < ((w.alloc (.cells #[.int .i64 lv, .slice av its.length cv] 54)).alloc (.cells #[.int .u8 (kk.kind.toNat : Int), .int .u32 (kk.id.toNat : Int), .int .u32 (kk.off.toNat : Int)] 56)).heap.size := by simp
  obtain ⟨V, hV⟩ : ∃ V, (w.alloc (.cells #[.int .i64 lv, .slice av its.length cv] 54)).alloc (.cells #[.int .u8 (kk.kind.toNat : Int), .int .u32 (kk.id.toNat : Int), .int .u32 (kk.off.toNat : Int)] 56) = V := ⟨_, rfl⟩
  rw [hV] at hB hS qn qk sz_V
  clear h hst hq
  have HSC := Lib.hid (fun j hj => cntN_succ its kk j hj)
  have HLE := Lib.hid (cntN_le its kk)
  have HIS := Lib.hid (show isN its kk = (decide (cntN its kk < its.length) && decide ((its.getD (cntN its kk) nokI).key = kk)) from rfl)
  generalize isN its kk = isb at *
  have HQ := Lib.hid (And.intro qn (And.intro qk (And.intro hS hB)))
  clear qn qk hS hB
  have c_qn0 := LK.cell HQ.out.1 0
  have c_qn1 := LK.cell HQ.out.1 1
  have c_qk0 := LK.cell HQ.out.2.1 0
  have c_qk1 := LK.cell HQ.out.2.1 1
  have c_qk2 := LK.cell HQ.out.2.1 2
  simp at c_qn0 c_qn1 c_qk0 c_qk1 c_qk2
  go_enter Try.func27, Try.ntmps27
  go_upto_region 1 with (fail)
  clear hV
  go_wp2_with fail
  go_loopw [4, 11] (fun s i wr => ∃ j : Nat, j ≤ its.length ∧ i = .int .i64 j ∧ s = .int .i64 (cntN (its.take j) kk : Nat) ∧ Below V.heap.size V wr) (fun _ i _ => its.length - (intOf i).toNat)
  case atStart => exact ⟨0, Nat.zero_le _, rfl, rfl, Below.refl _ _⟩
  case round =>
  obtain ⟨j, hj, rfl, rfl, hBr⟩ := hrel
  have hst := hBr
  clear c_qn0 c_qn1 c_qk0 c_qk1 c_qk2
  obtain ⟨qn, qk, hS, hB⟩ := HQ.out
  clear HQ
  have sz_wr : V.heap.size ≤ wr.heap.size := hst.size
  replace qn := qn.step hst
  replace qk := qk.step hst
  replace hS := hS.step hst
  replace hB := hB.step hst
  clear hst
  have HQ := Lib.hid (And.intro qn (And.intro qk (And.intro hS hB)))
  clear qn qk hS hB
  have c_qn0 := LK.cell HQ.out.1 0
  have c_qn1 := LK.cell HQ.out.1 1
  have c_qk0 := LK.cell HQ.out.2.1 0
  have c_qk1 := LK.cell HQ.out.2.1 1
  have c_qk2 := LK.cell HQ.out.2.1 2
  simp at c_qn0 c_qn1 c_qk0 c_qk1 c_qk2
  by_cases hlt : j < its.length
  · obtain ⟨bb, bo, cb, e1, -, -, -, zc, hcell⟩ := HQ.out.2.2.1.v.at_ (by omega)
    injection e1 with e1 _ e2
    subst e1 e2
    obtain ⟨f0, f1, f2, f3, f3w, vx, f4, hvx⟩ := hcell j (its.getD j nokI) (get_l _ _ _ hlt)
    have hsc := HSC.out j hlt
    obtain ⟨x, hx⟩ : ∃ x, its.getD j nokI = x := ⟨_, rfl⟩
    rw [hx] at f0 f1 f2 f3 hsc
    obtain ⟨ax, cx, rfl, -, -⟩ := hvx.form rfl
    rw [hx] at f4 hvx
    obtain ⟨xn, hxn⟩ : ∃ xn, x.val.length = xn := ⟨_, rfl⟩
    rw [hxn] at f4
    simp only [bV, wV, Nat.add_zero] at f0 f1 f2 f3 f4
    have hn5 : rItem.n = 5 := rfl
    rw [hn5] at f0 f1 f2 f3 f4
    unfold maxLen at zc
    obtain ⟨cn, hcn⟩ : ∃ cn, cntN (its.take j) kk = cn := ⟨_, rfl⟩
    rw [hcn] at hsc ⊢
    have hcj : cn ≤ j := by
      have := cntN_le (its.take j) kk
      rw [hcn, List.length_take] at this
      omega
    have k_less := fun W => less_any x.key kk W
    simp only [keyV, bV, wV] at k_less
    obtain ⟨bl, hbl⟩ : ∃ bl, lessK x.key kk = bl := ⟨_, rfl⟩
    rw [hbl] at k_less hsc
    have HX := Lib.hid (And.intro k_less (And.intro hsc hBr))
    clear hvx hcell hx hxn hcn k_less hsc hBr hn5 hbl
    obtain ⟨qn, qk, hS, hB⟩ := HQ.out
    clear HQ
    have hR : LW wr wr := Below.refl _ _
    have HQ := Lib.hid (And.intro qn (And.intro qk (And.intro hS (And.intro hR hB))))
    clear qn qk hS hR hB
    go_upto_region 4 with (fail)
    clear c_qn0 c_qn1 c_qk0 c_qk1 c_qk2
    obtain ⟨qn, qk, hS, hR, hB⟩ := HQ.out
    clear HQ
    have hst := (Below.refl wr.heap.size wr).alloc (Nat.le_refl _) (.cells #[.int .u8 (x.key.kind.toNat : Int), .int .u32 (x.key.id.toNat : Int), .int .u32 (x.key.off.toNat : Int), .int .i64 x.ref, .slice ax xn cx] 85)
    have hlt : wr.heap.size < (wr.alloc (.cells #[.int .u8 (x.key.kind.toNat : Int), .int .u32 (x.key.id.toNat : Int), .int .u32 (x.key.off.toNat : Int), .int .i64 x.ref, .slice ax xn cx] 85)).heap.size := by simp
    have qx := LK.new wr (.cells #[.int .u8 (x.key.kind.toNat : Int), .int .u32 (x.key.id.toNat : Int), .int .u32 (x.key.off.toNat : Int), .int .i64 x.ref, .slice ax xn cx] 85)
    replace qn := qn.step hst
    replace qk := qk.step hst
    replace hS := hS.step hst
    replace hR := hR.step hst
    replace hB := hB.step hst
    obtain ⟨w1, hw⟩ : ∃ v, wr.alloc (.cells #[.int .u8 (x.key.kind.toNat : Int), .int .u32 (x.key.id.toNat : Int), .int .u32 (x.key.off.toNat : Int), .int .i64 x.ref, .slice ax xn cx] 85) = v := ⟨_, rfl⟩
    rw [hw] at hlt qx qn qk hS hR hB ⊢
    clear hw hst
    have sz_w1 := hlt
    clear hlt
    have HQ := Lib.hid (And.intro qn (And.intro qk (And.intro hS (And.intro hR (And.intro qx hB)))))
    clear qn qk hS hR qx hB
    have c_qn0 := LK.cell HQ.out.1 0
    have c_qn1 := LK.cell HQ.out.1 1
    have c_qk0 := LK.cell HQ.out.2.1 0
    have c_qk1 := LK.cell HQ.out.2.1 1
    have c_qk2 := LK.cell HQ.out.2.1 2
    have c_qx0 := LK.cell HQ.out.2.2.2.2.1 0
    have c_qx1 := LK.cell HQ.out.2.2.2.2.1 1
    have c_qx2 := LK.cell HQ.out.2.2.2.2.1 2
    have c_qx3 := LK.cell HQ.out.2.2.2.2.1 3
    have c_qx4 := LK.cell HQ.out.2.2.2.2.1 4
    simp at c_qn0 c_qn1 c_qk0 c_qk1 c_qk2 c_qx0 c_qx1 c_qx2 c_qx3 c_qx4
    clear f0 f1 f2 f3 f4
    go_wp2_with fail
    refine (HX.out.1 _).mono ?_
    rintro e w2 ⟨rfl, hst⟩
    clear c_qn0 c_qn1 c_qk0 c_qk1 c_qk2 c_qx0 c_qx1 c_qx2 c_qx3 c_qx4
    obtain ⟨qn, qk, hS, hR, qx, hB⟩ := HQ.out
    clear HQ
    have sz_w2 : w1.heap.size ≤ w2.heap.size := hst.size
    replace qn := qn.step hst
    replace qk := qk.step hst
    replace hS := hS.step hst
    replace hR := hR.step hst
    replace qx := qx.step hst
    replace hB := hB.step hst
    clear hst
    have HQ := Lib.hid (And.intro qn (And.intro qk (And.intro hS (And.intro hR (And.intro qx hB)))))
    clear qn qk hS hR qx hB
    have c_qn0 := LK.cell HQ.out.1 0
    have c_qn1 := LK.cell HQ.out.1 1
    have c_qk0 := LK.cell HQ.out.2.1 0
    have c_qk1 := LK.cell HQ.out.2.1 1
    have c_qk2 := LK.cell HQ.out.2.1 2
    have c_qx0 := LK.cell HQ.out.2.2.2.2.1 0
    have c_qx1 := LK.cell HQ.out.2.2.2.2.1 1
    have c_qx2 := LK.cell HQ.out.2.2.2.2.1 2
    have c_qx3 := LK.cell HQ.out.2.2.2.2.1 3
    have c_qx4 := LK.cell HQ.out.2.2.2.2.1 4
    simp at c_qn0 c_qn1 c_qk0 c_qk1 c_qk2 c_qx0 c_qx1 c_qx2 c_qx3 c_qx4
    have hc0 : (0 : Int) ≤ cn := by omega
    cases bl
    · have hsc := HX.out.2.1
      simp only [Bool.false_eq_true, if_false, Nat.add_zero] at hsc
      have HC2 := Lib.hid hsc
      clear hsc
      go_wp2
      go_roundw
      case rel => exact ⟨j + 1, by omega, by go_num, by rw [HC2.out], HX.out.2.2.trans (Below.mono HQ.out.2.2.2.1 HX.out.2.2.size)⟩
      case measure => simp [intOf]; omega
    · have hsc := HX.out.2.1
      simp only [if_true] at hsc
      have HC2 := Lib.hid hsc
      clear hsc
      go_wp2
      go_roundw
      case rel => exact ⟨j + 1, by omega, by go_num, by rw [HC2.out]; go_num, HX.out.2.2.trans (Below.mono HQ.out.2.2.2.1 HX.out.2.2.size)⟩
      case measure => simp [intOf]; omega
  obtain rfl : j = its.length := by omega
  rw [List.take_length]
  have hle := HLE.out
  have his := HIS.out
  obtain ⟨c, hc⟩ : ∃ c, cntN its kk = c := ⟨_, rfl⟩
  rw [hc] at hle his ⊢
  have HC3 := Lib.hid hc
  have HBf := Lib.hid (HQ.out.2.2.2)
  by_cases hlt2 : c < its.length
  · obtain ⟨bb, bo, cb, e1, -, -, -, zc, hcell⟩ := HQ.out.2.2.1.v.at_ (by omega)
    injection e1 with e1 _ e2
    subst e1 e2
    obtain ⟨f0, f1, f2, -, -, -, -, -⟩ := hcell c (its.getD c nokI) (get_l _ _ _ hlt2)
    obtain ⟨y, hy⟩ : ∃ y, its.getD c nokI = y := ⟨_, rfl⟩
    rw [hy] at f0 f1 f2 his
    rw [decide_eq_true hlt2, Bool.true_and] at his
    subst his
    simp only [bV, wV, Nat.add_zero] at f0 f1 f2
    have hn5 : rItem.n = 5 := rfl
    rw [hn5] at f0 f1 f2
    unfold maxLen at zc
    have ek := fun W => eq_key y.key kk W
    simp only [keyV, bV, wV] at ek
    have i1 : decide ((c : Int) < its.length) = true := by rw [decide_eq_true_eq]; omega
    have i2 : (c : Int) < its.length := by omega
    have i3 : ¬ (its.length : Int) ≤ c := by omega
    clear hcell hn5 hy hc hBr hlt hle
    go_wp2_with fail
    go_quiet (fail)
    go_wp2
    go_ret2
    exact ⟨by rw [HC3.out]; rfl, LW.step HBf.out (below_dr _ _)⟩
  rw [decide_eq_false hlt2, Bool.false_and] at his
  subst his
  have i1 : decide ((c : Int) < its.length) = false := by rw [decide_eq_false_iff_not]; omega
  have i3 : (its.length : Int) ≤ c := by omega
  clear hc hBr hlt hle
  go_wp2_with fail
  go_quiet (fail)
  go_wp2
  go_ret2
  exact ⟨by rw [HC3.out]; rfl, LW.step HBf.out (below_dr _ _)⟩
end Go.Proofs.Ythealkfpflkipaa

