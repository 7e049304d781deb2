/- NodeCodes: the words and contracts, part 14. -/
import Derived.Test.YthealkfpflkipaaNodeCodesQ1
import Derived.Test.YthealkfpflkipaaNodeCodesQ2
import Derived.Test.YthealkfpflkipaaNodeCodesQ3
import Derived.Test.YthealkfpflkipaaNodeCodesQ4
import Derived.Test.YthealkfpflkipaaNodeCodesQ5
import Derived.Test.YthealkfpflkipaaNodeCodesQ6
import Derived.Test.YthealkfpflkipaaNodeCodesQ7
import Derived.Test.YthealkfpflkipaaNodeCodesQ8
import Derived.Test.YthealkfpflkipaaNodeCodesQ9
import Derived.Test.YthealkfpflkipaaNodeCodesQ10
import Derived.WalkKit
import Derived.WalkLawsBesides
import Derived.WalkSpells
import Derived.Lib.Hide
import Derived.Laws.Rows
import Derived.Laws.AppendOwnNone
import Derived.Maps.AppendAt
import Derived.ProofKit
import Derived.Deep.Slices
import Derived.WideShapes
import Derived.RangeFuncNested
import Derived.RangeFuncBound
import Derived.RangeFuncCalls
import Derived.RangeFuncLeaves
import Derived.RangeFuncBox
import Derived.Shelf.Abstract
import Derived.Shelf.RegionOpen
import Derived.OwnWalkIn
import Derived.TacticsInMore
import Derived.LoopNIn
import Derived.LoopIn
import Derived.Lib.AppendZerosOnto
import Derived.Lib.SliceRun
import Derived.Lib.Walk
import Derived.Deep.LoopGhost
import Derived.Laws.CopyOwn
import Derived.Laws.CopyRow
import Derived.OrdersHeld
import Derived.Deep.QuietTactic
import Derived.BigQuiet
import Derived.StillTailTactics
import Derived.OpenShut
import Derived.Deep.DeepCutAuto
import Derived.Deep.RegionHeld
import Derived.Laws.MakeOwn
import Derived.KernelRfl
namespace Go.Proofs.Ythealkfpflkipaa
open Go.RowKit

theorem Sl.cellW {α : Type} {r : Rd α} {w : World} {lo hi b off n c : Nat} {l : List α} (h : Sl r w lo hi (.slice (some ⟨b, off, none⟩) n c) l) (i : Nat) (x : α) (hx : l[i]? = some x) : r.R w lo hi x (fun j => w.cell? ⟨b, off + i * r.n + j, none⟩) := by
  obtain ⟨a, c', e, h1, h2, h3, h4⟩ := h
  cases e
  obtain ⟨b', off', ea, _, _, hc⟩ := h3 (by have := (List.getElem?_eq_some_iff.1 hx).1; omega)
  cases ea
  exact hc i x hx
set_option maxRecDepth 100000 in
set_option maxHeartbeats 4000000 in
theorem rnmay_any (n : NodeL) (u_n : Value) (w : World) (h_n : Sl rItem w 0 w.heap.size u_n n.items) :
    Calls Try.prog 52 #[.agg #[.int .i64 n.level, u_n]] w fun e w' => e = .returned (.bool (mayN n)) ∧ Below w.heap.size w w' := by
  obtain ⟨lv, its⟩ := n
  simp only at h_n ⊢
  obtain ⟨a_n, c_n, rfl, g_n, gm_n, -, -⟩ := id h_n
  unfold maxLen at gm_n
  have hst := ((Below.refl w.heap.size w).alloc (Nat.le_refl _) (.cells #[.int .i64 lv, .slice a_n its.length c_n] 54))
  have q_n := LK.new w (.cells #[.int .i64 lv, .slice a_n its.length c_n] 54)
  have hB : LW w _ := hst
  have S_n := (LS.of h_n (Nat.le_refl _)).step hst
  have sz_V : w.heap.size + 0 < (w.alloc (.cells #[.int .i64 lv, .slice a_n its.length c_n] 54)).heap.size := by simp
  obtain ⟨V, hV⟩ : ∃ V, (w.alloc (.cells #[.int .i64 lv, .slice a_n its.length c_n] 54)) = V := ⟨_, rfl⟩
  rw [hV] at sz_V q_n S_n hB
  clear hst h_n
  have HQ := Lib.hid (And.intro q_n (And.intro S_n hB))
  clear q_n S_n hB
  have c_q_n0 := LK.cell HQ.out.1 0
  have c_q_n1 := LK.cell HQ.out.1 1
  simp at c_q_n0 c_q_n1
  have hbad := fun i (hi : i < its.length) (h : stepN ⟨lv, its⟩ i = false) => mayN_bad (n := ⟨lv, its⟩) hi h
  have hyes := fun h0 h1 h2 h3 h => mayN_yes (n := ⟨lv, its⟩) h0 h1 h2 h3 h
  have hno : (lv < 0 ∨ 6 ≤ lv ∨ 5 < its.length ∨ (0 < lv ∧ its.length = 0)) → mayN ⟨lv, its⟩ = false := fun h => by
    rw [Bool.eq_false_iff]
    intro e
    obtain ⟨⟨h1, h2⟩, h3, h4, -⟩ := mayN_all e
    simp only at h1 h2 h3 h4
    omega
  have hstp : ∀ i, stepN ⟨lv, its⟩ i = (mayI (its.getD i nokI) && (i == 0 || lessK (its.getD (i - 1) nokI).key (its.getD i nokI).key) && (decide (lv ≤ 0) || (decide ((its.getD i nokI).ref ≠ 0) && (its.getD i nokI).val.length == 0))) := fun _ => rfl
  have k_m := fun (x : ItemL) v V hh => rmay_any x v V hh
  have k_l := fun (x y : ItemL) V => rless_any x.key y.key V
  simp only [keyV, itemV, bV, wV] at k_m k_l
  simp only at hbad hyes hno hstp
  generalize mayN ⟨lv, its⟩ = mn at *
  have HN := Lib.hid (And.intro hbad (And.intro hyes (And.intro hno hstp)))
  clear hbad hyes hno hstp
  have HC := Lib.hid (And.intro k_m k_l)
  clear k_m k_l
  go_enter Try.func52, Try.ntmps52
  go_upto_region 1 with (fail)
  clear hV
  by_cases h0 : lv < 0
  case pos =>
    have hm := HN.out.2.2.1 (by omega)
    subst hm
    go_wp2
    go_ret
    exact ⟨rfl, HQ.out.2.2⟩
  by_cases h6 : 6 ≤ lv
  case pos =>
    have hm := HN.out.2.2.1 (by omega)
    subst hm
    go_wp2
    go_ret
    exact ⟨rfl, HQ.out.2.2⟩
  have h6l : lv < 6 := by omega
  by_cases h5 : 5 < its.length
  case pos =>
    have hm := HN.out.2.2.1 (by omega)
    subst hm
    have i5 : (5 : Int) < its.length := by omega
    go_wp2
    go_ret
    exact ⟨rfl, HQ.out.2.2⟩
  have i5 : ¬ (5 : Int) < its.length := by omega
  by_cases hz : 0 < lv ∧ its.length = 0
  case pos =>
    obtain ⟨hz1, hz2⟩ := hz
    have i6 : its = [] := List.eq_nil_of_length_eq_zero hz2
    subst i6
    have hm := HN.out.2.2.1 (by omega)
    subst hm
    go_wp2
    go_ret
    exact ⟨rfl, HQ.out.2.2⟩
  obtain ⟨ab, hab⟩ : ∃ ab, decide (0 < lv) = ab := ⟨_, rfl⟩
  have HAB := Lib.hid hab
  have hze : ab = true → ((its.length : Int) == 0) = false ∧ ¬ its = [] := fun h => by
    have h1 : 0 < lv := of_decide_eq_true (hab.trans h)
    have h2 : ¬ its.length = 0 := fun e => hz ⟨h1, e⟩
    exact ⟨by rw [beq_eq_false_iff_ne]; omega, fun e => h2 (by rw [e]; rfl)⟩
  have hloop : lv ≤ 0 ∨ its.length ≠ 0 := by
    rcases Decidable.em (0 < lv) with h | h
    · exact .inr fun e => hz ⟨h, e⟩
    · exact .inl (by omega)
  have HZ := Lib.hid (And.intro hz hloop)
  clear hz hloop
  go_upto_region 1 with (fail)
  go_cut [29] (fun t wx => t = .bool false ∧ V = wx)
  case first =>
    cases ab
    case false =>
      go_wp2
      go_meet
      exact ⟨rfl, rfl⟩
    obtain ⟨hz1, hz2⟩ := hze rfl
    go_wp2
    go_meet
    exact ⟨rfl, rfl⟩
  case rest =>
  obtain ⟨rfl, hwx⟩ := hcut
  subst hwx
  clear hze
  go_wp2_with fail
  go_loopw [3] (fun i wr => ∃ j : Nat, j ≤ its.length ∧ i = .int .i64 j ∧ (∀ m, m < j → stepN ⟨lv, its⟩ m = true) ∧ Below V.heap.size V wr) (fun i _ => its.length - (intOf i).toNat)
  case atStart => exact ⟨0, Nat.zero_le _, rfl, fun m hm => absurd hm (Nat.not_lt_zero _), Below.refl _ _⟩
  case round =>
  obtain ⟨j, hj, rfl, hall, hst⟩ := hrel
  clear c_q_n0 c_q_n1
  obtain ⟨q_n, S_n, hB⟩ := HQ.out
  clear HQ
  replace q_n := q_n.step hst
  replace S_n := S_n.step hst
  replace hB := hB.step hst
  have sz_wr := hst.size
  have hW : LW V wr := hst
  clear hst
  have HALL := Lib.hid hall
  clear hall
  have HQ := Lib.hid (And.intro q_n (And.intro S_n (And.intro hW hB)))
  clear q_n S_n hW hB
  have c_q_n0 := LK.cell HQ.out.1 0
  have c_q_n1 := LK.cell HQ.out.1 1
  simp at c_q_n0 c_q_n1
  by_cases hlt : j < its.length
  case pos =>
    obtain ⟨bb, bo, cb, e1, -, zb, -, zc, -⟩ := Sl.at_ HQ.out.2.1.v (by omega)
    injection e1 with e1 _ e2
    subst e1 e2
    unfold maxLen at zc
    have hyl := get_l its nokI j hlt
    have hxl := get_l its nokI (j - 1) (by omega)
    have hs := HN.out.2.2.2 j
    have hbd := HN.out.1 j hlt
    obtain ⟨y, hy⟩ : ∃ y, its.getD j nokI = y := ⟨_, rfl⟩
    obtain ⟨x, hx⟩ : ∃ x, its.getD (j - 1) nokI = x := ⟨_, rfl⟩
    rw [hy] at hs hyl
    rw [hx] at hs hxl
    obtain ⟨sj, hsj⟩ : ∃ q, stepN ⟨lv, its⟩ j = q := ⟨_, rfl⟩
    rw [hsj] at hs hbd
    have HY := Lib.hid (And.intro hs (And.intro hyl (And.intro hxl (And.intro hbd hsj))))
    clear hs hyl hxl hx hy hbd hsj
    have i6 : (j : Int) < its.length := by omega
    have i7 : ¬ (its.length : Int) ≤ j := by omega
    obtain ⟨f0, f1, f2, f3, -, fv, f4, fb⟩ := Sl.cellW HQ.out.2.1.v j _ HY.out.2.1
    have hn5 : rItem.n = 5 := rfl
    rw [hn5] at f0 f1 f2 f3 f4
    simp only [bV, wV, Nat.add_zero] at f0 f1 f2
    clear hn5
    obtain ⟨yn, hyn⟩ : ∃ n, y.val.length = n := ⟨_, rfl⟩
    obtain ⟨fa, fc, rfl, -, fcm⟩ := fb.form hyn
    unfold maxLen at fcm
    have B_y := LB.of fb (Nat.le_refl _)
    have HYN := Lib.hid hyn
    clear fb hyn
    clear c_q_n0 c_q_n1
    obtain ⟨q_n, S_n, hW, hB⟩ := HQ.out
    clear HQ
    have HQ := Lib.hid (And.intro q_n (And.intro S_n (And.intro hW (And.intro B_y hB))))
    clear q_n S_n hW B_y hB
    have c_q_n0 := LK.cell HQ.out.1 0
    have c_q_n1 := LK.cell HQ.out.1 1
    simp at c_q_n0 c_q_n1
    go_upto_region 7 with (fail)
    clear c_q_n0 c_q_n1
    obtain ⟨q_n, S_n, hW, B_y, hB⟩ := HQ.out
    clear HQ
    have hst := (Below.refl wr.heap.size wr).alloc (Nat.le_refl _) (.cells #[.int .u8 (y.key.kind.toNat : Int), .int .u32 (y.key.id.toNat : Int), .int .u32 (y.key.off.toNat : Int), .int .i64 y.ref, .slice fa yn fc] 85)
    have hlt : wr.heap.size < (wr.alloc (.cells #[.int .u8 (y.key.kind.toNat : Int), .int .u32 (y.key.id.toNat : Int), .int .u32 (y.key.off.toNat : Int), .int .i64 y.ref, .slice fa yn fc] 85)).heap.size := by simp
    have q_y := LK.new wr (.cells #[.int .u8 (y.key.kind.toNat : Int), .int .u32 (y.key.id.toNat : Int), .int .u32 (y.key.off.toNat : Int), .int .i64 y.ref, .slice fa yn fc] 85)
    replace q_n := q_n.step hst
    replace S_n := S_n.step hst
    replace hW := hW.step hst
    replace B_y := B_y.step hst
    replace hB := hB.step hst
    obtain ⟨w1, hw⟩ : ∃ v, wr.alloc (.cells #[.int .u8 (y.key.kind.toNat : Int), .int .u32 (y.key.id.toNat : Int), .int .u32 (y.key.off.toNat : Int), .int .i64 y.ref, .slice fa yn fc] 85) = v := ⟨_, rfl⟩
    rw [hw] at hlt q_y q_n S_n hW B_y hB ⊢
    clear hw hst
    have sz_w1 := hlt
    clear hlt
    have HQ := Lib.hid (And.intro q_n (And.intro S_n (And.intro hW (And.intro B_y (And.intro q_y hB)))))
    clear q_n S_n hW B_y q_y hB
    have c_q_n0 := LK.cell HQ.out.1 0
    have c_q_n1 := LK.cell HQ.out.1 1
    have c_q_y0 := LK.cell HQ.out.2.2.2.2.1 0
    have c_q_y1 := LK.cell HQ.out.2.2.2.2.1 1
    have c_q_y2 := LK.cell HQ.out.2.2.2.2.1 2
    have c_q_y3 := LK.cell HQ.out.2.2.2.2.1 3
    have c_q_y4 := LK.cell HQ.out.2.2.2.2.1 4
    simp at c_q_n0 c_q_n1 c_q_y0 c_q_y1 c_q_y2 c_q_y3 c_q_y4
    clear f0 f1 f2 f3 f4
    have km := HC.out.1 y (.slice fa yn fc)
    obtain ⟨mx, hmx⟩ : ∃ q, mayI y = q := ⟨_, rfl⟩
    rw [hmx] at km
    have KM := Lib.hid km
    have HMX := Lib.hid hmx
    clear km hmx
    go_cut [77] (fun t wx => t = .bool (!sj) ∧ Below w1.heap.size w1 wx)
    case first =>
      clear c_q_n0 c_q_n1 c_q_y0 c_q_y1 c_q_y2 c_q_y3 c_q_y4
      have x_q_n0 := fun X => LK.cell (HQ.out.1.step (aft_below w1 X)) 0
      have x_q_n1 := fun X => LK.cell (HQ.out.1.step (aft_below w1 X)) 1
      have x_q_y0 := fun X => LK.cell (HQ.out.2.2.2.2.1.step (aft_below w1 X)) 0
      have x_q_y1 := fun X => LK.cell (HQ.out.2.2.2.2.1.step (aft_below w1 X)) 1
      have x_q_y2 := fun X => LK.cell (HQ.out.2.2.2.2.1.step (aft_below w1 X)) 2
      have x_q_y3 := fun X => LK.cell (HQ.out.2.2.2.2.1.step (aft_below w1 X)) 3
      have x_q_y4 := fun X => LK.cell (HQ.out.2.2.2.2.1.step (aft_below w1 X)) 4
      simp at x_q_n0 x_q_n1 x_q_y0 x_q_y1 x_q_y2 x_q_y3 x_q_y4
      cases mx
      case false =>
        obtain rfl : sj = false := by rw [HY.out.1, HMX.out]; rfl
        refine wp_region_held_drew (S := Cls w1) (by kernel_rfl) (Cls.drew w1) (fun hCl => ?_)
        refine wpAnyH_seg (fuel := 35) (by kernel_rfl) (fun _ d _ _ _ h => by cases d <;> exact h) hCl [0] _ _ _ (by kernel_rfl) (by kernel_rfl) ?_
        simp only [opsOf_cons, opsOf_nil, consOp_some, List.getElem?_toArray, List.getElem?_cons_zero]
        repeat (first | go_big_quiet_step (fail) | quiet_step (fail))
        refine wpQuiet_nil ?_
        refine wpAnyH_each (fuel := 34) [1] (by kernel_rfl) (by simp) (by kernel_rfl) ?_
        refine Each.cons _ rfl (fun K' hK => ?_) Each.nil
        go_simp
        refine (KM.out _ (HQ.out.2.2.2.1.step hCl.below).v).mono ?_
        rintro e z1 ⟨rfl, hb⟩
        have hst := below_step hCl.below hCl.below.size hb
        clear hb
        have hCl := Cls.of hst
        refine hK.out (Cls w1) (fun _ h => h) hCl ?_
        clear hK K'
        refine wpAnyH_seg (fuel := 20) (by kernel_rfl) (fun _ d _ _ _ h => by cases d <;> exact h) hCl [2, 3, 4, 5, 6, 7, 8, 9, 10, 11, 12, 13, 14, 15] _ _ _ (by kernel_rfl) (by kernel_rfl) ?_
        simp only [opsOf_cons, opsOf_nil, consOp_some, List.getElem?_toArray, List.getElem?_cons_succ, List.getElem?_cons_zero]
        repeat (first | go_big_quiet_step (fail) | quiet_step (fail))
        refine wpQuiet_nil ?_
        refine wpAnyH_each (fuel := 19) [16] (by kernel_rfl) (by simp) (by kernel_rfl) ?_
        refine Each.cons _ rfl (fun K' hK => ?_) Each.nil
        go_simp
        have hst := hCl.below
        have hCl := Cls.of hst
        refine hK.out (Cls w1) (fun _ h => h) hCl ?_
        clear hK K'
        refine wpAnyH_seg (fuel := 0) (by kernel_rfl) (fun _ d _ _ _ h => by cases d <;> exact h) hCl [17, 18, 19, 20, 21, 22, 23, 24, 25, 26, 27, 28, 29, 30, 31, 32, 33, 34, 35] _ _ _ (by kernel_rfl) (by kernel_rfl) ?_
        simp only [opsOf_cons, opsOf_nil, consOp_some, List.getElem?_toArray, List.getElem?_cons_succ, List.getElem?_cons_zero]
        repeat (first | go_big_quiet_step (fail) | quiet_step (fail))
        refine wpQuiet_nil ?_
        refine wpAnyH_done (by kernel_rfl) ?_ _
        go_wp2
        go_meet
        exact ⟨rfl, hst⟩
      by_cases hj0 : j = 0
      case pos =>
        have e0 : decide ((0 : Int) < (j : Int)) = false := by simp [hj0]
        have e00 : decide (0 < j) = false := by simp [hj0]
        have e01 : ¬ 0 < j := by omega
        have hj0b : (j == 0) = true := by simp [hj0]
        have HJ0 := Lib.hid hj0b
        clear hj0 hj0b
        cases ab
        case false =>
          have hlv : decide (lv ≤ 0) = true := by
            have := of_decide_eq_false HAB.out
            exact decide_eq_true (by omega)
          have HLV := Lib.hid hlv
          clear hlv
          obtain rfl : sj = true := by rw [HY.out.1, HMX.out, HJ0.out, Bool.true_or, Bool.true_and, HLV.out]; rfl
          refine wp_region_held_drew (S := Cls w1) (by kernel_rfl) (Cls.drew w1) (fun hCl => ?_)
          refine wpAnyH_seg (fuel := 35) (by kernel_rfl) (fun _ d _ _ _ h => by cases d <;> exact h) hCl [0] _ _ _ (by kernel_rfl) (by kernel_rfl) ?_
          simp only [opsOf_cons, opsOf_nil, consOp_some, List.getElem?_toArray, List.getElem?_cons_zero]
          repeat (first | go_big_quiet_step (fail) | quiet_step (fail))
          refine wpQuiet_nil ?_
          refine wpAnyH_each (fuel := 34) [1] (by kernel_rfl) (by simp) (by kernel_rfl) ?_
          refine Each.cons _ rfl (fun K' hK => ?_) Each.nil
          go_simp
          refine (KM.out _ (HQ.out.2.2.2.1.step hCl.below).v).mono ?_
          rintro e z1 ⟨rfl, hb⟩
          have hst := below_step hCl.below hCl.below.size hb
          clear hb
          have hCl := Cls.of hst
          refine hK.out (Cls w1) (fun _ h => h) hCl ?_
          clear hK K'
          refine wpAnyH_seg (fuel := 20) (by kernel_rfl) (fun _ d _ _ _ h => by cases d <;> exact h) hCl [2, 3, 4, 5, 6, 7, 8, 9, 10, 11, 12, 13, 14, 15] _ _ _ (by kernel_rfl) (by kernel_rfl) ?_
          simp only [opsOf_cons, opsOf_nil, consOp_some, List.getElem?_toArray, List.getElem?_cons_succ, List.getElem?_cons_zero]
          repeat (first | go_big_quiet_step (fail) | quiet_step (fail))
          refine wpQuiet_nil ?_
          refine wpAnyH_each (fuel := 19) [16] (by kernel_rfl) (by simp) (by kernel_rfl) ?_
          refine Each.cons _ rfl (fun K' hK => ?_) Each.nil
          go_simp
          have hst := hCl.below
          have hCl := Cls.of hst
          refine hK.out (Cls w1) (fun _ h => h) hCl ?_
          clear hK K'
          refine wpAnyH_seg (fuel := 0) (by kernel_rfl) (fun _ d _ _ _ h => by cases d <;> exact h) hCl [17, 18, 19, 20, 21, 22, 23, 24, 25, 26, 27, 28, 29, 30, 31, 32, 33, 34, 35] _ _ _ (by kernel_rfl) (by kernel_rfl) ?_
          simp only [opsOf_cons, opsOf_nil, consOp_some, List.getElem?_toArray, List.getElem?_cons_succ, List.getElem?_cons_zero]
          repeat (first | go_big_quiet_step (fail) | quiet_step (fail))
          refine wpQuiet_nil ?_
          refine wpAnyH_done (by kernel_rfl) ?_ _
          go_wp2
          go_meet
          exact ⟨rfl, hst⟩
        have hlv : decide (lv ≤ 0) = false := by
          have := of_decide_eq_true HAB.out
          exact decide_eq_false (by omega)
        have HLV := Lib.hid hlv
        clear hlv
        by_cases hr0 : y.ref = 0
        case pos =>
          have r0 : (y.ref == 0) = true := by simp [hr0]
          have HR := Lib.hid hr0
          clear hr0
          obtain rfl : sj = false := by rw [HY.out.1, HMX.out, HJ0.out, Bool.true_or, Bool.true_and, HLV.out, HR.out]; simp
          refine wp_region_held_drew (S := Cls w1) (by kernel_rfl) (Cls.drew w1) (fun hCl => ?_)
          refine wpAnyH_seg (fuel := 35) (by kernel_rfl) (fun _ d _ _ _ h => by cases d <;> exact h) hCl [0] _ _ _ (by kernel_rfl) (by kernel_rfl) ?_
          simp only [opsOf_cons, opsOf_nil, consOp_some, List.getElem?_toArray, List.getElem?_cons_zero]
          repeat (first | go_big_quiet_step (fail) | quiet_step (fail))
          refine wpQuiet_nil ?_
          refine wpAnyH_each (fuel := 34) [1] (by kernel_rfl) (by simp) (by kernel_rfl) ?_
          refine Each.cons _ rfl (fun K' hK => ?_) Each.nil
          go_simp
          refine (KM.out _ (HQ.out.2.2.2.1.step hCl.below).v).mono ?_
          rintro e z1 ⟨rfl, hb⟩
          have hst := below_step hCl.below hCl.below.size hb
          clear hb
          have hCl := Cls.of hst
          refine hK.out (Cls w1) (fun _ h => h) hCl ?_
          clear hK K'
          refine wpAnyH_seg (fuel := 20) (by kernel_rfl) (fun _ d _ _ _ h => by cases d <;> exact h) hCl [2, 3, 4, 5, 6, 7, 8, 9, 10, 11, 12, 13, 14, 15] _ _ _ (by kernel_rfl) (by kernel_rfl) ?_
          simp only [opsOf_cons, opsOf_nil, consOp_some, List.getElem?_toArray, List.getElem?_cons_succ, List.getElem?_cons_zero]
          repeat (first | go_big_quiet_step (fail) | quiet_step (fail))
          refine wpQuiet_nil ?_
          refine wpAnyH_each (fuel := 19) [16] (by kernel_rfl) (by simp) (by kernel_rfl) ?_
          refine Each.cons _ rfl (fun K' hK => ?_) Each.nil
          go_simp
          have hst := hCl.below
          have hCl := Cls.of hst
          refine hK.out (Cls w1) (fun _ h => h) hCl ?_
          clear hK K'
          refine wpAnyH_seg (fuel := 0) (by kernel_rfl) (fun _ d _ _ _ h => by cases d <;> exact h) hCl [17, 18, 19, 20, 21, 22, 23, 24, 25, 26, 27, 28, 29, 30, 31, 32, 33, 34, 35] _ _ _ (by kernel_rfl) (by kernel_rfl) ?_
          simp only [opsOf_cons, opsOf_nil, consOp_some, List.getElem?_toArray, List.getElem?_cons_succ, List.getElem?_cons_zero]
          repeat (first | go_big_quiet_step (fail) | quiet_step (fail))
          refine wpQuiet_nil ?_
          refine wpAnyH_done (by kernel_rfl) ?_ _
          go_wp2
          go_meet
          exact ⟨rfl, hst⟩
        have r0 : (y.ref == 0) = false := by simp [hr0]
        have HR := Lib.hid hr0
        clear hr0
        by_cases hv0 : yn = 0
        case pos =>
          have v0 : decide ((0 : Int) < (yn : Int)) = false := by simp [hv0]
          have v00 : decide (0 < yn) = false := by simp [hv0]
          have v01 : ¬ 0 < yn := by omega
          have HV := Lib.hid hv0
          clear hv0
          obtain rfl : sj = true := by rw [HY.out.1, HMX.out, HJ0.out, Bool.true_or, Bool.true_and, HLV.out, HYN.out]; simp [HR.out, HV.out]
          refine wp_region_held_drew (S := Cls w1) (by kernel_rfl) (Cls.drew w1) (fun hCl => ?_)
          refine wpAnyH_seg (fuel := 35) (by kernel_rfl) (fun _ d _ _ _ h => by cases d <;> exact h) hCl [0] _ _ _ (by kernel_rfl) (by kernel_rfl) ?_
          simp only [opsOf_cons, opsOf_nil, consOp_some, List.getElem?_toArray, List.getElem?_cons_zero]
          repeat (first | go_big_quiet_step (fail) | quiet_step (fail))
          refine wpQuiet_nil ?_
          refine wpAnyH_each (fuel := 34) [1] (by kernel_rfl) (by simp) (by kernel_rfl) ?_
          refine Each.cons _ rfl (fun K' hK => ?_) Each.nil
          go_simp
          refine (KM.out _ (HQ.out.2.2.2.1.step hCl.below).v).mono ?_
          rintro e z1 ⟨rfl, hb⟩
          have hst := below_step hCl.below hCl.below.size hb
          clear hb
          have hCl := Cls.of hst
          refine hK.out (Cls w1) (fun _ h => h) hCl ?_
          clear hK K'
          refine wpAnyH_seg (fuel := 20) (by kernel_rfl) (fun _ d _ _ _ h => by cases d <;> exact h) hCl [2, 3, 4, 5, 6, 7, 8, 9, 10, 11, 12, 13, 14, 15] _ _ _ (by kernel_rfl) (by kernel_rfl) ?_
          simp only [opsOf_cons, opsOf_nil, consOp_some, List.getElem?_toArray, List.getElem?_cons_succ, List.getElem?_cons_zero]
          repeat (first | go_big_quiet_step (fail) | quiet_step (fail))
          refine wpQuiet_nil ?_
          refine wpAnyH_each (fuel := 19) [16] (by kernel_rfl) (by simp) (by kernel_rfl) ?_
          refine Each.cons _ rfl (fun K' hK => ?_) Each.nil
          go_simp
          have hst := hCl.below
          have hCl := Cls.of hst
          refine hK.out (Cls w1) (fun _ h => h) hCl ?_
          clear hK K'
          refine wpAnyH_seg (fuel := 0) (by kernel_rfl) (fun _ d _ _ _ h => by cases d <;> exact h) hCl [17, 18, 19, 20, 21, 22, 23, 24, 25, 26, 27, 28, 29, 30, 31, 32, 33, 34, 35] _ _ _ (by kernel_rfl) (by kernel_rfl) ?_
          simp only [opsOf_cons, opsOf_nil, consOp_some, List.getElem?_toArray, List.getElem?_cons_succ, List.getElem?_cons_zero]
          repeat (first | go_big_quiet_step (fail) | quiet_step (fail))
          refine wpQuiet_nil ?_
          refine wpAnyH_done (by kernel_rfl) ?_ _
          go_wp2
          go_meet
          exact ⟨rfl, hst⟩
        have v0 : decide ((0 : Int) < (yn : Int)) = true := by simp; omega
        have v00 : decide (0 < yn) = true := by simp; omega
        have v01 : 0 < yn := by omega
        have HV := Lib.hid hv0
        clear hv0
        obtain rfl : sj = false := by rw [HY.out.1, HMX.out, HJ0.out, Bool.true_or, Bool.true_and, HLV.out, HYN.out]; simp [HR.out, HV.out]
        refine wp_region_held_drew (S := Cls w1) (by kernel_rfl) (Cls.drew w1) (fun hCl => ?_)
        refine wpAnyH_seg (fuel := 35) (by kernel_rfl) (fun _ d _ _ _ h => by cases d <;> exact h) hCl [0] _ _ _ (by kernel_rfl) (by kernel_rfl) ?_
        simp only [opsOf_cons, opsOf_nil, consOp_some, List.getElem?_toArray, List.getElem?_cons_zero]
        repeat (first | go_big_quiet_step (fail) | quiet_step (fail))
        refine wpQuiet_nil ?_
        refine wpAnyH_each (fuel := 34) [1] (by kernel_rfl) (by simp) (by kernel_rfl) ?_
        refine Each.cons _ rfl (fun K' hK => ?_) Each.nil
        go_simp
        refine (KM.out _ (HQ.out.2.2.2.1.step hCl.below).v).mono ?_
        rintro e z1 ⟨rfl, hb⟩
        have hst := below_step hCl.below hCl.below.size hb
        clear hb
        have hCl := Cls.of hst
        refine hK.out (Cls w1) (fun _ h => h) hCl ?_
        clear hK K'
        refine wpAnyH_seg (fuel := 20) (by kernel_rfl) (fun _ d _ _ _ h => by cases d <;> exact h) hCl [2, 3, 4, 5, 6, 7, 8, 9, 10, 11, 12, 13, 14, 15] _ _ _ (by kernel_rfl) (by kernel_rfl) ?_
        simp only [opsOf_cons, opsOf_nil, consOp_some, List.getElem?_toArray, List.getElem?_cons_succ, List.getElem?_cons_zero]
        repeat (first | go_big_quiet_step (fail) | quiet_step (fail))
        refine wpQuiet_nil ?_
        refine wpAnyH_each (fuel := 19) [16] (by kernel_rfl) (by simp) (by kernel_rfl) ?_
        refine Each.cons _ rfl (fun K' hK => ?_) Each.nil
        go_simp
        have hst := hCl.below
        have hCl := Cls.of hst
        refine hK.out (Cls w1) (fun _ h => h) hCl ?_
        clear hK K'
        refine wpAnyH_seg (fuel := 0) (by kernel_rfl) (fun _ d _ _ _ h => by cases d <;> exact h) hCl [17, 18, 19, 20, 21, 22, 23, 24, 25, 26, 27, 28, 29, 30, 31, 32, 33, 34, 35] _ _ _ (by kernel_rfl) (by kernel_rfl) ?_
        simp only [opsOf_cons, opsOf_nil, consOp_some, List.getElem?_toArray, List.getElem?_cons_succ, List.getElem?_cons_zero]
        repeat (first | go_big_quiet_step (fail) | quiet_step (fail))
        refine wpQuiet_nil ?_
        refine wpAnyH_done (by kernel_rfl) ?_ _
        go_wp2
        go_meet
        exact ⟨rfl, hst⟩
      have e0 : decide ((0 : Int) < (j : Int)) = true := by simp; omega
      have e00 : decide (0 < j) = true := by simp; omega
      have e01 : 0 < j := by omega
      have hj0b : (j == 0) = false := by simp [hj0]
      have HJ0 := Lib.hid hj0b
      clear hj0 hj0b
      have i9 : (j : Int) - 1 = ((j - 1 : Nat) : Int) := by omega
      have i10 : ((j - 1 : Nat) : Int) < its.length := by omega
      have i11 : ¬ (its.length : Int) ≤ ((j - 1 : Nat) : Int) := by omega
      obtain ⟨g0, g1, g2, g3, -, gv, g4, gb⟩ := Sl.cellW HQ.out.2.1.v (j - 1) _ HY.out.2.2.1
      have hn5 : rItem.n = 5 := rfl
      rw [hn5] at g0 g1 g2 g3 g4
      simp only [bV, wV, Nat.add_zero] at g0 g1 g2
      clear hn5
      clear gb g3 g4
      have zz : bb < w1.heap.size := by omega
      replace g0 := fun X => ((aft_below w1 X).cell (p := ⟨bb, bo + (j - 1) * 5, none⟩) zz).trans g0
      replace g1 := fun X => ((aft_below w1 X).cell (p := ⟨bb, bo + (j - 1) * 5 + 1, none⟩) zz).trans g1
      replace g2 := fun X => ((aft_below w1 X).cell (p := ⟨bb, bo + (j - 1) * 5 + 2, none⟩) zz).trans g2
      have kl := HC.out.2 x y
      obtain ⟨bl, hbl⟩ : ∃ q, lessK x.key y.key = q := ⟨_, rfl⟩
      rw [hbl] at kl
      have KL := Lib.hid kl
      have HBL := Lib.hid hbl
      clear kl hbl
      cases bl
      case false =>
        obtain rfl : sj = false := by rw [HY.out.1, HMX.out, HJ0.out, HBL.out]; rfl
        refine wp_region_held_drew (S := Cls w1) (by kernel_rfl) (Cls.drew w1) (fun hCl => ?_)
        refine wpAnyH_seg (fuel := 35) (by kernel_rfl) (fun _ d _ _ _ h => by cases d <;> exact h) hCl [0] _ _ _ (by kernel_rfl) (by kernel_rfl) ?_
        simp only [opsOf_cons, opsOf_nil, consOp_some, List.getElem?_toArray, List.getElem?_cons_zero]
        repeat (first | go_big_quiet_step (fail) | quiet_step (fail))
        refine wpQuiet_nil ?_
        refine wpAnyH_each (fuel := 34) [1] (by kernel_rfl) (by simp) (by kernel_rfl) ?_
        refine Each.cons _ rfl (fun K' hK => ?_) Each.nil
        go_simp
        refine (KM.out _ (HQ.out.2.2.2.1.step hCl.below).v).mono ?_
        rintro e z1 ⟨rfl, hb⟩
        have hst := below_step hCl.below hCl.below.size hb
        clear hb
        have hCl := Cls.of hst
        refine hK.out (Cls w1) (fun _ h => h) hCl ?_
        clear hK K'
        refine wpAnyH_seg (fuel := 20) (by kernel_rfl) (fun _ d _ _ _ h => by cases d <;> exact h) hCl [2, 3, 4, 5, 6, 7, 8, 9, 10, 11, 12, 13, 14, 15] _ _ _ (by kernel_rfl) (by kernel_rfl) ?_
        simp only [opsOf_cons, opsOf_nil, consOp_some, List.getElem?_toArray, List.getElem?_cons_succ, List.getElem?_cons_zero]
        repeat (first | go_big_quiet_step (fail) | quiet_step (fail))
        refine wpQuiet_nil ?_
        refine wpAnyH_each (fuel := 19) [16] (by kernel_rfl) (by simp) (by kernel_rfl) ?_
        refine Each.cons _ rfl (fun K' hK => ?_) Each.nil
        go_simp
        refine (KL.out _).mono ?_
        rintro e z2 ⟨rfl, hb⟩
        have hst := below_step hCl.below hCl.below.size hb
        clear hb
        have hCl := Cls.of hst
        refine hK.out (Cls w1) (fun _ h => h) hCl ?_
        clear hK K'
        refine wpAnyH_seg (fuel := 0) (by kernel_rfl) (fun _ d _ _ _ h => by cases d <;> exact h) hCl [17, 18, 19, 20, 21, 22, 23, 24, 25, 26, 27, 28, 29, 30, 31, 32, 33, 34, 35] _ _ _ (by kernel_rfl) (by kernel_rfl) ?_
        simp only [opsOf_cons, opsOf_nil, consOp_some, List.getElem?_toArray, List.getElem?_cons_succ, List.getElem?_cons_zero]
        repeat (first | go_big_quiet_step (fail) | quiet_step (fail))
        refine wpQuiet_nil ?_
        refine wpAnyH_done (by kernel_rfl) ?_ _
        go_wp2
        go_meet
        exact ⟨rfl, hst⟩
      cases ab
      case false =>
        have hlv : decide (lv ≤ 0) = true := by
          have := of_decide_eq_false HAB.out
          exact decide_eq_true (by omega)
        have HLV := Lib.hid hlv
        clear hlv
        obtain rfl : sj = true := by rw [HY.out.1, HMX.out, HJ0.out, HBL.out, Bool.or_true, Bool.true_and, HLV.out]; rfl
        refine wp_region_held_drew (S := Cls w1) (by kernel_rfl) (Cls.drew w1) (fun hCl => ?_)
        refine wpAnyH_seg (fuel := 35) (by kernel_rfl) (fun _ d _ _ _ h => by cases d <;> exact h) hCl [0] _ _ _ (by kernel_rfl) (by kernel_rfl) ?_
        simp only [opsOf_cons, opsOf_nil, consOp_some, List.getElem?_toArray, List.getElem?_cons_zero]
        repeat (first | go_big_quiet_step (fail) | quiet_step (fail))
        refine wpQuiet_nil ?_
        refine wpAnyH_each (fuel := 34) [1] (by kernel_rfl) (by simp) (by kernel_rfl) ?_
        refine Each.cons _ rfl (fun K' hK => ?_) Each.nil
        go_simp
        refine (KM.out _ (HQ.out.2.2.2.1.step hCl.below).v).mono ?_
        rintro e z1 ⟨rfl, hb⟩
        have hst := below_step hCl.below hCl.below.size hb
        clear hb
        have hCl := Cls.of hst
        refine hK.out (Cls w1) (fun _ h => h) hCl ?_
        clear hK K'
        refine wpAnyH_seg (fuel := 20) (by kernel_rfl) (fun _ d _ _ _ h => by cases d <;> exact h) hCl [2, 3, 4, 5, 6, 7, 8, 9, 10, 11, 12, 13, 14, 15] _ _ _ (by kernel_rfl) (by kernel_rfl) ?_
        simp only [opsOf_cons, opsOf_nil, consOp_some, List.getElem?_toArray, List.getElem?_cons_succ, List.getElem?_cons_zero]
        repeat (first | go_big_quiet_step (fail) | quiet_step (fail))
        refine wpQuiet_nil ?_
        refine wpAnyH_each (fuel := 19) [16] (by kernel_rfl) (by simp) (by kernel_rfl) ?_
        refine Each.cons _ rfl (fun K' hK => ?_) Each.nil
        go_simp
        refine (KL.out _).mono ?_
        rintro e z2 ⟨rfl, hb⟩
        have hst := below_step hCl.below hCl.below.size hb
        clear hb
        have hCl := Cls.of hst
        refine hK.out (Cls w1) (fun _ h => h) hCl ?_
        clear hK K'
        refine wpAnyH_seg (fuel := 0) (by kernel_rfl) (fun _ d _ _ _ h => by cases d <;> exact h) hCl [17, 18, 19, 20, 21, 22, 23, 24, 25, 26, 27, 28, 29, 30, 31, 32, 33, 34, 35] _ _ _ (by kernel_rfl) (by kernel_rfl) ?_
        simp only [opsOf_cons, opsOf_nil, consOp_some, List.getElem?_toArray, List.getElem?_cons_succ, List.getElem?_cons_zero]
        repeat (first | go_big_quiet_step (fail) | quiet_step (fail))
        refine wpQuiet_nil ?_
        refine wpAnyH_done (by kernel_rfl) ?_ _
        go_wp2
        go_meet
        exact ⟨rfl, hst⟩
      have hlv : decide (lv ≤ 0) = false := by
        have := of_decide_eq_true HAB.out
        exact decide_eq_false (by omega)
      have HLV := Lib.hid hlv
      clear hlv
      by_cases hr0 : y.ref = 0
      case pos =>
        have r0 : (y.ref == 0) = true := by simp [hr0]
        have HR := Lib.hid hr0
        clear hr0
        obtain rfl : sj = false := by rw [HY.out.1, HMX.out, HJ0.out, HBL.out, Bool.or_true, Bool.true_and, HLV.out, HR.out]; simp
        refine wp_region_held_drew (S := Cls w1) (by kernel_rfl) (Cls.drew w1) (fun hCl => ?_)
        refine wpAnyH_seg (fuel := 35) (by kernel_rfl) (fun _ d _ _ _ h => by cases d <;> exact h) hCl [0] _ _ _ (by kernel_rfl) (by kernel_rfl) ?_
        simp only [opsOf_cons, opsOf_nil, consOp_some, List.getElem?_toArray, List.getElem?_cons_zero]
        repeat (first | go_big_quiet_step (fail) | quiet_step (fail))
        refine wpQuiet_nil ?_
        refine wpAnyH_each (fuel := 34) [1] (by kernel_rfl) (by simp) (by kernel_rfl) ?_
        refine Each.cons _ rfl (fun K' hK => ?_) Each.nil
        go_simp
        refine (KM.out _ (HQ.out.2.2.2.1.step hCl.below).v).mono ?_
        rintro e z1 ⟨rfl, hb⟩
        have hst := below_step hCl.below hCl.below.size hb
        clear hb
        have hCl := Cls.of hst
        refine hK.out (Cls w1) (fun _ h => h) hCl ?_
        clear hK K'
        refine wpAnyH_seg (fuel := 20) (by kernel_rfl) (fun _ d _ _ _ h => by cases d <;> exact h) hCl [2, 3, 4, 5, 6, 7, 8, 9, 10, 11, 12, 13, 14, 15] _ _ _ (by kernel_rfl) (by kernel_rfl) ?_
        simp only [opsOf_cons, opsOf_nil, consOp_some, List.getElem?_toArray, List.getElem?_cons_succ, List.getElem?_cons_zero]
        repeat (first | go_big_quiet_step (fail) | quiet_step (fail))
        refine wpQuiet_nil ?_
        refine wpAnyH_each (fuel := 19) [16] (by kernel_rfl) (by simp) (by kernel_rfl) ?_
        refine Each.cons _ rfl (fun K' hK => ?_) Each.nil
        go_simp
        refine (KL.out _).mono ?_
        rintro e z2 ⟨rfl, hb⟩
        have hst := below_step hCl.below hCl.below.size hb
        clear hb
        have hCl := Cls.of hst
        refine hK.out (Cls w1) (fun _ h => h) hCl ?_
        clear hK K'
        refine wpAnyH_seg (fuel := 0) (by kernel_rfl) (fun _ d _ _ _ h => by cases d <;> exact h) hCl [17, 18, 19, 20, 21, 22, 23, 24, 25, 26, 27, 28, 29, 30, 31, 32, 33, 34, 35] _ _ _ (by kernel_rfl) (by kernel_rfl) ?_
        simp only [opsOf_cons, opsOf_nil, consOp_some, List.getElem?_toArray, List.getElem?_cons_succ, List.getElem?_cons_zero]
        repeat (first | go_big_quiet_step (fail) | quiet_step (fail))
        refine wpQuiet_nil ?_
        refine wpAnyH_done (by kernel_rfl) ?_ _
        go_wp2
        go_meet
        exact ⟨rfl, hst⟩
      have r0 : (y.ref == 0) = false := by simp [hr0]
      have HR := Lib.hid hr0
      clear hr0
      by_cases hv0 : yn = 0
      case pos =>
        have v0 : decide ((0 : Int) < (yn : Int)) = false := by simp [hv0]
        have v00 : decide (0 < yn) = false := by simp [hv0]
        have v01 : ¬ 0 < yn := by omega
        have HV := Lib.hid hv0
        clear hv0
        obtain rfl : sj = true := by rw [HY.out.1, HMX.out, HJ0.out, HBL.out, Bool.or_true, Bool.true_and, HLV.out, HYN.out]; simp [HR.out, HV.out]
        refine wp_region_held_drew (S := Cls w1) (by kernel_rfl) (Cls.drew w1) (fun hCl => ?_)
        refine wpAnyH_seg (fuel := 35) (by kernel_rfl) (fun _ d _ _ _ h => by cases d <;> exact h) hCl [0] _ _ _ (by kernel_rfl) (by kernel_rfl) ?_
        simp only [opsOf_cons, opsOf_nil, consOp_some, List.getElem?_toArray, List.getElem?_cons_zero]
        repeat (first | go_big_quiet_step (fail) | quiet_step (fail))
        refine wpQuiet_nil ?_
        refine wpAnyH_each (fuel := 34) [1] (by kernel_rfl) (by simp) (by kernel_rfl) ?_
        refine Each.cons _ rfl (fun K' hK => ?_) Each.nil
        go_simp
        refine (KM.out _ (HQ.out.2.2.2.1.step hCl.below).v).mono ?_
        rintro e z1 ⟨rfl, hb⟩
        have hst := below_step hCl.below hCl.below.size hb
        clear hb
        have hCl := Cls.of hst
        refine hK.out (Cls w1) (fun _ h => h) hCl ?_
        clear hK K'
        refine wpAnyH_seg (fuel := 20) (by kernel_rfl) (fun _ d _ _ _ h => by cases d <;> exact h) hCl [2, 3, 4, 5, 6, 7, 8, 9, 10, 11, 12, 13, 14, 15] _ _ _ (by kernel_rfl) (by kernel_rfl) ?_
        simp only [opsOf_cons, opsOf_nil, consOp_some, List.getElem?_toArray, List.getElem?_cons_succ, List.getElem?_cons_zero]
        repeat (first | go_big_quiet_step (fail) | quiet_step (fail))
        refine wpQuiet_nil ?_
        refine wpAnyH_each (fuel := 19) [16] (by kernel_rfl) (by simp) (by kernel_rfl) ?_
        refine Each.cons _ rfl (fun K' hK => ?_) Each.nil
        go_simp
        refine (KL.out _).mono ?_
        rintro e z2 ⟨rfl, hb⟩
        have hst := below_step hCl.below hCl.below.size hb
        clear hb
        have hCl := Cls.of hst
        refine hK.out (Cls w1) (fun _ h => h) hCl ?_
        clear hK K'
        refine wpAnyH_seg (fuel := 0) (by kernel_rfl) (fun _ d _ _ _ h => by cases d <;> exact h) hCl [17, 18, 19, 20, 21, 22, 23, 24, 25, 26, 27, 28, 29, 30, 31, 32, 33, 34, 35] _ _ _ (by kernel_rfl) (by kernel_rfl) ?_
        simp only [opsOf_cons, opsOf_nil, consOp_some, List.getElem?_toArray, List.getElem?_cons_succ, List.getElem?_cons_zero]
        repeat (first | go_big_quiet_step (fail) | quiet_step (fail))
        refine wpQuiet_nil ?_
        refine wpAnyH_done (by kernel_rfl) ?_ _
        go_wp2
        go_meet
        exact ⟨rfl, hst⟩
      have v0 : decide ((0 : Int) < (yn : Int)) = true := by simp; omega
      have v00 : decide (0 < yn) = true := by simp; omega
      have v01 : 0 < yn := by omega
      have HV := Lib.hid hv0
      clear hv0
      obtain rfl : sj = false := by rw [HY.out.1, HMX.out, HJ0.out, HBL.out, Bool.or_true, Bool.true_and, HLV.out, HYN.out]; simp [HR.out, HV.out]
      refine wp_region_held_drew (S := Cls w1) (by kernel_rfl) (Cls.drew w1) (fun hCl => ?_)
      refine wpAnyH_seg (fuel := 35) (by kernel_rfl) (fun _ d _ _ _ h => by cases d <;> exact h) hCl [0] _ _ _ (by kernel_rfl) (by kernel_rfl) ?_
      simp only [opsOf_cons, opsOf_nil, consOp_some, List.getElem?_toArray, List.getElem?_cons_zero]
      repeat (first | go_big_quiet_step (fail) | quiet_step (fail))
      refine wpQuiet_nil ?_
      refine wpAnyH_each (fuel := 34) [1] (by kernel_rfl) (by simp) (by kernel_rfl) ?_
      refine Each.cons _ rfl (fun K' hK => ?_) Each.nil
      go_simp
      refine (KM.out _ (HQ.out.2.2.2.1.step hCl.below).v).mono ?_
      rintro e z1 ⟨rfl, hb⟩
      have hst := below_step hCl.below hCl.below.size hb
      clear hb
      have hCl := Cls.of hst
      refine hK.out (Cls w1) (fun _ h => h) hCl ?_
      clear hK K'
      refine wpAnyH_seg (fuel := 20) (by kernel_rfl) (fun _ d _ _ _ h => by cases d <;> exact h) hCl [2, 3, 4, 5, 6, 7, 8, 9, 10, 11, 12, 13, 14, 15] _ _ _ (by kernel_rfl) (by kernel_rfl) ?_
      simp only [opsOf_cons, opsOf_nil, consOp_some, List.getElem?_toArray, List.getElem?_cons_succ, List.getElem?_cons_zero]
      repeat (first | go_big_quiet_step (fail) | quiet_step (fail))
      refine wpQuiet_nil ?_
      refine wpAnyH_each (fuel := 19) [16] (by kernel_rfl) (by simp) (by kernel_rfl) ?_
      refine Each.cons _ rfl (fun K' hK => ?_) Each.nil
      go_simp
      refine (KL.out _).mono ?_
      rintro e z2 ⟨rfl, hb⟩
      have hst := below_step hCl.below hCl.below.size hb
      clear hb
      have hCl := Cls.of hst
      refine hK.out (Cls w1) (fun _ h => h) hCl ?_
      clear hK K'
      refine wpAnyH_seg (fuel := 0) (by kernel_rfl) (fun _ d _ _ _ h => by cases d <;> exact h) hCl [17, 18, 19, 20, 21, 22, 23, 24, 25, 26, 27, 28, 29, 30, 31, 32, 33, 34, 35] _ _ _ (by kernel_rfl) (by kernel_rfl) ?_
      simp only [opsOf_cons, opsOf_nil, consOp_some, List.getElem?_toArray, List.getElem?_cons_succ, List.getElem?_cons_zero]
      repeat (first | go_big_quiet_step (fail) | quiet_step (fail))
      refine wpQuiet_nil ?_
      refine wpAnyH_done (by kernel_rfl) ?_ _
      go_wp2
      go_meet
      exact ⟨rfl, hst⟩
    case rest =>
    obtain ⟨rfl, hst⟩ := hcut
    obtain ⟨wn, hwn⟩ := named_w hst
    subst hwn
    obtain ⟨wq, hwn⟩ : ∃ v, v = wn := ⟨_, rfl⟩
    subst hwn
    clear c_q_n0 c_q_n1 c_q_y0 c_q_y1 c_q_y2 c_q_y3 c_q_y4
    obtain ⟨q_n, S_n, hW, B_y, q_y, hB⟩ := HQ.out
    clear HQ
    have sz_wq : w1.heap.size ≤ wq.heap.size := hst.size
    replace q_n := q_n.step hst
    replace S_n := S_n.step hst
    replace hW := hW.step hst
    replace B_y := B_y.step hst
    replace q_y := q_y.step hst
    replace hB := hB.step hst
    clear hst
    have HQ := Lib.hid (And.intro q_n (And.intro S_n (And.intro hW (And.intro B_y (And.intro q_y hB)))))
    clear q_n S_n hW B_y q_y hB
    have c_q_n0 := LK.cell HQ.out.1 0
    have c_q_n1 := LK.cell HQ.out.1 1
    simp at c_q_n0 c_q_n1
    cases sj
    case false =>
      have hm := HY.out.2.2.2.1 rfl
      subst hm
      go_wp2
      go_ret
      exact ⟨rfl, HQ.out.2.2.2.2.2⟩
    have hal2 := fun m (hm : m < j + 1) => (Nat.lt_succ_iff_lt_or_eq.1 hm).elim (HALL.out m) (fun e => e ▸ HY.out.2.2.2.2)
    have HA2 := Lib.hid hal2
    clear hal2
    go_wp2
    go_roundw
    case rel => exact ⟨j + 1, by omega, by go_num, HA2.out, HQ.out.2.2.1⟩
    case measure => simp [intOf]; omega
  obtain rfl : j = its.length := by omega
  have hm := HN.out.2.1 (by omega) h6l (by omega) HZ.out.2 HALL.out
  subst hm
  go_wp2
  go_ret
  exact ⟨rfl, HQ.out.2.2.2⟩

end Go.Proofs.Ythealkfpflkipaa

