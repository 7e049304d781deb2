/- DropDoes: the words and contracts, part 9. -/
import Derived.Test.YtkfgegdnpinbdaaDropDoesQ1
import Derived.Test.YtkfgegdnpinbdaaDropDoesQ2
import Derived.Test.YtkfgegdnpinbdaaDropDoesQ3
import Derived.Test.YtkfgegdnpinbdaaDropDoesQ4
import Derived.Test.YtkfgegdnpinbdaaDropDoesQ5
import Derived.Test.YtkfgegdnpinbdaaDropDoesQ6
import Derived.Test.YtkfgegdnpinbdaaDropDoesQ7
import Derived.Test.YtkfgegdnpinbdaaDropDoesQ8
import Derived.WalkKit
import Derived.WalkLawsBesides
import Derived.WalkSpells
import Derived.Lib.Hide
import Derived.Laws.Rows
import Derived.Laws.AppendOwnNone
import Derived.Maps.AppendAt
import Derived.ProofKit
import Derived.Deep.Slices
import Derived.WideShapes
import Derived.RangeFuncNested
import Derived.RangeFuncBound
import Derived.RangeFuncCalls
import Derived.RangeFuncLeaves
import Derived.RangeFuncBox
import Derived.Shelf.Abstract
import Derived.Shelf.RegionOpen
import Derived.OwnWalkIn
import Derived.TacticsInMore
import Derived.LoopNIn
import Derived.LoopIn
import Derived.Lib.AppendZerosOnto
import Derived.Lib.SliceRun
import Derived.Lib.Walk
import Derived.Deep.LoopGhost
import Derived.Laws.CopyOwn
import Derived.Laws.CopyRow
import Derived.OrdersHeld
import Derived.Deep.QuietTactic
import Derived.BigQuiet
import Derived.StillTailTactics
import Derived.OpenShut
import Derived.Deep.DeepCutAuto
import Derived.Deep.RegionHeld
import Derived.Laws.MakeOwn
import Derived.KernelRfl
namespace Go.Proofs.Ytkfgegdnpinbdaa
open Go.RowKit

theorem Sl.cellW {α : Type} {r : Rd α} {w : World} {lo hi b off n c : Nat} {l : List α} (h : Sl r w lo hi (.slice (some ⟨b, off, none⟩) n c) l) (i : Nat) (x : α) (hx : l[i]? = some x) : r.R w lo hi x (fun j => w.cell? ⟨b, off + i * r.n + j, none⟩) := by
  obtain ⟨a, c', e, h1, h2, h3, h4⟩ := h
  cases e
  obtain ⟨b', off', ea, _, _, hc⟩ := h3 (by have := (List.getElem?_eq_some_iff.1 hx).1; omega)
  cases ea
  exact hc i x hx
set_option maxRecDepth 100000 in
set_option maxHeartbeats 4000000 in
theorem rnmay_any (n : NodeL) (u_n : Value) (w : World) (h_n : Sl rItem w 0 w.heap.size u_n n.items) :
    Calls Try.prog 64 #[.agg #[.int .i64 n.level, u_n]] w fun e w' => e = .returned (.bool (mayN n)) ∧ Below w.heap.size w w' := by
  obtain ⟨lv, its⟩ := n
  simp only at h_n ⊢
  obtain ⟨a_n, c_n, rfl, g_n, gm_n, -, -⟩ := id h_n
  unfold maxLen at gm_n
  have hst := ((Below.refl w.heap.size w).alloc (Nat.le_refl _) (.cells #[.int .i64 lv, .slice a_n its.length c_n] 47))
  have q_n := LK.new w (.cells #[.int .i64 lv, .slice a_n its.length c_n] 47)
  have hB : LW w _ := hst
  have S_n := (LS.of h_n (Nat.le_refl _)).step hst
  have sz_V : w.heap.size + 0 < (w.alloc (.cells #[.int .i64 lv, .slice a_n its.length c_n] 47)).heap.size := by simp
  obtain ⟨V, hV⟩ : ∃ V, (w.alloc (.cells #[.int .i64 lv, .slice a_n its.length c_n] 47)) = V := ⟨_, rfl⟩
  rw [hV] at sz_V q_n S_n hB
  clear hst h_n
  have HQ := Lib.hid (And.intro q_n (And.intro S_n hB))
  clear q_n S_n hB
  have c_q_n0 := LK.cell HQ.out.1 0
  have c_q_n1 := LK.cell HQ.out.1 1
  simp at c_q_n0 c_q_n1
  have hbad := fun i (hi : i < its.length) (h : stepN ⟨lv, its⟩ i = false) => mayN_bad (n := ⟨lv, its⟩) hi h
  have hyes := fun h0 h1 h2 h3 h => mayN_yes (n := ⟨lv, its⟩) h0 h1 h2 h3 h
  have hno : (lv < 0 ∨ 6 ≤ lv ∨ 5 < its.length ∨ (0 < lv ∧ its.length = 0)) → mayN ⟨lv, its⟩ = false := fun h => by
    rw [Bool.eq_false_iff]
    intro e
    obtain ⟨⟨h1, h2⟩, h3, h4, -⟩ := mayN_all e
    simp only at h1 h2 h3 h4
    omega
  have hstp : ∀ i, stepN ⟨lv, its⟩ i = (mayI (its.getD i nokI) && (i == 0 || lessK (its.getD (i - 1) nokI).key (its.getD i nokI).key) && (decide (lv ≤ 0) || (decide ((its.getD i nokI).ref ≠ 0) && (its.getD i nokI).val.length == 0))) := fun _ => rfl
  have k_m := fun (x : ItemL) v V hh => rmay_any x v V hh
  have k_l := fun (x y : ItemL) V => rless_any x.key y.key V
  simp only [keyV, itemV, bV, wV] at k_m k_l
  simp only at hbad hyes hno hstp
  generalize mayN ⟨lv, its⟩ = mn at *
  have HN := Lib.hid (And.intro hbad (And.intro hyes (And.intro hno hstp)))
  clear hbad hyes hno hstp
  have HC := Lib.hid (And.intro k_m k_l)
  clear k_m k_l
  go_enter Try.func64, Try.ntmps64
  go_upto_region 1 with (fail)
  clear hV
  by_cases h0 : lv < 0
  case pos =>
    have hm := HN.out.2.2.1 (by omega)
    subst hm
    go_wp2
    go_ret
    exact ⟨rfl, HQ.out.2.2⟩
  by_cases h6 : 6 ≤ lv
  case pos =>
    have hm := HN.out.2.2.1 (by omega)
    subst hm
    go_wp2
    go_ret
    exact ⟨rfl, HQ.out.2.2⟩
  have h6l : lv < 6 := by omega
  by_cases h5 : 5 < its.length
  case pos =>
    have hm := HN.out.2.2.1 (by omega)
    subst hm
    have i5 : (5 : Int) < its.length := by omega
    go_wp2
    go_ret
    exact ⟨rfl, HQ.out.2.2⟩
  have i5 : ¬ (5 : Int) < its.length := by omega
  by_cases hz : 0 < lv ∧ its.length = 0
  case pos =>
    obtain ⟨hz1, hz2⟩ := hz
    have i6 : its = [] := List.eq_nil_of_length_eq_zero hz2
    subst i6
    have hm := HN.out.2.2.1 (by omega)
    subst hm
    go_wp2
    go_ret
    exact ⟨rfl, HQ.out.2.2⟩
  obtain ⟨ab, hab⟩ : ∃ ab, decide (0 < lv) = ab := ⟨_, rfl⟩
  have HAB := Lib.hid hab
  have hze : ab = true → ((its.length : Int) == 0) = false ∧ ¬ its = [] := fun h => by
    have h1 : 0 < lv := of_decide_eq_true (hab.trans h)
    have h2 : ¬ its.length = 0 := fun e => hz ⟨h1, e⟩
    exact ⟨by rw [beq_eq_false_iff_ne]; omega, fun e => h2 (by rw [e]; rfl)⟩
  have hloop : lv ≤ 0 ∨ its.length ≠ 0 := by
    rcases Decidable.em (0 < lv) with h | h
    · exact .inr fun e => hz ⟨h, e⟩
    · exact .inl (by omega)
  have HZ := Lib.hid (And.intro hz hloop)
  clear hz hloop
  go_upto_region 1 with (fail)
  go_cut [29] (fun t wx => t = .bool false ∧ V = wx)
  case first =>
    cases ab
    case false =>
      go_wp2
      go_meet
      exact ⟨rfl, rfl⟩
    obtain ⟨hz1, hz2⟩ := hze rfl
    go_wp2
    go_meet
    exact ⟨rfl, rfl⟩
  case rest =>
  obtain ⟨rfl, hwx⟩ := hcut
  subst hwx
  clear hze
  go_wp2_with fail
  go_loopw [3] (fun i wr => ∃ j : Nat, j ≤ its.length ∧ i = .int .i64 j ∧ (∀ m, m < j → stepN ⟨lv, its⟩ m = true) ∧ Below V.heap.size V wr) (fun i _ => its.length - (intOf i).toNat)
  case atStart => exact ⟨0, Nat.zero_le _, rfl, fun m hm => absurd hm (Nat.not_lt_zero _), Below.refl _ _⟩
  case round =>
  obtain ⟨j, hj, rfl, hall, hst⟩ := hrel
  clear c_q_n0 c_q_n1
  obtain ⟨q_n, S_n, hB⟩ := HQ.out
  clear HQ
  replace q_n := q_n.step hst
  replace S_n := S_n.step hst
  replace hB := hB.step hst
  have sz_wr := hst.size
  have hW : LW V wr := hst
  clear hst
  have HALL := Lib.hid hall
  clear hall
  have HQ := Lib.hid (And.intro q_n (And.intro S_n (And.intro hW hB)))
  clear q_n S_n hW hB
  have c_q_n0 := LK.cell HQ.out.1 0
  have c_q_n1 := LK.cell HQ.out.1 1
  simp at c_q_n0 c_q_n1
  by_cases hlt : j < its.length
  case pos =>
    obtain ⟨bb, bo, cb, e1, -, zb, -, zc, -⟩ := Sl.at_ HQ.out.2.1.v (by omega)
    injection e1 with e1 _ e2
    subst e1 e2
    unfold maxLen at zc
    have hyl := get_l its nokI j hlt
    have hxl := get_l its nokI (j - 1) (by omega)
    have hs := HN.out.2.2.2 j
    have hbd := HN.out.1 j hlt
    obtain ⟨y, hy⟩ : ∃ y, its.getD j nokI = y := ⟨_, rfl⟩
    obtain ⟨x, hx⟩ : ∃ x, its.getD (j - 1) nokI = x := ⟨_, rfl⟩
    rw [hy] at hs hyl
    rw [hx] at hs hxl
    obtain ⟨sj, hsj⟩ : ∃ q, stepN ⟨lv, its⟩ j = q := ⟨_, rfl⟩
    rw [hsj] at hs hbd
    have HY := Lib.hid (And.intro hs (And.intro hyl (And.intro hxl (And.intro hbd hsj))))
    clear hs hyl hxl hx hy hbd hsj
    have i6 : (j : Int) < its.length := by omega
    have i7 : ¬ (its.length : Int) ≤ j := by omega
    obtain ⟨f0, f1, f2, f3, -, fv, f4, fb⟩ := Sl.cellW HQ.out.2.1.v j _ HY.out.2.1
    have hn5 : rItem.n = 5 := rfl
    rw [hn5] at f0 f1 f2 f3 f4
    simp only [bV, wV, Nat.add_zero] at f0 f1 f2
    clear hn5
    obtain ⟨yn, hyn⟩ : ∃ n, y.val.length = n := ⟨_, rfl⟩
    obtain ⟨fa, fc, rfl, -, fcm⟩ := fb.form hyn
    unfold maxLen at fcm
    have B_y := LB.of fb (Nat.le_refl _)
    have HYN := Lib.hid hyn
    clear fb hyn
    clear c_q_n0 c_q_n1
    obtain ⟨q_n, S_n, hW, hB⟩ := HQ.out
    clear HQ
    have HQ := Lib.hid (And.intro q_n (And.intro S_n (And.intro hW (And.intro B_y hB))))
    clear q_n S_n hW B_y hB
    have c_q_n0 := LK.cell HQ.out.1 0
    have c_q_n1 := LK.cell HQ.out.1 1
    simp at c_q_n0 c_q_n1
    go_upto_region 7 with (fail)
    clear c_q_n0 c_q_n1
    obtain ⟨q_n, S_n, hW, B_y, hB⟩ := HQ.out
    clear HQ
    have hst := (Below.refl wr.heap.size wr).alloc (Nat.le_refl _) (.cells #[.int .u8 (y.key.kind.toNat : Int), .int .u32 (y.key.id.toNat : Int), .int .u32 (y.key.off.toNat : Int), .int .i64 y.ref, .slice fa yn fc] 97)
    have hlt : wr.heap.size < (wr.alloc (.cells #[.int .u8 (y.key.kind.toNat : Int), .int .u32 (y.key.id.toNat : Int), .int .u32 (y.key.off.toNat : Int), .int .i64 y.ref, .slice fa yn fc] 97)).heap.size := by simp
    have q_y := LK.new wr (.cells #[.int .u8 (y.key.kind.toNat : Int), .int .u32 (y.key.id.toNat : Int), .int .u32 (y.key.off.toNat : Int), .int .i64 y.ref, .slice fa yn fc] 97)
    replace q_n := q_n.step hst
    replace S_n := S_n.step hst
    replace hW := hW.step hst
    replace B_y := B_y.step hst
    replace hB := hB.step hst
    obtain ⟨w1, hw⟩ : ∃ v, wr.alloc (.cells #[.int .u8 (y.key.kind.toNat : Int), .int .u32 (y.key.id.toNat : Int), .int .u32 (y.key.off.toNat : Int), .int .i64 y.ref, .slice fa yn fc] 97) = v := ⟨_, rfl⟩
    rw [hw] at hlt q_y q_n S_n hW B_y hB ⊢
    clear hw hst
    have sz_w1 := hlt
    clear hlt
    have HQ := Lib.hid (And.intro q_n (And.intro S_n (And.intro hW (And.intro B_y (And.intro q_y hB)))))
    clear q_n S_n hW B_y q_y hB
    have c_q_n0 := LK.cell HQ.out.1 0
    have c_q_n1 := LK.cell HQ.out.1 1
    have c_q_y0 := LK.cell HQ.out.2.2.2.2.1 0
    have c_q_y1 := LK.cell HQ.out.2.2.2.2.1 1
    have c_q_y2 := LK.cell HQ.out.2.2.2.2.1 2
    have c_q_y3 := LK.cell HQ.out.2.2.2.2.1 3
    have c_q_y4 := LK.cell HQ.out.2.2.2.2.1 4
    simp at c_q_n0 c_q_n1 c_q_y0 c_q_y1 c_q_y2 c_q_y3 c_q_y4
    clear f0 f1 f2 f3 f4
    have km := HC.out.1 y (.slice fa yn fc)
    obtain ⟨mx, hmx⟩ : ∃ q, mayI y = q := ⟨_, rfl⟩
    rw [hmx] at km
    have KM := Lib.hid km
    have HMX := Lib.hid hmx
    clear km hmx
    go_cut [77] (fun t wx => t = .bool (!sj) ∧ Below w1.heap.size w1 wx)
    case first =>
      clear c_q_n0 c_q_n1 c_q_y0 c_q_y1 c_q_y2 c_q_y3 c_q_y4
      have x_q_n0 := fun X => LK.cell (HQ.out.1.step (aft_below w1 X)) 0
      have x_q_n1 := fun X => LK.cell (HQ.out.1.step (aft_below w1 X)) 1
      have x_q_y0 := fun X => LK.cell (HQ.out.2.2.2.2.1.step (aft_below w1 X)) 0
      have x_q_y1 := fun X => LK.cell (HQ.out.2.2.2.2.1.step (aft_below w1 X)) 1
      have x_q_y2 := fun X => LK.cell (HQ.out.2.2.2.2.1.step (aft_below w1 X)) 2
      have x_q_y3 := fun X => LK.cell (HQ.out.2.2.2.2.1.step (aft_below w1 X)) 3
      have x_q_y4 := fun X => LK.cell (HQ.out.2.2.2.2.1.step (aft_below w1 X)) 4
      simp at x_q_n0 x_q_n1 x_q_y0 x_q_y1 x_q_y2 x_q_y3 x_q_y4
      cases mx
      case false =>
        obtain rfl : sj = false := by rw [HY.out.1, HMX.out]; rfl
        refine wp_region_held_drew (S := Cls w1) (by kernel_rfl) (Cls.drew w1) (fun hCl => ?_)
        refine wpAnyH_seg (fuel := 35) (by kernel_rfl) (fun _ d _ _ _ h => by cases d <;> exact h) hCl [0] _ _ _ (by kernel_rfl) (by kernel_rfl) ?_
        simp only [opsOf_cons, opsOf_nil, consOp_some, List.getElem?_toArray, List.getElem?_cons_zero]
        repeat (first | go_big_quiet_step (fail) | quiet_step (fail))
        refine wpQuiet_nil ?_
        refine wpAnyH_each (fuel := 34) [1] (by kernel_rfl) (by simp) (by kernel_rfl) ?_
        refine Each.cons _ rfl (fun K' hK => ?_) Each.nil
        go_simp
        refine (KM.out _ (HQ.out.2.2.2.1.step hCl.below).v).mono ?_
        rintro e z1 ⟨rfl, hb⟩
        have hst := below_step hCl.below hCl.below.size hb
        clear hb
        have hCl := Cls.of hst
        refine hK.out (Cls w1) (fun _ h => h) hCl ?_
        clear hK K'
        refine wpAnyH_seg (fuel := 20) (by kernel_rfl) (fun _ d _ _ _ h => by cases d <;> exact h) hCl [2, 3, 4, 5, 6, 7, 8, 9, 10, 11, 12, 13, 14, 15] _ _ _ (by kernel_rfl) (by kernel_rfl) ?_
        simp only [opsOf_cons, opsOf_nil, consOp_some, List.getElem?_toArray, List.getElem?_cons_succ, List.getElem?_cons_zero]
        repeat (first | go_big_quiet_step (fail) | quiet_step (fail))
        refine wpQuiet_nil ?_
        refine wpAnyH_each (fuel := 19) [16] (by kernel_rfl) (by simp) (by kernel_rfl) ?_
        refine Each.cons _ rfl (fun K' hK => ?_) Each.nil
        go_simp
        have hst := hCl.below
        have hCl := Cls.of hst
        refine hK.out (Cls w1) (fun _ h => h) hCl ?_
        clear hK K'
        refine wpAnyH_seg (fuel := 0) (by kernel_rfl) (fun _ d _ _ _ h => by cases d <;> exact h) hCl [17, 18, 19, 20, 21, 22, 23, 24, 25, 26, 27, 28, 29, 30, 31, 32, 33, 34, 35] _ _ _ (by kernel_rfl) (by kernel_rfl) ?_
        simp only [opsOf_cons, opsOf_nil, consOp_some, List.getElem?_toArray, List.getElem?_cons_succ, List.getElem?_cons_zero]
        repeat (first | go_big_quiet_step (fail) | quiet_step (fail))
        refine wpQuiet_nil ?_
        refine wpAnyH_done (by kernel_rfl) ?_ _
        go_wp2
        go_meet
        exact ⟨rfl, hst⟩
      by_cases hj0 : j = 0
      case pos =>
        have e0 : decide ((0 : Int) < (j : Int)) = false := by simp [hj0]
        have e00 : decide (0 < j) = false := by simp [hj0]
        have e01 : ¬ 0 < j := by omega
        have hj0b : (j == 0) = true := by simp [hj0]
        have HJ0 := Lib.hid hj0b
        clear hj0 hj0b
        cases ab
        case false =>
          have hlv : decide (lv ≤ 0) = true := by
            have := of_decide_eq_false HAB.out
            exact decide_eq_true (by omega)
          have HLV := Lib.hid hlv
          clear hlv
          obtain rfl : sj = true := by rw [HY.out.1, HMX.out, HJ0.out, Bool.true_or, Bool.true_and, HLV.out]; rfl
          refine wp_region_held_drew (S := Cls w1) (by kernel_rfl) (Cls.drew w1) (fun hCl => ?_)
          refine wpAnyH_seg (fuel := 35) (by kernel_rfl) (fun _ d _ _ _ h => by cases d <;> exact h) hCl [0] _ _ _ (by kernel_rfl) (by kernel_rfl) ?_
          simp only [opsOf_cons, opsOf_nil, consOp_some, List.getElem?_toArray, List.getElem?_cons_zero]
          repeat (first | go_big_quiet_step (fail) | quiet_step (fail))
          refine wpQuiet_nil ?_
          refine wpAnyH_each (fuel := 34) [1] (by kernel_rfl) (by simp) (by kernel_rfl) ?_
          refine Each.cons _ rfl (fun K' hK => ?_) Each.nil
          go_simp
          refine (KM.out _ (HQ.out.2.2.2.1.step hCl.below).v).mono ?_
          rintro e z1 ⟨rfl, hb⟩
          have hst := below_step hCl.below hCl.below.size hb
          clear hb
          have hCl := Cls.of hst
          refine hK.out (Cls w1) (fun _ h => h) hCl ?_
          clear hK K'
          refine wpAnyH_seg (fuel := 20) (by kernel_rfl) (fun _ d _ _ _ h => by cases d <;> exact h) hCl [2, 3, 4, 5, 6, 7, 8, 9, 10, 11, 12, 13, 14, 15] _ _ _ (by kernel_rfl) (by kernel_rfl) ?_
          simp only [opsOf_cons, opsOf_nil, consOp_some, List.getElem?_toArray, List.getElem?_cons_succ, List.getElem?_cons_zero]
          repeat (first | go_big_quiet_step (fail) | quiet_step (fail))
          refine wpQuiet_nil ?_
          refine wpAnyH_each (fuel := 19) [16] (by kernel_rfl) (by simp) (by kernel_rfl) ?_
          refine Each.cons _ rfl (fun K' hK => ?_) Each.nil
          go_simp
          have hst := hCl.below
          have hCl := Cls.of hst
          refine hK.out (Cls w1) (fun _ h => h) hCl ?_
          clear hK K'
          refine wpAnyH_seg (fuel := 0) (by kernel_rfl) (fun _ d _ _ _ h => by cases d <;> exact h) hCl [17, 18, 19, 20, 21, 22, 23, 24, 25, 26, 27, 28, 29, 30, 31, 32, 33, 34, 35] _ _ _ (by kernel_rfl) (by kernel_rfl) ?_
          simp only [opsOf_cons, opsOf_nil, consOp_some, List.getElem?_toArray, List.getElem?_cons_succ, List.getElem?_cons_zero]
          repeat (first | go_big_quiet_step (fail) | quiet_step (fail))
          refine wpQuiet_nil ?_
          refine wpAnyH_done (by kernel_rfl) ?_ _
          go_wp2
          go_meet
          exact ⟨rfl, hst⟩
        have hlv : decide (lv ≤ 0) = false := by
          have := of_decide_eq_true HAB.out
          exact decide_eq_false (by omega)
        have HLV := Lib.hid hlv
        clear hlv
        by_cases hr0 : y.ref = 0
        case pos =>
          have r0 : (y.ref == 0) = true := by simp [hr0]
          have HR := Lib.hid hr0
          clear hr0
          obtain rfl : sj = false := by rw [HY.out.1, HMX.out, HJ0.out, Bool.true_or, Bool.true_and, HLV.out, HR.out]; simp
          refine wp_region_held_drew (S := Cls w1) (by kernel_rfl) (Cls.drew w1) (fun hCl => ?_)
          refine wpAnyH_seg (fuel := 35) (by kernel_rfl) (fun _ d _ _ _ h => by cases d <;> exact h) hCl [0] _ _ _ (by kernel_rfl) (by kernel_rfl) ?_
          simp only [opsOf_cons, opsOf_nil, consOp_some, List.getElem?_toArray, List.getElem?_cons_zero]
          repeat (first | go_big_quiet_step (fail) | quiet_step (fail))
          refine wpQuiet_nil ?_
          refine wpAnyH_each (fuel := 34) [1] (by kernel_rfl) (by simp) (by kernel_rfl) ?_
          refine Each.cons _ rfl (fun K' hK => ?_) Each.nil
          go_simp
          refine (KM.out _ (HQ.out.2.2.2.1.step hCl.below).v).mono ?_
          rintro e z1 ⟨rfl, hb⟩
          have hst := below_step hCl.below hCl.below.size hb
          clear hb
          have hCl := Cls.of hst
          refine hK.out (Cls w1) (fun _ h => h) hCl ?_
          clear hK K'
          refine wpAnyH_seg (fuel := 20) (by kernel_rfl) (fun _ d _ _ _ h => by cases d <;> exact h) hCl [2, 3, 4, 5, 6, 7, 8, 9, 10, 11, 12, 13, 14, 15] _ _ _ (by kernel_rfl) (by kernel_rfl) ?_
          simp only [opsOf_cons, opsOf_nil, consOp_some, List.getElem?_toArray, List.getElem?_cons_succ, List.getElem?_cons_zero]
          repeat (first | go_big_quiet_step (fail) | quiet_step (fail))
          refine wpQuiet_nil ?_
          refine wpAnyH_each (fuel := 19) [16] (by kernel_rfl) (by simp) (by kernel_rfl) ?_
          refine Each.cons _ rfl (fun K' hK => ?_) Each.nil
          go_simp
          have hst := hCl.below
          have hCl := Cls.of hst
          refine hK.out (Cls w1) (fun _ h => h) hCl ?_
          clear hK K'
          refine wpAnyH_seg (fuel := 0) (by kernel_rfl) (fun _ d _ _ _ h => by cases d <;> exact h) hCl [17, 18, 19, 20, 21, 22, 23, 24, 25, 26, 27, 28, 29, 30, 31, 32, 33, 34, 35] _ _ _ (by kernel_rfl) (by kernel_rfl) ?_
          simp only [opsOf_cons, opsOf_nil, consOp_some, List.getElem?_toArray, List.getElem?_cons_succ, List.getElem?_cons_zero]
          repeat (first | go_big_quiet_step (fail) | quiet_step (fail))
          refine wpQuiet_nil ?_
          refine wpAnyH_done (by kernel_rfl) ?_ _
          go_wp2
          go_meet
          exact ⟨rfl, hst⟩
        have r0 : (y.ref == 0) = false := by simp [hr0]
        have HR := Lib.hid hr0
        clear hr0
        by_cases hv0 : yn = 0
        case pos =>
          have v0 : decide ((0 : Int) < (yn : Int)) = false := by simp [hv0]
          have v00 : decide (0 < yn) = false := by simp [hv0]
          have v01 : ¬ 0 < yn := by omega
          have HV := Lib.hid hv0
          clear hv0
          obtain rfl : sj = true := by rw [HY.out.1, HMX.out, HJ0.out, Bool.true_or, Bool.true_and, HLV.out, HYN.out]; simp [HR.out, HV.out]
          refine wp_region_held_drew (S := Cls w1) (by kernel_rfl) (Cls.drew w1) (fun hCl => ?_)
          refine wpAnyH_seg (fuel := 35) (by kernel_rfl) (fun _ d _ _ _ h => by cases d <;> exact h) hCl [0] _ _ _ (by kernel_rfl) (by kernel_rfl) ?_
          simp only [opsOf_cons, opsOf_nil, consOp_some, List.getElem?_toArray, List.getElem?_cons_zero]
          repeat (first | go_big_quiet_step (fail) | quiet_step (fail))
          refine wpQuiet_nil ?_
          refine wpAnyH_each (fuel := 34) [1] (by kernel_rfl) (by simp) (by kernel_rfl) ?_
          refine Each.cons _ rfl (fun K' hK => ?_) Each.nil
          go_simp
          refine (KM.out _ (HQ.out.2.2.2.1.step hCl.below).v).mono ?_
          rintro e z1 ⟨rfl, hb⟩
          have hst := below_step hCl.below hCl.below.size hb
          clear hb
          have hCl := Cls.of hst
          refine hK.out (Cls w1) (fun _ h => h) hCl ?_
          clear hK K'
          refine wpAnyH_seg (fuel := 20) (by kernel_rfl) (fun _ d _ _ _ h => by cases d <;> exact h) hCl [2, 3, 4, 5, 6, 7, 8, 9, 10, 11, 12, 13, 14, 15] _ _ _ (by kernel_rfl) (by kernel_rfl) ?_
          simp only [opsOf_cons, opsOf_nil, consOp_some, List.getElem?_toArray, List.getElem?_cons_succ, List.getElem?_cons_zero]
          repeat (first | go_big_quiet_step (fail) | quiet_step (fail))
          refine wpQuiet_nil ?_
          refine wpAnyH_each (fuel := 19) [16] (by kernel_rfl) (by simp) (by kernel_rfl) ?_
          refine Each.cons _ rfl (fun K' hK => ?_) Each.nil
          go_simp
          have hst := hCl.below
          have hCl := Cls.of hst
          refine hK.out (Cls w1) (fun _ h => h) hCl ?_
          clear hK K'
          refine wpAnyH_seg (fuel := 0) (by kernel_rfl) (fun _ d _ _ _ h => by cases d <;> exact h) hCl [17, 18, 19, 20, 21, 22, 23, 24, 25, 26, 27, 28, 29, 30, 31, 32, 33, 34, 35] _ _ _ (by kernel_rfl) (by kernel_rfl) ?_
          simp only [opsOf_cons, opsOf_nil, consOp_some, List.getElem?_toArray, List.getElem?_cons_succ, List.getElem?_cons_zero]
          repeat (first | go_big_quiet_step (fail) | quiet_step (fail))
          refine wpQuiet_nil ?_
          refine wpAnyH_done (by kernel_rfl) ?_ _
          go_wp2
          go_meet
          exact ⟨rfl, hst⟩
        have v0 : decide ((0 : Int) < (yn : Int)) = true := by simp; omega
        have v00 : decide (0 < yn) = true := by simp; omega
        have v01 : 0 < yn := by omega
        have HV := Lib.hid hv0
        clear hv0
        obtain rfl : sj = false := by rw [HY.out.1, HMX.out, HJ0.out, Bool.true_or, Bool.true_and, HLV.out, HYN.out]; simp [HR.out, HV.out]
        refine wp_region_held_drew (S := Cls w1) (by kernel_rfl) (Cls.drew w1) (fun hCl => ?_)
        refine wpAnyH_seg (fuel := 35) (by kernel_rfl) (fun _ d _ _ _ h => by cases d <;> exact h) hCl [0] _ _ _ (by kernel_rfl) (by kernel_rfl) ?_
        simp only [opsOf_cons, opsOf_nil, consOp_some, List.getElem?_toArray, List.getElem?_cons_zero]
        repeat (first | go_big_quiet_step (fail) | quiet_step (fail))
        refine wpQuiet_nil ?_
        refine wpAnyH_each (fuel := 34) [1] (by kernel_rfl) (by simp) (by kernel_rfl) ?_
        refine Each.cons _ rfl (fun K' hK => ?_) Each.nil
        go_simp
        refine (KM.out _ (HQ.out.2.2.2.1.step hCl.below).v).mono ?_
        rintro e z1 ⟨rfl, hb⟩
        have hst := below_step hCl.below hCl.below.size hb
        clear hb
        have hCl := Cls.of hst
        refine hK.out (Cls w1) (fun _ h => h) hCl ?_
        clear hK K'
        refine wpAnyH_seg (fuel := 20) (by kernel_rfl) (fun _ d _ _ _ h => by cases d <;> exact h) hCl [2, 3, 4, 5, 6, 7, 8, 9, 10, 11, 12, 13, 14, 15] _ _ _ (by kernel_rfl) (by kernel_rfl) ?_
        simp only [opsOf_cons, opsOf_nil, consOp_some, List.getElem?_toArray, List.getElem?_cons_succ, List.getElem?_cons_zero]
        repeat (first | go_big_quiet_step (fail) | quiet_step (fail))
        refine wpQuiet_nil ?_
        refine wpAnyH_each (fuel := 19) [16] (by kernel_rfl) (by simp) (by kernel_rfl) ?_
        refine Each.cons _ rfl (fun K' hK => ?_) Each.nil
        go_simp
        have hst := hCl.below
        have hCl := Cls.of hst
        refine hK.out (Cls w1) (fun _ h => h) hCl ?_
        clear hK K'
        refine wpAnyH_seg (fuel := 0) (by kernel_rfl) (fun _ d _ _ _ h => by cases d <;> exact h) hCl [17, 18, 19, 20, 21, 22, 23, 24, 25, 26, 27, 28, 29, 30, 31, 32, 33, 34, 35] _ _ _ (by kernel_rfl) (by kernel_rfl) ?_
        simp only [opsOf_cons, opsOf_nil, consOp_some, List.getElem?_toArray, List.getElem?_cons_succ, List.getElem?_cons_zero]
        repeat (first | go_big_quiet_step (fail) | quiet_step (fail))
        refine wpQuiet_nil ?_
        refine wpAnyH_done (by kernel_rfl) ?_ _
        go_wp2
        go_meet
        exact ⟨rfl, hst⟩
      have e0 : decide ((0 : Int) < (j : Int)) = true := by simp; omega
      have e00 : decide (0 < j) = true := by simp; omega
      have e01 : 0 < j := by omega
      have hj0b : (j == 0) = false := by simp [hj0]
      have HJ0 := Lib.hid hj0b
      clear hj0 hj0b
      have i9 : (j : Int) - 1 = ((j - 1 : Nat) : Int) := by omega
      have i10 : ((j - 1 : Nat) : Int) < its.length := by omega
      have i11 : ¬ (its.length : Int) ≤ ((j - 1 : Nat) : Int) := by omega
      obtain ⟨g0, g1, g2, g3, -, gv, g4, gb⟩ := Sl.cellW HQ.out.2.1.v (j - 1) _ HY.out.2.2.1
      have hn5 : rItem.n = 5 := rfl
      rw [hn5] at g0 g1 g2 g3 g4
      simp only [bV, wV, Nat.add_zero] at g0 g1 g2
      clear hn5
      clear gb g3 g4
      have zz : bb < w1.heap.size := by omega
      replace g0 := fun X => ((aft_below w1 X).cell (p := ⟨bb, bo + (j - 1) * 5, none⟩) zz).trans g0
      replace g1 := fun X => ((aft_below w1 X).cell (p := ⟨bb, bo + (j - 1) * 5 + 1, none⟩) zz).trans g1
      replace g2 := fun X => ((aft_below w1 X).cell (p := ⟨bb, bo + (j - 1) * 5 + 2, none⟩) zz).trans g2
      have kl := HC.out.2 x y
      obtain ⟨bl, hbl⟩ : ∃ q, lessK x.key y.key = q := ⟨_, rfl⟩
      rw [hbl] at kl
      have KL := Lib.hid kl
      have HBL := Lib.hid hbl
      clear kl hbl
      cases bl
      case false =>
        obtain rfl : sj = false := by rw [HY.out.1, HMX.out, HJ0.out, HBL.out]; rfl
        refine wp_region_held_drew (S := Cls w1) (by kernel_rfl) (Cls.drew w1) (fun hCl => ?_)
        refine wpAnyH_seg (fuel := 35) (by kernel_rfl) (fun _ d _ _ _ h => by cases d <;> exact h) hCl [0] _ _ _ (by kernel_rfl) (by kernel_rfl) ?_
        simp only [opsOf_cons, opsOf_nil, consOp_some, List.getElem?_toArray, List.getElem?_cons_zero]
        repeat (first | go_big_quiet_step (fail) | quiet_step (fail))
        refine wpQuiet_nil ?_
        refine wpAnyH_each (fuel := 34) [1] (by kernel_rfl) (by simp) (by kernel_rfl) ?_
        refine Each.cons _ rfl (fun K' hK => ?_) Each.nil
        go_simp
        refine (KM.out _ (HQ.out.2.2.2.1.step hCl.below).v).mono ?_
        rintro e z1 ⟨rfl, hb⟩
        have hst := below_step hCl.below hCl.below.size hb
        clear hb
        have hCl := Cls.of hst
        refine hK.out (Cls w1) (fun _ h => h) hCl ?_
        clear hK K'
        refine wpAnyH_seg (fuel := 20) (by kernel_rfl) (fun _ d _ _ _ h => by cases d <;> exact h) hCl [2, 3, 4, 5, 6, 7, 8, 9, 10, 11, 12, 13, 14, 15] _ _ _ (by kernel_rfl) (by kernel_rfl) ?_
        simp only [opsOf_cons, opsOf_nil, consOp_some, List.getElem?_toArray, List.getElem?_cons_succ, List.getElem?_cons_zero]
        repeat (first | go_big_quiet_step (fail) | quiet_step (fail))
        refine wpQuiet_nil ?_
        refine wpAnyH_each (fuel := 19) [16] (by kernel_rfl) (by simp) (by kernel_rfl) ?_
        refine Each.cons _ rfl (fun K' hK => ?_) Each.nil
        go_simp
        refine (KL.out _).mono ?_
        rintro e z2 ⟨rfl, hb⟩
        have hst := below_step hCl.below hCl.below.size hb
        clear hb
        have hCl := Cls.of hst
        refine hK.out (Cls w1) (fun _ h => h) hCl ?_
        clear hK K'
        refine wpAnyH_seg (fuel := 0) (by kernel_rfl) (fun _ d _ _ _ h => by cases d <;> exact h) hCl [17, 18, 19, 20, 21, 22, 23, 24, 25, 26, 27, 28, 29, 30, 31, 32, 33, 34, 35] _ _ _ (by kernel_rfl) (by kernel_rfl) ?_
        simp only [opsOf_cons, opsOf_nil, consOp_some, List.getElem?_toArray, List.getElem?_cons_succ, List.getElem?_cons_zero]
        repeat (first | go_big_quiet_step (fail) | quiet_step (fail))
        refine wpQuiet_nil ?_
        refine wpAnyH_done (by kernel_rfl) ?_ _
        go_wp2
        go_meet
        exact ⟨rfl, hst⟩
      cases ab
      case false =>
        have hlv : decide (lv ≤ 0) = true := by
          have := of_decide_eq_false HAB.out
          exact decide_eq_true (by omega)
        have HLV := Lib.hid hlv
        clear hlv
        obtain rfl : sj = true := by rw [HY.out.1, HMX.out, HJ0.out, HBL.out, Bool.or_true, Bool.true_and, HLV.out]; rfl
        refine wp_region_held_drew (S := Cls w1) (by kernel_rfl) (Cls.drew w1) (fun hCl => ?_)
        refine wpAnyH_seg (fuel := 35) (by kernel_rfl) (fun _ d _ _ _ h => by cases d <;> exact h) hCl [0] _ _ _ (by kernel_rfl) (by kernel_rfl) ?_
        simp only [opsOf_cons, opsOf_nil, consOp_some, List.getElem?_toArray, List.getElem?_cons_zero]
        repeat (first | go_big_quiet_step (fail) | quiet_step (fail))
        refine wpQuiet_nil ?_
        refine wpAnyH_each (fuel := 34) [1] (by kernel_rfl) (by simp) (by kernel_rfl) ?_
        refine Each.cons _ rfl (fun K' hK => ?_) Each.nil
        go_simp
        refine (KM.out _ (HQ.out.2.2.2.1.step hCl.below).v).mono ?_
        rintro e z1 ⟨rfl, hb⟩
        have hst := below_step hCl.below hCl.below.size hb
        clear hb
        have hCl := Cls.of hst
        refine hK.out (Cls w1) (fun _ h => h) hCl ?_
        clear hK K'
        refine wpAnyH_seg (fuel := 20) (by kernel_rfl) (fun _ d _ _ _ h => by cases d <;> exact h) hCl [2, 3, 4, 5, 6, 7, 8, 9, 10, 11, 12, 13, 14, 15] _ _ _ (by kernel_rfl) (by kernel_rfl) ?_
        simp only [opsOf_cons, opsOf_nil, consOp_some, List.getElem?_toArray, List.getElem?_cons_succ, List.getElem?_cons_zero]
        repeat (first | go_big_quiet_step (fail) | quiet_step (fail))
        refine wpQuiet_nil ?_
        refine wpAnyH_each (fuel := 19) [16] (by kernel_rfl) (by simp) (by kernel_rfl) ?_
        refine Each.cons _ rfl (fun K' hK => ?_) Each.nil
        go_simp
        refine (KL.out _).mono ?_
        rintro e z2 ⟨rfl, hb⟩
        have hst := below_step hCl.below hCl.below.size hb
        clear hb
        have hCl := Cls.of hst
        refine hK.out (Cls w1) (fun _ h => h) hCl ?_
        clear hK K'
        refine wpAnyH_seg (fuel := 0) (by kernel_rfl) (fun _ d _ _ _ h => by cases d <;> exact h) hCl [17, 18, 19, 20, 21, 22, 23, 24, 25, 26, 27, 28, 29, 30, 31, 32, 33, 34, 35] _ _ _ (by kernel_rfl) (by kernel_rfl) ?_
        simp only [opsOf_cons, opsOf_nil, consOp_some, List.getElem?_toArray, List.getElem?_cons_succ, List.getElem?_cons_zero]
        repeat (first | go_big_quiet_step (fail) | quiet_step (fail))
        refine wpQuiet_nil ?_
        refine wpAnyH_done (by kernel_rfl) ?_ _
        go_wp2
        go_meet
        exact ⟨rfl, hst⟩
      have hlv : decide (lv ≤ 0) = false := by
        have := of_decide_eq_true HAB.out
        exact decide_eq_false (by omega)
      have HLV := Lib.hid hlv
      clear hlv
      by_cases hr0 : y.ref = 0
      case pos =>
        have r0 : (y.ref == 0) = true := by simp [hr0]
        have HR := Lib.hid hr0
        clear hr0
        obtain rfl : sj = false := by rw [HY.out.1, HMX.out, HJ0.out, HBL.out, Bool.or_true, Bool.true_and, HLV.out, HR.out]; simp
        refine wp_region_held_drew (S := Cls w1) (by kernel_rfl) (Cls.drew w1) (fun hCl => ?_)
        refine wpAnyH_seg (fuel := 35) (by kernel_rfl) (fun _ d _ _ _ h => by cases d <;> exact h) hCl [0] _ _ _ (by kernel_rfl) (by kernel_rfl) ?_
        simp only [opsOf_cons, opsOf_nil, consOp_some, List.getElem?_toArray, List.getElem?_cons_zero]
        repeat (first | go_big_quiet_step (fail) | quiet_step (fail))
        refine wpQuiet_nil ?_
        refine wpAnyH_each (fuel := 34) [1] (by kernel_rfl) (by simp) (by kernel_rfl) ?_
        refine Each.cons _ rfl (fun K' hK => ?_) Each.nil
        go_simp
        refine (KM.out _ (HQ.out.2.2.2.1.step hCl.below).v).mono ?_
        rintro e z1 ⟨rfl, hb⟩
        have hst := below_step hCl.below hCl.below.size hb
        clear hb
        have hCl := Cls.of hst
        refine hK.out (Cls w1) (fun _ h => h) hCl ?_
        clear hK K'
        refine wpAnyH_seg (fuel := 20) (by kernel_rfl) (fun _ d _ _ _ h => by cases d <;> exact h) hCl [2, 3, 4, 5, 6, 7, 8, 9, 10, 11, 12, 13, 14, 15] _ _ _ (by kernel_rfl) (by kernel_rfl) ?_
        simp only [opsOf_cons, opsOf_nil, consOp_some, List.getElem?_toArray, List.getElem?_cons_succ, List.getElem?_cons_zero]
        repeat (first | go_big_quiet_step (fail) | quiet_step (fail))
        refine wpQuiet_nil ?_
        refine wpAnyH_each (fuel := 19) [16] (by kernel_rfl) (by simp) (by kernel_rfl) ?_
        refine Each.cons _ rfl (fun K' hK => ?_) Each.nil
        go_simp
        refine (KL.out _).mono ?_
        rintro e z2 ⟨rfl, hb⟩
        have hst := below_step hCl.below hCl.below.size hb
        clear hb
        have hCl := Cls.of hst
        refine hK.out (Cls w1) (fun _ h => h) hCl ?_
        clear hK K'
        refine wpAnyH_seg (fuel := 0) (by kernel_rfl) (fun _ d _ _ _ h => by cases d <;> exact h) hCl [17, 18, 19, 20, 21, 22, 23, 24, 25, 26, 27, 28, 29, 30, 31, 32, 33, 34, 35] _ _ _ (by kernel_rfl) (by kernel_rfl) ?_
        simp only [opsOf_cons, opsOf_nil, consOp_some, List.getElem?_toArray, List.getElem?_cons_succ, List.getElem?_cons_zero]
        repeat (first | go_big_quiet_step (fail) | quiet_step (fail))
        refine wpQuiet_nil ?_
        refine wpAnyH_done (by kernel_rfl) ?_ _
        go_wp2
        go_meet
        exact ⟨rfl, hst⟩
      have r0 : (y.ref == 0) = false := by simp [hr0]
      have HR := Lib.hid hr0
      clear hr0
      by_cases hv0 : yn = 0
      case pos =>
        have v0 : decide ((0 : Int) < (yn : Int)) = false := by simp [hv0]
        have v00 : decide (0 < yn) = false := by simp [hv0]
        have v01 : ¬ 0 < yn := by omega
        have HV := Lib.hid hv0
        clear hv0
        obtain rfl : sj = true := by rw [HY.out.1, HMX.out, HJ0.out, HBL.out, Bool.or_true, Bool.true_and, HLV.out, HYN.out]; simp [HR.out, HV.out]
        refine wp_region_held_drew (S := Cls w1) (by kernel_rfl) (Cls.drew w1) (fun hCl => ?_)
        refine wpAnyH_seg (fuel := 35) (by kernel_rfl) (fun _ d _ _ _ h => by cases d <;> exact h) hCl [0] _ _ _ (by kernel_rfl) (by kernel_rfl) ?_
        simp only [opsOf_cons, opsOf_nil, consOp_some, List.getElem?_toArray, List.getElem?_cons_zero]
        repeat (first | go_big_quiet_step (fail) | quiet_step (fail))
        refine wpQuiet_nil ?_
        refine wpAnyH_each (fuel := 34) [1] (by kernel_rfl) (by simp) (by kernel_rfl) ?_
        refine Each.cons _ rfl (fun K' hK => ?_) Each.nil
        go_simp
        refine (KM.out _ (HQ.out.2.2.2.1.step hCl.below).v).mono ?_
        rintro e z1 ⟨rfl, hb⟩
        have hst := below_step hCl.below hCl.below.size hb
        clear hb
        have hCl := Cls.of hst
        refine hK.out (Cls w1) (fun _ h => h) hCl ?_
        clear hK K'
        refine wpAnyH_seg (fuel := 20) (by kernel_rfl) (fun _ d _ _ _ h => by cases d <;> exact h) hCl [2, 3, 4, 5, 6, 7, 8, 9, 10, 11, 12, 13, 14, 15] _ _ _ (by kernel_rfl) (by kernel_rfl) ?_
        simp only [opsOf_cons, opsOf_nil, consOp_some, List.getElem?_toArray, List.getElem?_cons_succ, List.getElem?_cons_zero]
        repeat (first | go_big_quiet_step (fail) | quiet_step (fail))
        refine wpQuiet_nil ?_
        refine wpAnyH_each (fuel := 19) [16] (by kernel_rfl) (by simp) (by kernel_rfl) ?_
        refine Each.cons _ rfl (fun K' hK => ?_) Each.nil
        go_simp
        refine (KL.out _).mono ?_
        rintro e z2 ⟨rfl, hb⟩
        have hst := below_step hCl.below hCl.below.size hb
        clear hb
        have hCl := Cls.of hst
        refine hK.out (Cls w1) (fun _ h => h) hCl ?_
        clear hK K'
        refine wpAnyH_seg (fuel := 0) (by kernel_rfl) (fun _ d _ _ _ h => by cases d <;> exact h) hCl [17, 18, 19, 20, 21, 22, 23, 24, 25, 26, 27, 28, 29, 30, 31, 32, 33, 34, 35] _ _ _ (by kernel_rfl) (by kernel_rfl) ?_
        simp only [opsOf_cons, opsOf_nil, consOp_some, List.getElem?_toArray, List.getElem?_cons_succ, List.getElem?_cons_zero]
        repeat (first | go_big_quiet_step (fail) | quiet_step (fail))
        refine wpQuiet_nil ?_
        refine wpAnyH_done (by kernel_rfl) ?_ _
        go_wp2
        go_meet
        exact ⟨rfl, hst⟩
      have v0 : decide ((0 : Int) < (yn : Int)) = true := by simp; omega
      have v00 : decide (0 < yn) = true := by simp; omega
      have v01 : 0 < yn := by omega
      have HV := Lib.hid hv0
      clear hv0
      obtain rfl : sj = false := by rw [HY.out.1, HMX.out, HJ0.out, HBL.out, Bool.or_true, Bool.true_and, HLV.out, HYN.out]; simp [HR.out, HV.out]
      refine wp_region_held_drew (S := Cls w1) (by kernel_rfl) (Cls.drew w1) (fun hCl => ?_)
      refine wpAnyH_seg (fuel := 35) (by kernel_rfl) (fun _ d _ _ _ h => by cases d <;> exact h) hCl [0] _ _ _ (by kernel_rfl) (by kernel_rfl) ?_
      simp only [opsOf_cons, opsOf_nil, consOp_some, List.getElem?_toArray, List.getElem?_cons_zero]
      repeat (first | go_big_quiet_step (fail) | quiet_step (fail))
      refine wpQuiet_nil ?_
      refine wpAnyH_each (fuel := 34) [1] (by kernel_rfl) (by simp) (by kernel_rfl) ?_
      refine Each.cons _ rfl (fun K' hK => ?_) Each.nil
      go_simp
      refine (KM.out _ (HQ.out.2.2.2.1.step hCl.below).v).mono ?_
      rintro e z1 ⟨rfl, hb⟩
      have hst := below_step hCl.below hCl.below.size hb
      clear hb
      have hCl := Cls.of hst
      refine hK.out (Cls w1) (fun _ h => h) hCl ?_
      clear hK K'
      refine wpAnyH_seg (fuel := 20) (by kernel_rfl) (fun _ d _ _ _ h => by cases d <;> exact h) hCl [2, 3, 4, 5, 6, 7, 8, 9, 10, 11, 12, 13, 14, 15] _ _ _ (by kernel_rfl) (by kernel_rfl) ?_
      simp only [opsOf_cons, opsOf_nil, consOp_some, List.getElem?_toArray, List.getElem?_cons_succ, List.getElem?_cons_zero]
      repeat (first | go_big_quiet_step (fail) | quiet_step (fail))
      refine wpQuiet_nil ?_
      refine wpAnyH_each (fuel := 19) [16] (by kernel_rfl) (by simp) (by kernel_rfl) ?_
      refine Each.cons _ rfl (fun K' hK => ?_) Each.nil
      go_simp
      refine (KL.out _).mono ?_
      rintro e z2 ⟨rfl, hb⟩
      have hst := below_step hCl.below hCl.below.size hb
      clear hb
      have hCl := Cls.of hst
      refine hK.out (Cls w1) (fun _ h => h) hCl ?_
      clear hK K'
      refine wpAnyH_seg (fuel := 0) (by kernel_rfl) (fun _ d _ _ _ h => by cases d <;> exact h) hCl [17, 18, 19, 20, 21, 22, 23, 24, 25, 26, 27, 28, 29, 30, 31, 32, 33, 34, 35] _ _ _ (by kernel_rfl) (by kernel_rfl) ?_
      simp only [opsOf_cons, opsOf_nil, consOp_some, List.getElem?_toArray, List.getElem?_cons_succ, List.getElem?_cons_zero]
      repeat (first | go_big_quiet_step (fail) | quiet_step (fail))
      refine wpQuiet_nil ?_
      refine wpAnyH_done (by kernel_rfl) ?_ _
      go_wp2
      go_meet
      exact ⟨rfl, hst⟩
    case rest =>
    obtain ⟨rfl, hst⟩ := hcut
    obtain ⟨wn, hwn⟩ := named_w hst
    subst hwn
    obtain ⟨wq, hwn⟩ : ∃ v, v = wn := ⟨_, rfl⟩
    subst hwn
    clear c_q_n0 c_q_n1 c_q_y0 c_q_y1 c_q_y2 c_q_y3 c_q_y4
    obtain ⟨q_n, S_n, hW, B_y, q_y, hB⟩ := HQ.out
    clear HQ
    have sz_wq : w1.heap.size ≤ wq.heap.size := hst.size
    replace q_n := q_n.step hst
    replace S_n := S_n.step hst
    replace hW := hW.step hst
    replace B_y := B_y.step hst
    replace q_y := q_y.step hst
    replace hB := hB.step hst
    clear hst
    have HQ := Lib.hid (And.intro q_n (And.intro S_n (And.intro hW (And.intro B_y (And.intro q_y hB)))))
    clear q_n S_n hW B_y q_y hB
    have c_q_n0 := LK.cell HQ.out.1 0
    have c_q_n1 := LK.cell HQ.out.1 1
    simp at c_q_n0 c_q_n1
    cases sj
    case false =>
      have hm := HY.out.2.2.2.1 rfl
      subst hm
      go_wp2
      go_ret
      exact ⟨rfl, HQ.out.2.2.2.2.2⟩
    have hal2 := fun m (hm : m < j + 1) => (Nat.lt_succ_iff_lt_or_eq.1 hm).elim (HALL.out m) (fun e => e ▸ HY.out.2.2.2.2)
    have HA2 := Lib.hid hal2
    clear hal2
    go_wp2
    go_roundw
    case rel => exact ⟨j + 1, by omega, by go_num, HA2.out, HQ.out.2.2.1⟩
    case measure => simp [intOf]; omega
  obtain rfl : j = its.length := by omega
  have hm := HN.out.2.1 (by omega) h6l (by omega) HZ.out.2 HALL.out
  subst hm
  go_wp2
  go_ret
  exact ⟨rfl, HQ.out.2.2.2⟩

end Go.Proofs.Ytkfgegdnpinbdaa

namespace Go.Proofs.Ytkfgegdnpinbdaa
open Go.RowKit

set_option maxRecDepth 100000 in
set_option maxHeartbeats 2000000 in
theorem rntold_any (n : NodeL) (u_n : Value) (w : World) (h_n : Sl rItem w 0 w.heap.size u_n n.items) (hm : mayN n = true) :
    Calls Try.prog 113 #[.agg #[.int .i64 n.level, u_n]] w fun e w' => ∃ u, e = .returned u ∧ MadeB w w' u (bytesN n) := by
  obtain ⟨lv, its⟩ := n
  obtain ⟨⟨m1, m2⟩, m3, -, m4⟩ := mayN_all hm
  have hit := mayN_items hm
  simp only at h_n m1 m2 m3 hit ⊢
  obtain ⟨q, rfl⟩ : ∃ q : Nat, lv = q := ⟨lv.toNat, by omega⟩
  have hfin : bytesN ⟨(q : Int), its⟩ = [78, UInt8.ofNat q, UInt8.ofNat its.length] ++ bodyN its := rfl
  rw [hfin]
  clear hfin m4 hm
  obtain ⟨a_n, c_n, rfl, g_n, gm_n, -, -⟩ := id h_n
  unfold maxLen at gm_n
  have hst := ((Below.refl w.heap.size w).alloc (Nat.le_refl _) (.cells #[.int .i64 (q : Int), .slice a_n its.length c_n] 47))
  have q_n := LK.new w (.cells #[.int .i64 (q : Int), .slice a_n its.length c_n] 47)
  have hB : LW w _ := hst
  have S_n := (LS.of h_n (Nat.le_refl _)).step hst
  have sz_V : w.heap.size + 0 < (w.alloc (.cells #[.int .i64 (q : Int), .slice a_n its.length c_n] 47)).heap.size := by simp
  obtain ⟨V, hV⟩ : ∃ V, (w.alloc (.cells #[.int .i64 (q : Int), .slice a_n its.length c_n] 47)) = V := ⟨_, rfl⟩
  rw [hV] at sz_V q_n S_n hB
  clear hst h_n
  have HQ := Lib.hid (And.intro q_n (And.intro S_n hB))
  clear q_n S_n hB
  have c_q_n0 := LK.cell HQ.out.1 0
  have c_q_n1 := LK.cell HQ.out.1 1
  simp at c_q_n0 c_q_n1
  have k_b := fun (x : ItemL) v V hh h0 h1 hl => rbytes_any x v V hh h0 h1 hl
  simp only [itemV, bV, wV] at k_b
  have hlb : (bodyN its).length ≤ 120 := by
    have := bodyN_len its hit
    omega
  have HI := Lib.hid (And.intro hit hlb)
  clear hit hlb
  have HC := Lib.hid (k_b)
  clear k_b
  have hBV0 := HQ.out.2.2
  have HBV := Lib.hid hBV0
  clear hBV0
  go_enter Try.func113, Try.ntmps113
  go_upto_region 1 with (fail)
  clear hV
  have i1 : (its.length : Int) < 256 := by omega
  have i2 : (q : Int) < 256 := by omega
  have i3 : ¬ (q : Int) < 0 := by omega
  go_upto_region 2 with (fail)
  clear i1 i2 i3
  have hown := own_lit V [78, UInt8.ofNat q, UInt8.ofNat its.length] #[.int .u8 78, .int .u8 (q : Int), .int .u8 (its.length : Int)] 5 V.heap.size (Nat.le_refl _) (by simp [maxLen]) (by simp [bV]; omega) 3 rfl
  have hst := (Below.refl V.heap.size V).alloc (Nat.le_refl _) (.cells #[.int .u8 78, .int .u8 (q : Int), .int .u8 (its.length : Int)] 5)
  have HO := Lib.hid (And.intro hown hst)
  clear hown hst
  clear c_q_n0 c_q_n1
  go_wp2_with fail
  go_loopw [3, 4] (fun x i wr => ∃ j : Nat, j ≤ its.length ∧ i = .int .i64 j ∧ OwnB V.heap.size 5 wr x ([78, UInt8.ofNat q, UInt8.ofNat its.length] ++ bodyN (its.take j)) ∧ Below V.heap.size V wr) (fun _ i _ => its.length - (intOf i).toNat)
  case atStart => exact ⟨0, Nat.zero_le _, rfl, by simpa [bodyN] using HO.out.1, HO.out.2⟩
  case round =>
  obtain ⟨j, hj, rfl, hown, hst⟩ := hrel
  have HR := Lib.hid (And.intro hown hst)
  obtain ⟨q_n, S_n, hB⟩ := HQ.out
  clear HQ
  replace q_n := q_n.step hst
  replace S_n := S_n.step hst
  replace hB := hB.step hst
  have sz_wr := hst.size
  have hW : LW V wr := hst
  clear hst hown
  have HQ := Lib.hid (And.intro q_n (And.intro S_n (And.intro hW hB)))
  clear q_n S_n hW hB
  have c_q_n0 := LK.cell HQ.out.1 0
  have c_q_n1 := LK.cell HQ.out.1 1
  simp at c_q_n0 c_q_n1
  by_cases hlt : j < its.length
  case pos =>
    obtain ⟨bb, bo, cb, e1, -, zb, -, zc, -⟩ := Sl.at_ HQ.out.2.1.v (by omega)
    injection e1 with e1 _ e2
    subst e1 e2
    unfold maxLen at zc
    have hyl := get_l its nokI j hlt
    have hbs := bodyN_succ its j hlt
    have hyi := HI.out.1 _ (List.mem_of_getElem? hyl)
    obtain ⟨y, hy⟩ : ∃ y, its.getD j nokI = y := ⟨_, rfl⟩
    rw [hy] at hyl hbs hyi
    clear hy
    obtain ⟨f0, f1, f2, f3, -, fv, f4, fb⟩ := Sl.cellW HQ.out.2.1.v j _ hyl
    have hn5 : rItem.n = 5 := rfl
    rw [hn5] at f0 f1 f2 f3 f4
    simp only [bV, wV, Nat.add_zero] at f0 f1 f2
    clear hn5
    obtain ⟨fa, fc, rfl, -, fcm⟩ := fb.form rfl
    unfold maxLen at fcm
    obtain ⟨hr1, hr2, hr3⟩ := may_ref hyi
    have hbl := bodyN_len (its.take (j + 1)) (fun x hx => HI.out.1 x (List.mem_of_mem_take hx))
    rw [hbs, List.length_append, List.length_take] at hbl
    have kb := HC.out y (.slice fa y.val.length fc) wr (Bytes.all0 fb) hr1 hr2 (by omega)
    have HB := Lib.hid (And.intro kb (And.intro hbs hbl))
    clear kb hbs hbl fb hyl hyi hr1 hr2 hr3
    obtain ⟨dj, hdj⟩ : ∃ d, bodyN (its.take j) = d := ⟨_, rfl⟩
    rw [hdj] at HB HR
    clear hdj
    have i6 : (j : Int) < its.length := by omega
    have i7 : ¬ (its.length : Int) ≤ j := by omega
    go_wp2_with fail
    refine HB.out.1.mono ?_
    rintro e w3 ⟨v3, rfl, hm3, hb3⟩
    clear f0 f1 f2 f3 f4
    clear c_q_n0 c_q_n1
    have HO2 := Lib.hid (And.intro (HR.out.1.step hb3) (And.intro (HR.out.2.trans (hb3.mono HR.out.2.size)) hm3.bytes.all0))
    have hsz3 := hb3.size
    clear hm3 hb3
    obtain ⟨yb, hyb⟩ : ∃ l, itemB y = l := ⟨_, rfl⟩
    rw [hyb] at HO2 HB
    clear hyb
    obtain ⟨va3, vc3, rfl, -, -⟩ := HO2.out.2.2.form rfl
    go_wp2_with (at_builtin; refine wpList_appB rfl _ _ 26 rfl V.heap.size 5 Try.underlying26 info_u8 _ ([78, UInt8.ofNat q, UInt8.ofNat its.length] ++ dj) rfl HO2.out.1 0 w3.heap.size _ yb rfl HO2.out.2.2 (by have := HB.out.2.2; simp only [List.length_append, List.length_cons, List.length_nil]; omega) HO2.out.2.1.size ?_; intro x5 w5 hown5 hB5; rw [List.append_assoc, ← HB.out.2.1] at hown5; have HE := Lib.hid (And.intro hown5 (HO2.out.2.1.trans hB5)); clear hown5 hB5)
    go_wp2
    go_roundw
    case rel => exact ⟨j + 1, by omega, by go_num, HE.out.1, HE.out.2⟩
    case measure => simp [intOf]; omega
  obtain rfl : j = its.length := by omega
  have hr := HR.out.1
  rw [List.take_length] at hr
  have hmd := OwnB.made hr HR.out.2
  have HM := Lib.hid hmd
  clear hmd hr
  go_wp2
  go_ret
  exact ⟨_, rfl, HM.out.bytes.more (Below.size HBV.out) (Nat.le_refl _), HM.out.thawed, HQ.out.2.2.2⟩

/-- Do bytes begin with others, with noughts behind? -/
def okZ (b l : List UInt8) (i : Nat) : Bool := if i < l.length then b.getD i 0 == l.getD i 0 else b.getD i 0 == 0
def samZ (b l : List UInt8) : Bool := (List.range b.length).all (okZ b l) && decide (l.length ≤ b.length)
theorem samZ_iff {b l : List UInt8} : samZ b l = true ↔ ∃ z, b = l ++ z ∧ ∀ x ∈ z, x = 0 := by
  unfold samZ
  rw [Bool.and_eq_true, List.all_eq_true, decide_eq_true_eq]
  constructor
  · rintro ⟨h1, h2⟩
    have hk : ∀ i, i < b.length → okZ b l i = true := fun i hi => h1 i (List.mem_range.2 hi)
    refine ⟨b.drop l.length, ?_, ?_⟩
    · refine List.ext_getElem? fun i => ?_
      by_cases hi : i < l.length
      · have := hk i (by omega)
        unfold okZ at this
        rw [if_pos hi, beq_iff_eq, List.getD_eq_getElem?_getD, List.getD_eq_getElem?_getD, List.getElem?_eq_getElem hi, List.getElem?_eq_getElem (show i < b.length by omega)] at this
        rw [List.getElem?_append_left hi, List.getElem?_eq_getElem hi, List.getElem?_eq_getElem (show i < b.length by omega)]
        exact congrArg some this
      · rw [List.getElem?_append_right (by omega), List.getElem?_drop]
        congr 1
        omega
    · intro x hx
      obtain ⟨i, hi, rfl⟩ := List.getElem_of_mem hx
      rw [List.length_drop] at hi
      have := hk (l.length + i) (by omega)
      unfold okZ at this
      rw [if_neg (by omega), beq_iff_eq, List.getD_eq_getElem?_getD, List.getElem?_eq_getElem (show l.length + i < b.length by omega)] at this
      rw [List.getElem_drop]
      exact this
  · rintro ⟨z, rfl, hz⟩
    refine ⟨fun i hi => ?_, by simp⟩
    rw [List.mem_range, List.length_append] at hi
    unfold okZ
    by_cases hl : i < l.length
    · rw [if_pos hl, beq_iff_eq, List.getD_eq_getElem?_getD, List.getD_eq_getElem?_getD, List.getElem?_append_left hl]
    · rw [if_neg hl, beq_iff_eq, List.getD_eq_getElem?_getD, List.getElem?_append_right (by omega), List.getElem?_eq_getElem (by omega)]
      exact hz _ (List.getElem_mem _)

set_option maxRecDepth 100000 in
set_option maxHeartbeats 2000000 in
/-- The reference's same. -/
theorem rnsam_any (v u : Value) (b l : List UInt8) (w : World) (hv : Bytes w 0 w.heap.size v b) (hu : Bytes w 0 w.heap.size u l) :
    Calls Try.prog 112 #[v, u] w fun e w' => e = .returned (.bool (samZ b l)) ∧ Below w.heap.size w w' := by
  have HV := Lib.hid hv
  have HU := Lib.hid hu
  obtain ⟨av, cv, rfl, g1, g2⟩ := hv.form rfl
  obtain ⟨au, cu, rfl, g1', g2'⟩ := hu.form rfl
  unfold maxLen at g2 g2'
  have hr1 : ∀ i, i < b.length → okZ b l i = false → samZ b l = false := fun i hi h => by
    unfold samZ
    rw [Bool.and_eq_false_iff]
    left
    rw [List.all_eq_false]
    exact ⟨i, List.mem_range.2 hi, by rw [h]; simp⟩
  have hr2 : (∀ i, i < b.length → okZ b l i = true) → samZ b l = decide (l.length ≤ b.length) := fun h => by
    unfold samZ
    rw [List.all_eq_true.2 fun i hi => h i (List.mem_range.1 hi), Bool.true_and]
  generalize samZ b l = r at *
  have HR := Lib.hid (And.intro hr1 hr2)
  clear hr1 hr2 hv hu
  go_enter Try.func112, Try.ntmps112
  go_wp2_with fail
  go_loopw [5] (fun i wr => ∃ k : Nat, k ≤ b.length ∧ i = .int .i64 k ∧ Below w.heap.size w wr ∧ ∀ j, j < k → okZ b l j = true) (fun i _ => b.length - (intOf i).toNat)
  case atStart => exact ⟨0, Nat.zero_le _, rfl, Below.refl _ _, fun j hj => absurd hj (Nat.not_lt_zero _)⟩
  case round =>
  obtain ⟨k, hk, rfl, hB, hall⟩ := hrel
  have HB := Lib.hid (And.intro hB hall)
  clear hB hall
  by_cases hlt : k < b.length
  · obtain ⟨b1, o1, c1, e1, -, hz1, -, z3, hcell⟩ := HV.out.at_ (by omega)
    injection e1 with ea _ ec
    subst ea ec
    have ck1 := (HB.out.1.cell (p := ⟨b1, o1 + k, none⟩) hz1).trans (hcell k (b.getD k 0) (get_l _ _ _ hlt))
    have hok : okZ b l k = (if k < l.length then b.getD k 0 == l.getD k 0 else b.getD k 0 == 0) := rfl
    simp only [bV] at ck1
    obtain ⟨x, hx⟩ : ∃ x, b.getD k 0 = x := ⟨_, rfl⟩
    rw [hx] at ck1 hok
    obtain ⟨X, hX⟩ : ∃ X : Int, (x.toNat : Int) = X := ⟨_, rfl⟩
    rw [hX] at ck1
    have h0 : (x == 0) = (X == 0) := by
      rw [← hX, Bool.eq_iff_iff, beq_iff_eq, beq_iff_eq]
      constructor
      · intro h; rw [h]; rfl
      · intro h; exact UInt8.toNat_inj.1 (by simpa using h)
    rw [h0] at hok
    obtain ⟨ok, hk0⟩ : ∃ q, okZ b l k = q := ⟨_, rfl⟩
    rw [hk0] at hok
    have HK := Lib.hid hk0
    clear hcell h0 hx hk0
    have i7 : ¬ (b.length : Int) ≤ k := by omega
    have i8 : (k : Int) < b.length := by omega
    unfold maxLen at z3
    by_cases hl : k < l.length
    · obtain ⟨b2, o2, c2, e2, -, hz2, -, z3', hcell⟩ := HU.out.at_ (by omega)
      injection e2 with ea _ ec
      subst ea ec
      have ck2 := (HB.out.1.cell (p := ⟨b2, o2 + k, none⟩) hz2).trans (hcell k (l.getD k 0) (get_l _ _ _ hl))
      rw [if_pos hl] at hok
      simp only [bV] at ck2
      obtain ⟨y, hy⟩ : ∃ y, l.getD k 0 = y := ⟨_, rfl⟩
      rw [hy] at ck2 hok
      obtain ⟨Y, hY⟩ : ∃ Y : Int, (y.toNat : Int) = Y := ⟨_, rfl⟩
      rw [hY] at ck2
      have h0 : (x == y) = (X == Y) := by
        rw [← hX, ← hY, Bool.eq_iff_iff, beq_iff_eq, beq_iff_eq]
        constructor
        · intro h; rw [h]
        · intro h; exact UInt8.toNat_inj.1 (by omega)
      rw [h0] at hok
      clear hcell h0 hy hY hX
      unfold maxLen at z3'
      have j1 : (k : Int) < l.length := by omega
      have j2 : ¬ (l.length : Int) ≤ k := by omega
      have j3 : decide ((k : Int) < (l.length : Int)) = true := by simp; omega
      have j4 : decide ((l.length : Int) ≤ (k : Int)) = false := by simp; omega
      have j5 : decide (k < l.length) = true := by simp; omega
      have j6 : decide (l.length ≤ k) = false := by simp; omega
      have j7 : ¬ l.length ≤ k := by omega
      cases ok
      case false =>
        have n1 : (X == Y) = false := hok.symm
        have n2 : (X != Y) = true := by rw [bne, n1]; rfl
        obtain rfl := HR.out.1 k hlt HK.out
        clear hok
        go_upto_region 4 with (fail)
        go_quiet (fail)
        go_wp2
        go_ret
        exact ⟨rfl, below_step HB.out.1 HB.out.1.size (below_dn _ _ _)⟩
      case true =>
        have n0 : X = Y := by simpa using hok.symm
        subst n0
        clear hok
        go_upto_region 4 with (fail)
        go_quiet (fail)
        go_wp2
        go_roundw
        case rel => exact ⟨k + 1, by omega, by go_num, below_step HB.out.1 HB.out.1.size (below_dn _ _ _), fun j hj => (Nat.lt_succ_iff_lt_or_eq.1 hj).elim (HB.out.2 j) (fun e => e ▸ HK.out)⟩
        case measure => simp [intOf]; omega
    · rw [if_neg hl] at hok
      have j1 : ¬ (k : Int) < l.length := by omega
      have j2 : (l.length : Int) ≤ k := by omega
      have j3 : decide ((k : Int) < (l.length : Int)) = false := by simp; omega
      have j4 : decide ((l.length : Int) ≤ (k : Int)) = true := by simp; omega
      have j5 : decide (k < l.length) = false := by simp; omega
      have j6 : decide (l.length ≤ k) = true := by simp; omega
      have j7 : l.length ≤ k := by omega
      cases ok
      case false =>
        have n1 : (X == 0) = false := hok.symm
        have n2 : (X != 0) = true := by rw [bne, n1]; rfl
        obtain rfl := HR.out.1 k hlt HK.out
        clear hok hX
        go_upto_region 4 with (fail)
        go_quiet (fail)
        go_wp2
        go_ret
        exact ⟨rfl, below_step HB.out.1 HB.out.1.size (below_dn _ _ _)⟩
      case true =>
        have n0 : X = 0 := by simpa using hok.symm
        subst n0
        clear hok hX
        go_upto_region 4 with (fail)
        go_quiet (fail)
        go_wp2
        go_roundw
        case rel => exact ⟨k + 1, by omega, by go_num, below_step HB.out.1 HB.out.1.size (below_dn _ _ _), fun j hj => (Nat.lt_succ_iff_lt_or_eq.1 hj).elim (HB.out.2 j) (fun e => e ▸ HK.out)⟩
        case measure => simp [intOf]; omega
  obtain rfl : k = b.length := by omega
  have hf := HR.out.2 HB.out.2
  subst hf
  by_cases hl : l.length ≤ b.length
  · have j1 : (l.length : Int) ≤ b.length := by omega
    go_wp2
    go_ret
    exact ⟨rfl, HB.out.1⟩
  · have j1 : ¬ (l.length : Int) ≤ b.length := by omega
    have j2 : (b.length : Int) < l.length := by omega
    go_wp2
    go_ret
    exact ⟨rfl, HB.out.1⟩
end Go.Proofs.Ytkfgegdnpinbdaa

