/- NodeUnlike: the words and contracts, part 19. -/
import Derived.Test.YtfdogefoodljaaaNodeUnlikeQ1
import Derived.Test.YtfdogefoodljaaaNodeUnlikeQ2
import Derived.Test.YtfdogefoodljaaaNodeUnlikeQ3
import Derived.Test.YtfdogefoodljaaaNodeUnlikeQ4
import Derived.Test.YtfdogefoodljaaaNodeUnlikeQ5
import Derived.Test.YtfdogefoodljaaaNodeUnlikeQ6
import Derived.Test.YtfdogefoodljaaaNodeUnlikeQ7
import Derived.Test.YtfdogefoodljaaaNodeUnlikeQ8
import Derived.Test.YtfdogefoodljaaaNodeUnlikeQ9
import Derived.Test.YtfdogefoodljaaaNodeUnlikeQ10
import Derived.Test.YtfdogefoodljaaaNodeUnlikeQ11
import Derived.Test.YtfdogefoodljaaaNodeUnlikeQ12
import Derived.Test.YtfdogefoodljaaaNodeUnlikeQ13
import Derived.Test.YtfdogefoodljaaaNodeUnlikeQ14
import Derived.Test.YtfdogefoodljaaaNodeUnlikeQ15
import Derived.Test.YtfdogefoodljaaaNodeUnlikeQ16
import Derived.Test.YtfdogefoodljaaaNodeUnlikeQ17
import Derived.Test.YtfdogefoodljaaaNodeUnlikeQ18
import Derived.Test.YtfdogefoodljaaaChecked
import Derived.WalkKit
import Derived.WalkLawsBesides
import Derived.WalkSpells
import Derived.Lib.Hide
import Derived.Laws.Rows
import Derived.Laws.AppendOwnNone
import Derived.Maps.AppendAt
import Derived.ProofKit
import Derived.Deep.Slices
import Derived.WideShapes
import Derived.RangeFuncNested
import Derived.RangeFuncBound
import Derived.RangeFuncCalls
import Derived.RangeFuncLeaves
import Derived.RangeFuncBox
import Derived.Shelf.Abstract
import Derived.Shelf.RegionOpen
import Derived.OwnWalkIn
import Derived.TacticsInMore
import Derived.LoopNIn
import Derived.LoopIn
import Derived.Lib.AppendZerosOnto
import Derived.Lib.SliceRun
import Derived.Lib.Walk
import Derived.Deep.LoopGhost
import Derived.Laws.CopyOwn
import Derived.Laws.CopyRow
import Derived.OrdersHeld
import Derived.Deep.QuietTactic
import Derived.BigQuiet
import Derived.StillTailTactics
import Derived.OpenShut
import Derived.Deep.DeepCutAuto
import Derived.Deep.RegionHeld
import Derived.Laws.MakeOwn
import Derived.KernelRfl
import Derived.BigFrameIn
import Derived.ShutString
import Derived.ChangeOld
import Derived.Below
namespace Go.Proofs.Ytfdogefoodljaaa
open Go.RowKit

theorem block_inj {n m : NodeL} (h : mayN n = true) (k : mayN m = true) (e : blockN n = blockN m) : n = m := by
  rw [← (back1 h).2.1, e]
  exact (back1 k).2.1
theorem block4 {n : NodeL} (h : mayN n = true) : (blockN n)[4]? = some 78 := by
  unfold blockN
  rw [if_pos h]
  simp [sealL, fourL, padL, bytesN, headN]

set_option maxRecDepth 100000 in
set_option maxHeartbeats 4000000 in
theorem nodeUnlike_walk (n : NodeL) (u_n : Value) (m : NodeL) (u_m : Value) (w : World) (h_n : (Lit.int .i64 n.level).wf = true ∧ Sl rItem w 0 w.heap.size u_n n.items) (h_m : (Lit.int .i64 m.level).wf = true ∧ Sl rItem w 0 w.heap.size u_m m.items) :
    Calls Try.prog 14 #[.agg #[.int .i64 n.level, u_n], .agg #[.int .i64 m.level, u_m]] w fun e w' => e = .returned (.bool true) ∧ Below w.heap.size w w' := by
  obtain ⟨hw_n, h_n⟩ := h_n
  obtain ⟨a_n, c_n, rfl, g_n, gm_n, -, -⟩ := id h_n
  unfold maxLen at gm_n
  obtain ⟨hw_m, h_m⟩ := h_m
  obtain ⟨a_m, c_m, rfl, g_m, gm_m, -, -⟩ := id h_m
  unfold maxLen at gm_m
  have hst := (((Below.refl w.heap.size w).alloc (Nat.le_refl _) (.cells #[.int .i64 n.level, .slice a_n n.items.length c_n] 62)).alloc (by simp) (.cells #[.int .i64 m.level, .slice a_m m.items.length c_m] 62))
  have hq := two_new w (.cells #[.int .i64 n.level, .slice a_n n.items.length c_n] 62) (.cells #[.int .i64 m.level, .slice a_m m.items.length c_m] 62)
  have q_n := LK.of hq.1
  have q_m := LK.of hq.2
  have hB : LW w _ := hst
  have S_n := (LS.of h_n (Nat.le_refl _)).step hst
  have S_m := (LS.of h_m (Nat.le_refl _)).step hst
  have sz_V : w.heap.size + 1 < ((w.alloc (.cells #[.int .i64 n.level, .slice a_n n.items.length c_n] 62)).alloc (.cells #[.int .i64 m.level, .slice a_m m.items.length c_m] 62)).heap.size := by simp
  obtain ⟨V, hV⟩ : ∃ V, ((w.alloc (.cells #[.int .i64 n.level, .slice a_n n.items.length c_n] 62)).alloc (.cells #[.int .i64 m.level, .slice a_m m.items.length c_m] 62)) = V := ⟨_, rfl⟩
  rw [hV] at sz_V q_n q_m S_n S_m hB
  clear hst h_n h_m hq
  have HQ := Lib.hid (And.intro q_n (And.intro q_m (And.intro S_n (And.intro S_m hB))))
  clear q_n q_m S_n S_m hB
  have c_q_n0 := LK.cell HQ.out.1 0
  have c_q_n1 := LK.cell HQ.out.1 1
  have c_q_m0 := LK.cell HQ.out.2.1 0
  have c_q_m1 := LK.cell HQ.out.2.1 1
  simp at c_q_n0 c_q_n1 c_q_m0 c_q_m1
  have k_g := fun V hh => great6_any (.slice a_n n.items.length c_n) n.items V hh
  have k_h := fun V hh => great6_any (.slice a_m m.items.length c_m) m.items V hh
  have k_w := fun V hh => nwrite_any n (.slice a_n n.items.length c_n) V hh
  have k_v := fun V hh => nwrite_any m (.slice a_m m.items.length c_m) V hh
  have k_c := fun V hh => ncheck_any n (.slice a_n n.items.length c_n) V hh
  have k_t := fun hf V hh => ntwin_any n (.slice a_n n.items.length c_n) V hh hf
  have k_s := fun V v h1 h2 => nsame_any n n v (.slice a_n n.items.length c_n) V h1 h2
  simp only [decide_true] at k_s
  have k_x := fun V h1 h2 => nsame_any n m (.slice a_n n.items.length c_n) (.slice a_m m.items.length c_m) V h1 h2
  have k_y := fun V h1 h2 => nsame_any m n (.slice a_m m.items.length c_m) (.slice a_n n.items.length c_n) V h1 h2
  rw [show decide (m = n) = decide (n = m) from decide_eq_decide.2 eq_comm] at k_y
  have h1 := fun (h : mayN n = true) => And.intro (back1 h).2.2 (block4 h)
  have h2 : mayN n = false → blockN n = [] := fun h => by unfold blockN; rw [h]; rfl
  have h3 := fun (h : mayN n = true) (k : mayN m = true) (e : blockN n = blockN m) => block_inj h k e
  have h4 := fun (h : mayN m = true) => (back1 h).2.2
  have h5 := fun (e : n = m) => congrArg blockN e
  obtain ⟨BN, hBN⟩ : ∃ b, blockN n = b := ⟨_, rfl⟩
  obtain ⟨BM, hBM⟩ : ∃ b, blockN m = b := ⟨_, rfl⟩
  obtain ⟨mn, hmn⟩ : ∃ b, mayN n = b := ⟨_, rfl⟩
  obtain ⟨mm, hmm⟩ : ∃ b, mayN m = b := ⟨_, rfl⟩
  rw [hBN] at k_w
  rw [hBM] at k_v
  rw [hBN, hBM] at h3 h5
  rw [hBN] at h1 h2
  rw [hBM] at h4
  rw [hmn] at k_w k_c h1 h2 h3
  rw [hmm] at k_v h3 h4
  have HN := Lib.hid (And.intro h1 (And.intro h2 (And.intro h3 (And.intro h4 h5))))
  clear h1 h2 h3 h4 h5 hBN hBM hmn hmm
  have hnm : decide (n = m) = true ↔ n = m := decide_eq_true_iff
  obtain ⟨nm, hnm0⟩ : ∃ b, decide (n = m) = b := ⟨_, rfl⟩
  rw [hnm0] at k_x k_y hnm
  have HNM := Lib.hid hnm
  clear hnm hnm0
  have HC := Lib.hid (And.intro k_g (And.intro k_h (And.intro k_w (And.intro k_v (And.intro k_c (And.intro k_t (And.intro k_s (And.intro k_x k_y))))))))
  clear k_g k_h k_w k_v k_c k_t k_s k_x k_y
  go_enter Try.func14, Try.ntmps14
  go_upto_region 1 with (fail)
  clear hV
  go_wp2_with fail
  refine (alive6 V).mono ?_
  rintro e w1 ⟨rfl, hst⟩
  clear c_q_n0 c_q_n1 c_q_m0 c_q_m1
  obtain ⟨q_n, q_m, S_n, S_m, hB⟩ := HQ.out
  clear HQ
  have sz_w1 : V.heap.size ≤ w1.heap.size := hst.size
  replace q_n := q_n.step hst
  replace q_m := q_m.step hst
  replace S_n := S_n.step hst
  replace S_m := S_m.step hst
  replace hB := hB.step hst
  clear hst
  have HQ := Lib.hid (And.intro q_n (And.intro q_m (And.intro S_n (And.intro S_m hB))))
  clear q_n q_m S_n S_m hB
  have c_q_n0 := LK.cell HQ.out.1 0
  have c_q_n1 := LK.cell HQ.out.1 1
  have c_q_m0 := LK.cell HQ.out.2.1 0
  have c_q_m1 := LK.cell HQ.out.2.1 1
  simp at c_q_n0 c_q_n1 c_q_m0 c_q_m1
  go_wp2_with fail
  refine (HC.out.1 _ HQ.out.2.2.1.v).mono ?_
  rintro e w2 ⟨g, rfl, hst, hg⟩
  clear c_q_n0 c_q_n1 c_q_m0 c_q_m1
  obtain ⟨q_n, q_m, S_n, S_m, hB⟩ := HQ.out
  clear HQ
  have sz_w2 : w1.heap.size ≤ w2.heap.size := hst.size
  replace q_n := q_n.step hst
  replace q_m := q_m.step hst
  replace S_n := S_n.step hst
  replace S_m := S_m.step hst
  replace hB := hB.step hst
  clear hst
  have HQ := Lib.hid (And.intro q_n (And.intro q_m (And.intro S_n (And.intro S_m hB))))
  clear q_n q_m S_n S_m hB
  have c_q_n0 := LK.cell HQ.out.1 0
  have c_q_n1 := LK.cell HQ.out.1 1
  have c_q_m0 := LK.cell HQ.out.2.1 0
  have c_q_m1 := LK.cell HQ.out.2.1 1
  simp at c_q_n0 c_q_n1 c_q_m0 c_q_m1
  cases g
  case true =>
    go_wp2
    go_ret
    exact ⟨rfl, HQ.out.2.2.2.2⟩
  have HG := Lib.hid (hg rfl)
  clear hg
  go_wp2_with fail
  refine (HC.out.2.1 _ HQ.out.2.2.2.1.v).mono ?_
  rintro e w3 ⟨g, rfl, hst, -⟩
  clear c_q_n0 c_q_n1 c_q_m0 c_q_m1
  obtain ⟨q_n, q_m, S_n, S_m, hB⟩ := HQ.out
  clear HQ
  have sz_w3 : w2.heap.size ≤ w3.heap.size := hst.size
  replace q_n := q_n.step hst
  replace q_m := q_m.step hst
  replace S_n := S_n.step hst
  replace S_m := S_m.step hst
  replace hB := hB.step hst
  clear hst
  have HQ := Lib.hid (And.intro q_n (And.intro q_m (And.intro S_n (And.intro S_m hB))))
  clear q_n q_m S_n S_m hB
  have c_q_n0 := LK.cell HQ.out.1 0
  have c_q_n1 := LK.cell HQ.out.1 1
  have c_q_m0 := LK.cell HQ.out.2.1 0
  have c_q_m1 := LK.cell HQ.out.2.1 1
  simp at c_q_n0 c_q_n1 c_q_m0 c_q_m1
  cases g
  case true =>
    go_wp2
    go_ret
    exact ⟨rfl, HQ.out.2.2.2.2⟩
  go_wp2_with fail
  refine (HC.out.2.2.1 _ HQ.out.2.2.1.v).mono ?_
  rintro e w4 ⟨v_b, rfl, hm⟩
  clear c_q_n0 c_q_n1 c_q_m0 c_q_m1
  obtain ⟨q_n, q_m, S_n, S_m, hB⟩ := HQ.out
  clear HQ
  have B_b := LM.of hm
  have hst := hm.below
  obtain ⟨a_b, c_b, rfl, -, -⟩ := hm.bytes.form rfl
  clear hm
  have sz_w4 : w3.heap.size ≤ w4.heap.size := hst.size
  replace q_n := q_n.step hst
  replace q_m := q_m.step hst
  replace S_n := S_n.step hst
  replace S_m := S_m.step hst
  replace hB := hB.step hst
  clear hst
  have HQ := Lib.hid (And.intro q_n (And.intro q_m (And.intro S_n (And.intro S_m (And.intro B_b hB)))))
  clear q_n q_m S_n S_m B_b hB
  have c_q_n0 := LK.cell HQ.out.1 0
  have c_q_n1 := LK.cell HQ.out.1 1
  have c_q_m0 := LK.cell HQ.out.2.1 0
  have c_q_m1 := LK.cell HQ.out.2.1 1
  simp at c_q_n0 c_q_n1 c_q_m0 c_q_m1
  go_wp2_with fail
  refine (HC.out.2.2.2.1 _ HQ.out.2.2.2.1.v).mono ?_
  rintro e w5 ⟨v_d, rfl, hm⟩
  clear c_q_n0 c_q_n1 c_q_m0 c_q_m1
  obtain ⟨q_n, q_m, S_n, S_m, B_b, hB⟩ := HQ.out
  clear HQ
  have B_d := LM.of hm
  have hst := hm.below
  obtain ⟨a_d, c_d, rfl, -, -⟩ := hm.bytes.form rfl
  clear hm
  have sz_w5 : w4.heap.size ≤ w5.heap.size := hst.size
  replace q_n := q_n.step hst
  replace q_m := q_m.step hst
  replace S_n := S_n.step hst
  replace S_m := S_m.step hst
  replace B_b := B_b.step hst
  replace hB := hB.step hst
  clear hst
  have HQ := Lib.hid (And.intro q_n (And.intro q_m (And.intro S_n (And.intro S_m (And.intro B_b (And.intro B_d hB))))))
  clear q_n q_m S_n S_m B_b B_d hB
  have c_q_n0 := LK.cell HQ.out.1 0
  have c_q_n1 := LK.cell HQ.out.1 1
  have c_q_m0 := LK.cell HQ.out.2.1 0
  have c_q_m1 := LK.cell HQ.out.2.1 1
  simp at c_q_n0 c_q_n1 c_q_m0 c_q_m1
  cases mn
  case false =>
    have me : mayE false = 8 := rfl
    rw [me]
    clear me
    have hb := HN.out.2.1 (by trivial)
    subst hb
    clear c_q_n0 c_q_n1 c_q_m0 c_q_m1
    go_upto_region 6 with (fail)
    have x_q_n0 := fun X => LK.cell (HQ.out.1.step (aft_below w5 X)) 0
    have x_q_n1 := fun X => LK.cell (HQ.out.1.step (aft_below w5 X)) 1
    have x_q_m0 := fun X => LK.cell (HQ.out.2.1.step (aft_below w5 X)) 0
    have x_q_m1 := fun X => LK.cell (HQ.out.2.1.step (aft_below w5 X)) 1
    simp at x_q_n0 x_q_n1 x_q_m0 x_q_m1
    refine wp_region_held_drew (S := Cls w5) (by kernel_rfl) (Cls.drew w5) (fun hCl => ?_)
    refine wpAnyH_seg (fuel := 28) (by kernel_rfl) (fun _ d _ _ _ h => by cases d <;> exact h) hCl [0, 1, 2] _ _ _ (by kernel_rfl) (by kernel_rfl) ?_
    simp only [opsOf_cons, opsOf_nil, consOp_some, List.getElem?_toArray, List.getElem?_cons_succ, List.getElem?_cons_zero]
    repeat (first | go_big_quiet_step (fail) | quiet_step (fail))
    refine wpQuiet_nil ?_
    refine wpAnyH_each (fuel := 27) [3] (by kernel_rfl) (by simp) (by kernel_rfl) ?_
    refine Each.cons _ rfl (fun K' hK => ?_) Each.nil
    go_simp
    refine (HC.out.2.2.2.2.1 _ (HQ.out.2.2.1.step hCl.below).v).mono ?_
    rintro e z1 ⟨rfl, hb⟩
    have hst := below_step hCl.below hCl.below.size hb
    clear hb
    have hCl := Cls.of hst
    refine hK.out (Cls w5) (fun _ h => h) hCl ?_
    clear hK K'
    refine wpAnyH_seg (fuel := 22) (by kernel_rfl) (fun _ d _ _ _ h => by cases d <;> exact h) hCl [4, 5, 6, 7, 9] _ _ _ (by kernel_rfl) (by kernel_rfl) ?_
    simp only [opsOf_cons, opsOf_nil, consOp_some, List.getElem?_toArray, List.getElem?_cons_succ, List.getElem?_cons_zero]
    repeat (first | go_big_quiet_step (fail) | quiet_step (fail))
    refine wpQuiet_nil ?_
    refine wpAnyH_each (fuel := 21) [8] (by kernel_rfl) (by simp) (by kernel_rfl) ?_
    refine Each.cons _ rfl (fun K' hK => ?_) Each.nil
    go_simp
    refine (HC.out.2.2.2.2.2.1 HG.out _ (HQ.out.2.2.1.step hCl.below).v).mono ?_
    rintro e z2 ⟨u_t, rfl, hm⟩
    have hst := below_step hCl.below hCl.below.size hm.below
    clear x_q_n0 x_q_n1 x_q_m0 x_q_m1
    have x_q_n0 := fun X => LK.cell ((HQ.out.1.step hst).step (aft_below z2 X)) 0
    have x_q_n1 := fun X => LK.cell ((HQ.out.1.step hst).step (aft_below z2 X)) 1
    have x_q_m0 := fun X => LK.cell ((HQ.out.2.1.step hst).step (aft_below z2 X)) 0
    have x_q_m1 := fun X => LK.cell ((HQ.out.2.1.step hst).step (aft_below z2 X)) 1
    simp at x_q_n0 x_q_n1 x_q_m0 x_q_m1
    have HT := Lib.hid (And.intro (LS.of (sl_itemT hm.items) (Nat.le_refl _)) (And.intro (HQ.out.2.2.1.step hst) (And.intro (HQ.out.2.2.2.1.step hst) hst)))
    clear hm
    refine hK.out (Cls z2) (Cls.sub hst) (Cls.refl z2) ?_
    have hCl := Cls.refl z2
    clear hK K'
    refine wpAnyH_each (fuel := 20) [10] (by kernel_rfl) (by simp) (by kernel_rfl) ?_
    refine Each.cons _ rfl (fun K' hK => ?_) Each.nil
    go_simp
    refine (HC.out.2.2.2.2.2.2.1 _ _ (HT.out.1.step hCl.below).v (HT.out.2.1.step hCl.below).v).mono ?_
    rintro e z3 ⟨rfl, hb⟩
    have hst := below_step hCl.below hCl.below.size hb
    clear hb
    have hCl := Cls.of hst
    refine hK.out (Cls z2) (fun _ h => h) hCl ?_
    clear hK K'
    refine wpAnyH_seg (fuel := 13) (by kernel_rfl) (fun _ d _ _ _ h => by cases d <;> exact h) hCl [11, 12, 13, 14, 15, 17, 18] _ _ _ (by kernel_rfl) (by kernel_rfl) ?_
    simp only [opsOf_cons, opsOf_nil, consOp_some, List.getElem?_toArray, List.getElem?_cons_succ, List.getElem?_cons_zero]
    repeat (first | go_big_quiet_step (fail) | quiet_step (fail))
    refine wpQuiet_nil ?_
    refine wpAnyH_each (fuel := 12) [16] (by kernel_rfl) (by simp) (by kernel_rfl) ?_
    refine Each.cons _ rfl (fun K' hK => ?_) Each.nil
    go_simp
    refine (HC.out.2.2.2.2.2.2.2.1 _ (HT.out.2.1.step hCl.below).v (HT.out.2.2.1.step hCl.below).v).mono ?_
    rintro e z4 ⟨rfl, hb⟩
    have hst := below_step hCl.below hCl.below.size hb
    clear hb
    have hCl := Cls.of hst
    refine hK.out (Cls z2) (fun _ h => h) hCl ?_
    clear hK K'
    refine wpAnyH_each (fuel := 11) [19] (by kernel_rfl) (by simp) (by kernel_rfl) ?_
    refine Each.cons _ rfl (fun K' hK => ?_) Each.nil
    go_simp
    refine (HC.out.2.2.2.2.2.2.2.2 _ (HT.out.2.2.1.step hCl.below).v (HT.out.2.1.step hCl.below).v).mono ?_
    rintro e z5 ⟨rfl, hb⟩
    have hst := below_step hCl.below hCl.below.size hb
    clear hb
    have hCl := Cls.of hst
    refine hK.out (Cls z2) (fun _ h => h) hCl ?_
    clear hK K'
    refine wpAnyH_seg (fuel := 0) (by kernel_rfl) (fun _ d _ _ _ h => by cases d <;> exact h) hCl [20, 21, 22, 23, 24, 25, 26, 27, 28, 29, 30] _ _ _ (by kernel_rfl) (by kernel_rfl) ?_
    simp only [opsOf_cons, opsOf_nil, consOp_some, List.getElem?_toArray, List.getElem?_cons_succ, List.getElem?_cons_zero]
    repeat (first | go_big_quiet_step (fail) | quiet_step (fail))
    refine wpQuiet_nil ?_
    refine wpAnyH_done (by kernel_rfl) ?_ _
    replace hst := below_step HT.out.2.2.2 (Below.size HT.out.2.2.2) hst
    obtain ⟨q_n, q_m, S_n, S_m, B_b, B_d, hB⟩ := HQ.out
    clear HQ
    have sz_z5 : w5.heap.size ≤ z5.heap.size := hst.size
    replace q_n := q_n.step hst
    replace q_m := q_m.step hst
    replace S_n := S_n.step hst
    replace S_m := S_m.step hst
    replace B_b := B_b.step hst
    replace B_d := B_d.step hst
    replace hB := hB.step hst
    clear hst x_q_n0 x_q_n1 x_q_m0 x_q_m1
    have HQ := Lib.hid (And.intro q_n (And.intro q_m (And.intro S_n (And.intro S_m (And.intro B_b (And.intro B_d hB))))))
    clear q_n q_m S_n S_m B_b B_d hB
    have c_q_n0 := LK.cell HQ.out.1 0
    have c_q_n1 := LK.cell HQ.out.1 1
    have c_q_m0 := LK.cell HQ.out.2.1 0
    have c_q_m1 := LK.cell HQ.out.2.1 1
    simp at c_q_n0 c_q_n1 c_q_m0 c_q_m1
    go_wp2
    go_ret
    exact ⟨rfl, HQ.out.2.2.2.2.2.2⟩
  have me : mayE true = 0 := rfl
  rw [me]
  clear me
  have hb := (HN.out.1 (by trivial)).1
  rw [hb]
  have HBN := Lib.hid hb
  clear hb
  clear c_q_n0 c_q_n1 c_q_m0 c_q_m1
  go_upto_region 6 with (fail)
  have x_q_n0 := fun X => LK.cell (HQ.out.1.step (aft_below w5 X)) 0
  have x_q_n1 := fun X => LK.cell (HQ.out.1.step (aft_below w5 X)) 1
  have x_q_m0 := fun X => LK.cell (HQ.out.2.1.step (aft_below w5 X)) 0
  have x_q_m1 := fun X => LK.cell (HQ.out.2.1.step (aft_below w5 X)) 1
  simp at x_q_n0 x_q_n1 x_q_m0 x_q_m1
  refine wp_region_held_drew (S := Cls w5) (by kernel_rfl) (Cls.drew w5) (fun hCl => ?_)
  refine wpAnyH_seg (fuel := 28) (by kernel_rfl) (fun _ d _ _ _ h => by cases d <;> exact h) hCl [0, 1, 2] _ _ _ (by kernel_rfl) (by kernel_rfl) ?_
  simp only [opsOf_cons, opsOf_nil, consOp_some, List.getElem?_toArray, List.getElem?_cons_succ, List.getElem?_cons_zero]
  repeat (first | go_big_quiet_step (fail) | quiet_step (fail))
  refine wpQuiet_nil ?_
  refine wpAnyH_each (fuel := 27) [3] (by kernel_rfl) (by simp) (by kernel_rfl) ?_
  refine Each.cons _ rfl (fun K' hK => ?_) Each.nil
  go_simp
  refine (HC.out.2.2.2.2.1 _ (HQ.out.2.2.1.step hCl.below).v).mono ?_
  rintro e z1 ⟨rfl, hb⟩
  have hst := below_step hCl.below hCl.below.size hb
  clear hb
  have hCl := Cls.of hst
  refine hK.out (Cls w5) (fun _ h => h) hCl ?_
  clear hK K'
  refine wpAnyH_seg (fuel := 22) (by kernel_rfl) (fun _ d _ _ _ h => by cases d <;> exact h) hCl [4, 5, 6, 7, 9] _ _ _ (by kernel_rfl) (by kernel_rfl) ?_
  simp only [opsOf_cons, opsOf_nil, consOp_some, List.getElem?_toArray, List.getElem?_cons_succ, List.getElem?_cons_zero]
  repeat (first | go_big_quiet_step (fail) | quiet_step (fail))
  refine wpQuiet_nil ?_
  refine wpAnyH_each (fuel := 21) [8] (by kernel_rfl) (by simp) (by kernel_rfl) ?_
  refine Each.cons _ rfl (fun K' hK => ?_) Each.nil
  go_simp
  refine (HC.out.2.2.2.2.2.1 HG.out _ (HQ.out.2.2.1.step hCl.below).v).mono ?_
  rintro e z2 ⟨u_t, rfl, hm⟩
  have hst := below_step hCl.below hCl.below.size hm.below
  clear x_q_n0 x_q_n1 x_q_m0 x_q_m1
  have x_q_n0 := fun X => LK.cell ((HQ.out.1.step hst).step (aft_below z2 X)) 0
  have x_q_n1 := fun X => LK.cell ((HQ.out.1.step hst).step (aft_below z2 X)) 1
  have x_q_m0 := fun X => LK.cell ((HQ.out.2.1.step hst).step (aft_below z2 X)) 0
  have x_q_m1 := fun X => LK.cell ((HQ.out.2.1.step hst).step (aft_below z2 X)) 1
  simp at x_q_n0 x_q_n1 x_q_m0 x_q_m1
  have HT := Lib.hid (And.intro (LS.of (sl_itemT hm.items) (Nat.le_refl _)) (And.intro (HQ.out.2.2.1.step hst) (And.intro (HQ.out.2.2.2.1.step hst) hst)))
  clear hm
  refine hK.out (Cls z2) (Cls.sub hst) (Cls.refl z2) ?_
  have hCl := Cls.refl z2
  clear hK K'
  refine wpAnyH_each (fuel := 20) [10] (by kernel_rfl) (by simp) (by kernel_rfl) ?_
  refine Each.cons _ rfl (fun K' hK => ?_) Each.nil
  go_simp
  refine (HC.out.2.2.2.2.2.2.1 _ _ (HT.out.1.step hCl.below).v (HT.out.2.1.step hCl.below).v).mono ?_
  rintro e z3 ⟨rfl, hb⟩
  have hst := below_step hCl.below hCl.below.size hb
  clear hb
  have hCl := Cls.of hst
  refine hK.out (Cls z2) (fun _ h => h) hCl ?_
  clear hK K'
  refine wpAnyH_seg (fuel := 13) (by kernel_rfl) (fun _ d _ _ _ h => by cases d <;> exact h) hCl [11, 12, 13, 14, 15, 17, 18] _ _ _ (by kernel_rfl) (by kernel_rfl) ?_
  simp only [opsOf_cons, opsOf_nil, consOp_some, List.getElem?_toArray, List.getElem?_cons_succ, List.getElem?_cons_zero]
  repeat (first | go_big_quiet_step (fail) | quiet_step (fail))
  refine wpQuiet_nil ?_
  refine wpAnyH_each (fuel := 12) [16] (by kernel_rfl) (by simp) (by kernel_rfl) ?_
  refine Each.cons _ rfl (fun K' hK => ?_) Each.nil
  go_simp
  refine (HC.out.2.2.2.2.2.2.2.1 _ (HT.out.2.1.step hCl.below).v (HT.out.2.2.1.step hCl.below).v).mono ?_
  rintro e z4 ⟨rfl, hb⟩
  have hst := below_step hCl.below hCl.below.size hb
  clear hb
  have hCl := Cls.of hst
  refine hK.out (Cls z2) (fun _ h => h) hCl ?_
  clear hK K'
  refine wpAnyH_each (fuel := 11) [19] (by kernel_rfl) (by simp) (by kernel_rfl) ?_
  refine Each.cons _ rfl (fun K' hK => ?_) Each.nil
  go_simp
  refine (HC.out.2.2.2.2.2.2.2.2 _ (HT.out.2.2.1.step hCl.below).v (HT.out.2.1.step hCl.below).v).mono ?_
  rintro e z5 ⟨rfl, hb⟩
  have hst := below_step hCl.below hCl.below.size hb
  clear hb
  have hCl := Cls.of hst
  refine hK.out (Cls z2) (fun _ h => h) hCl ?_
  clear hK K'
  refine wpAnyH_seg (fuel := 0) (by kernel_rfl) (fun _ d _ _ _ h => by cases d <;> exact h) hCl [20, 21, 22, 23, 24, 25, 26, 27, 28, 29, 30] _ _ _ (by kernel_rfl) (by kernel_rfl) ?_
  simp only [opsOf_cons, opsOf_nil, consOp_some, List.getElem?_toArray, List.getElem?_cons_succ, List.getElem?_cons_zero]
  repeat (first | go_big_quiet_step (fail) | quiet_step (fail))
  refine wpQuiet_nil ?_
  refine wpAnyH_done (by kernel_rfl) ?_ _
  replace hst := below_step HT.out.2.2.2 (Below.size HT.out.2.2.2) hst
  obtain ⟨q_n, q_m, S_n, S_m, B_b, B_d, hB⟩ := HQ.out
  clear HQ
  have sz_z5 : w5.heap.size ≤ z5.heap.size := hst.size
  replace q_n := q_n.step hst
  replace q_m := q_m.step hst
  replace S_n := S_n.step hst
  replace S_m := S_m.step hst
  replace B_b := B_b.step hst
  replace B_d := B_d.step hst
  replace hB := hB.step hst
  clear hst x_q_n0 x_q_n1 x_q_m0 x_q_m1
  have HQ := Lib.hid (And.intro q_n (And.intro q_m (And.intro S_n (And.intro S_m (And.intro B_b (And.intro B_d hB))))))
  clear q_n q_m S_n S_m B_b B_d hB
  have c_q_n0 := LK.cell HQ.out.1 0
  have c_q_n1 := LK.cell HQ.out.1 1
  have c_q_m0 := LK.cell HQ.out.2.1 0
  have c_q_m1 := LK.cell HQ.out.2.1 1
  simp at c_q_n0 c_q_n1 c_q_m0 c_q_m1
  cases mm
  case false =>
    have me : mayE false = 8 := rfl
    rw [me]
    clear me
    go_wp2
    go_ret
    exact ⟨rfl, HQ.out.2.2.2.2.2.2⟩
  have me : mayE true = 0 := rfl
  rw [me]
  clear me
  obtain ⟨bb, bo, cb, e1, -, zb, -, zc, hcell⟩ := HQ.out.2.2.2.2.1.v.at_n HBN.out (by omega)
  injection e1 with e1 _ e2
  subst e1 e2
  have f4 := hcell 4 78 (HN.out.1 (by trivial)).2
  simp only [bV] at f4
  clear hcell
  unfold maxLen at zc
  clear c_q_n0 c_q_n1 c_q_m0 c_q_m1
  go_upto_region 10 with (fail)
  have x_q_n0 := fun X => LK.cell (HQ.out.1.step (aft_below z5 X)) 0
  have x_q_n1 := fun X => LK.cell (HQ.out.1.step (aft_below z5 X)) 1
  have x_q_m0 := fun X => LK.cell (HQ.out.2.1.step (aft_below z5 X)) 0
  have x_q_m1 := fun X => LK.cell (HQ.out.2.1.step (aft_below z5 X)) 1
  simp at x_q_n0 x_q_n1 x_q_m0 x_q_m1
  have y_4 := fun X => ((aft_below z5 X).cell (p := ⟨bb, bo + 4, none⟩) zb).trans f4
  have x_b := fun X => cv_of (HQ.out.2.2.2.2.1.step (aft_below z5 X)).v
  have x_d := fun X => cv_of (HQ.out.2.2.2.2.2.1.step (aft_below z5 X)).v
  rw [HBN.out] at x_b
  have hnm := HNM.out
  have heq := HN.out.2.2.1 (by trivial) (by trivial)
  have hcg := HN.out.2.2.2.2
  cases nm
  case false =>
    have hne : ¬ BN = BM := fun e => by have := hnm.2 (heq e); cases this
    have hneb : (BN == BM) = false := by simp [hne]
    clear hnm heq hcg hne
    refine wp_region_held_drew (S := Cls z5) (by kernel_rfl) (Cls.drew z5) (fun hCl => ?_)
    refine wpAnyH_seg (fuel := 4) (by kernel_rfl) (fun _ d _ _ _ h => by cases d <;> exact h) hCl [0, 1, 2, 3, 4, 5, 6, 7, 8, 9, 10, 11, 12, 13, 14, 15, 16, 17, 18, 19] _ _ _ (by kernel_rfl) (by kernel_rfl) ?_
    simp only [opsOf_cons, opsOf_nil, consOp_some, List.getElem?_toArray, List.getElem?_cons_succ, List.getElem?_cons_zero]
    repeat (first | go_big_quiet_step (fail) | quiet_step (fail))
    refine wpQuiet_nil ?_
    refine wpAnyH_each (fuel := 3) [20] (by kernel_rfl) (by simp) (by kernel_rfl) ?_
    refine Each.cons _ rfl (fun K' hK => ?_) Each.nil
    go_simp
    refine (HC.out.2.2.2.2.2.2.2.1 _ (HQ.out.2.2.1.step hCl.below).v (HQ.out.2.2.2.1.step hCl.below).v).mono ?_
    rintro e z21 ⟨rfl, hb⟩
    have hst := below_step hCl.below hCl.below.size hb
    clear hb
    have hCl := Cls.of hst
    refine hK.out (Cls z5) (fun _ h => h) hCl ?_
    clear hK K'
    refine wpAnyH_seg (fuel := 0) (by kernel_rfl) (fun _ d _ _ _ h => by cases d <;> exact h) hCl [21, 22, 23] _ _ _ (by kernel_rfl) (by kernel_rfl) ?_
    simp only [opsOf_cons, opsOf_nil, consOp_some, List.getElem?_toArray, List.getElem?_cons_succ, List.getElem?_cons_zero]
    repeat (first | go_big_quiet_step (fail) | quiet_step (fail))
    refine wpQuiet_nil ?_
    refine wpAnyH_done (by kernel_rfl) ?_ _
    have hBf := LW.step HQ.out.2.2.2.2.2.2 hst
    go_wp2
    go_ret
    exact ⟨rfl, hBf⟩
  case true =>
    have hee := hcg (hnm.1 rfl)
    have hneb : (BN == BM) = true := by simp [hee]
    clear hnm heq hcg hee
    refine wp_region_held_drew (S := Cls z5) (by kernel_rfl) (Cls.drew z5) (fun hCl => ?_)
    refine wpAnyH_seg (fuel := 4) (by kernel_rfl) (fun _ d _ _ _ h => by cases d <;> exact h) hCl [0, 1, 2, 3, 4, 5, 6, 7, 8, 9, 10, 11, 12, 13, 14, 15, 16, 17, 18, 19] _ _ _ (by kernel_rfl) (by kernel_rfl) ?_
    simp only [opsOf_cons, opsOf_nil, consOp_some, List.getElem?_toArray, List.getElem?_cons_succ, List.getElem?_cons_zero]
    repeat (first | go_big_quiet_step (fail) | quiet_step (fail))
    refine wpQuiet_nil ?_
    refine wpAnyH_each (fuel := 3) [20] (by kernel_rfl) (by simp) (by kernel_rfl) ?_
    refine Each.cons _ rfl (fun K' hK => ?_) Each.nil
    go_simp
    refine (HC.out.2.2.2.2.2.2.2.1 _ (HQ.out.2.2.1.step hCl.below).v (HQ.out.2.2.2.1.step hCl.below).v).mono ?_
    rintro e z21 ⟨rfl, hb⟩
    have hst := below_step hCl.below hCl.below.size hb
    clear hb
    have hCl := Cls.of hst
    refine hK.out (Cls z5) (fun _ h => h) hCl ?_
    clear hK K'
    refine wpAnyH_seg (fuel := 0) (by kernel_rfl) (fun _ d _ _ _ h => by cases d <;> exact h) hCl [21, 22, 23] _ _ _ (by kernel_rfl) (by kernel_rfl) ?_
    simp only [opsOf_cons, opsOf_nil, consOp_some, List.getElem?_toArray, List.getElem?_cons_succ, List.getElem?_cons_zero]
    repeat (first | go_big_quiet_step (fail) | quiet_step (fail))
    refine wpQuiet_nil ?_
    refine wpAnyH_done (by kernel_rfl) ?_ _
    have hBf := LW.step HQ.out.2.2.2.2.2.2 hst
    go_wp2
    go_ret
    exact ⟨rfl, hBf⟩
end Go.Proofs.Ytfdogefoodljaaa

namespace Go.Proofs.Ytfdogefoodljaaa
open Go.ChangeShapes Go.WideShapes Go.ChangeAt Go.RowKit

theorem own_ : ownKnob Try.prog.godebug = none := by kernel_rfl
theorem laidOut_ : laidOutB Try.prog = true := by kernel_rfl

end Go.Proofs.Ytfdogefoodljaaa

