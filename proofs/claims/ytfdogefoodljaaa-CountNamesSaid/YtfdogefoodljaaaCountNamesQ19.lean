/- CountNames: the words and contracts, part 19. -/
import Derived.Test.YtfdogefoodljaaaCountNamesQ1
import Derived.Test.YtfdogefoodljaaaCountNamesQ2
import Derived.Test.YtfdogefoodljaaaCountNamesQ3
import Derived.Test.YtfdogefoodljaaaCountNamesQ4
import Derived.Test.YtfdogefoodljaaaCountNamesQ5
import Derived.Test.YtfdogefoodljaaaCountNamesQ6
import Derived.Test.YtfdogefoodljaaaCountNamesQ7
import Derived.Test.YtfdogefoodljaaaCountNamesQ8
import Derived.Test.YtfdogefoodljaaaCountNamesQ9
import Derived.Test.YtfdogefoodljaaaCountNamesQ10
import Derived.Test.YtfdogefoodljaaaCountNamesQ11
import Derived.Test.YtfdogefoodljaaaCountNamesQ12
import Derived.Test.YtfdogefoodljaaaCountNamesQ13
import Derived.Test.YtfdogefoodljaaaCountNamesQ14
import Derived.Test.YtfdogefoodljaaaCountNamesQ15
import Derived.Test.YtfdogefoodljaaaCountNamesQ16
import Derived.Test.YtfdogefoodljaaaCountNamesQ17
import Derived.Test.YtfdogefoodljaaaCountNamesQ18
import Derived.Test.YtfdogefoodljaaaChecked
import Derived.WalkKit
import Derived.WalkLawsBesides
import Derived.WalkSpells
import Derived.Lib.Hide
import Derived.Laws.Rows
import Derived.Laws.AppendOwnNone
import Derived.Maps.AppendAt
import Derived.ProofKit
import Derived.Deep.Slices
import Derived.WideShapes
import Derived.RangeFuncNested
import Derived.RangeFuncBound
import Derived.RangeFuncCalls
import Derived.RangeFuncLeaves
import Derived.RangeFuncBox
import Derived.Shelf.Abstract
import Derived.Shelf.RegionOpen
import Derived.OwnWalkIn
import Derived.TacticsInMore
import Derived.LoopNIn
import Derived.LoopIn
import Derived.Lib.AppendZerosOnto
import Derived.Lib.SliceRun
import Derived.Lib.Walk
import Derived.Deep.LoopGhost
import Derived.Laws.CopyOwn
import Derived.OrdersHeld
import Derived.Deep.QuietTactic
import Derived.BigQuiet
import Derived.StillTailTactics
import Derived.OpenShut
import Derived.Deep.DeepCutAuto
import Derived.Laws.CopyRow
import Derived.Laws.MakeOwn
import Derived.Deep.RegionHeld
import Derived.KernelRfl
import Derived.BigFrameIn
import Derived.ShutString
import Derived.ChangeOld
import Derived.Below
namespace Go.Proofs.Ytfdogefoodljaaa
open Go.RowKit

theorem names7 (R A : List UInt8) (W : DiskL) (hR : R = List.replicate 256 0) (hA : A = outT R 200 1 255) (hW : W = outX newD 1 A) :
    (errT R 9 0 = 70 ∧ errT R 7 255 = 2 ∧ errT R 200 255 = 0) ∧ (errX newD 1 A = 0 ∧ errR W 1 = 0 ∧ readT W 1 = A) ∧ (errR newD 0 = 0 ∧ readT newD 0 = R) ∧ (errR W 2 = 2) ∧ (errU R = 0 ∧ u32v (sumT R) = .int .u32 227968344) ∧ mayT (List.replicate 255 0) = false := by
  have hx : errX newD 1 A = 0 := by rw [hA, hR]; decide +kernel
  have h1 := sides hx
  have hm := (errX_zero hx).2.2.2.1
  rw [← hW] at h1 hm
  refine ⟨by rw [hR]; decide +kernel, ⟨hx, h1.1, h1.2.1⟩, by rw [hR]; decide +kernel, ?_, ?_, by decide +kernel⟩
  · have : errP W 2 = 2 := by rw [errP_may hm]; rfl
    unfold errR
    rw [this]
    rfl
  · have h2 : mayT R = true := by rw [hR]; decide +kernel
    unfold errU sumT
    rw [h2]
    refine ⟨rfl, ?_⟩
    show u32v (crc R) = _
    have h3 : (crc R).toNat = 227968344 := by rw [hR]; decide +kernel
    unfold u32v
    rw [h3]
    rfl

set_option maxRecDepth 100000 in
set_option maxHeartbeats 2000000 in
theorem countNames_walk  (w : World)  :
    Calls Try.prog 8 #[] w fun e w' => e = .returned (.bool true) ∧ Below w.heap.size w w' := by
  have hB : LW w w := Below.refl _ _
  have HQ := Lib.hid (hB)
  clear hB
  obtain ⟨R, hR⟩ : ∃ R, R = List.replicate 256 (0 : UInt8) := ⟨_, rfl⟩
  obtain ⟨A, hA⟩ : ∃ A, A = outT R 200 1 255 := ⟨_, rfl⟩
  obtain ⟨W, hW⟩ : ∃ W, W = outX newD 1 A := ⟨_, rfl⟩
  obtain ⟨⟨n1, n2, n3⟩, ⟨n4, n5, n6⟩, ⟨n7, n8⟩, n9, ⟨n10, n11⟩, n12⟩ := names7 R A W hR hA hW
  have k_new := fun V => cnew_any V
  rw [← hR] at k_new
  have k_dn := fun V v hh => cdown_any v R 9 V hh
  rw [n1] at k_dn
  have k_up := fun V v hh => cup_any v R 7 V hh
  rw [n2] at k_up
  have k_u2 := fun V v hh => cup_any v R 200 V hh
  rw [n3, ← hA] at k_u2
  have k_wr := fun V b u v h1 h2 => cwrite_any b u newD 1 v A V h1 h2
  rw [n4, ← hW] at k_wr
  have k_r1 := fun V b u hh => cread_any b u W 1 V hh
  rw [n5, n6] at k_r1
  have k_r0 := fun V b u hh => cread_any b u newD 0 V hh
  rw [n7, n8] at k_r0
  have k_r2 := fun V b u hh => cread_any b u W 2 V hh
  rw [n9] at k_r2
  have k_sm := fun V v hh => csum_any v R V hh
  rw [n10, n11] at k_sm
  have k_ck := fun V v hh => ccheck_any v (List.replicate 255 0) V hh
  rw [n12, if_neg (by decide)] at k_ck
  clear n1 n2 n3 n4 n5 n6 n7 n8 n9 n10 n11 n12 hR hA hW
  have hmk : ∀ X : World, (Instr.makeSlice 22 (.int .i64 255) (.int .i64 255)).run Try.prog X = .ok (.slice (some ⟨X.heap.size, 0, none⟩) 255 255) (X.alloc (.cells (madeCells #[.int .u8 0] 255) 5)) := fun X => run_makeN (P := Try.prog) 22 5 (.int .u8 0) #[.int .u8 0] 1 1 Try.underlying22 (by kernel_rfl) rfl 255 255 255 rfl (by decide) (by decide) (by decide) X
  have hz : madeCells #[.int .u8 0] 255 = ((List.replicate 255 (0 : UInt8)).map bV).toArray := by kernel_rfl
  have hzn : ∀ X : World, Bytes (X.alloc (.cells (madeCells #[.int .u8 0] 255) 5)) X.heap.size (X.heap.size + 1) (.slice (some ⟨X.heap.size, 0, none⟩) 255 255) (List.replicate 255 0) := fun X => by rw [hz]; exact Bytes.new X _ _ (by simp [maxLen]) (0, 0)
  generalize madeCells #[.int .u8 0] 255 = Z at *
  have HZN := Lib.hid hzn
  clear hz hzn
  have HC := Lib.hid (And.intro k_new (And.intro k_dn (And.intro k_up (And.intro k_u2 (And.intro k_wr (And.intro k_r1 (And.intro k_r0 (And.intro k_r2 (And.intro k_sm k_ck)))))))))
  clear k_new k_dn k_up k_u2 k_wr k_r1 k_r0 k_r2 k_sm k_ck
  go_enter Try.func8, Try.ntmps8
  go_wp2_with fail
  refine (alive7 w).mono ?_
  rintro e w1 ⟨rfl, hst⟩
  have hB := HQ.out
  clear HQ
  have sz_w1 : w.heap.size ≤ w1.heap.size := hst.size
  replace hB := hB.step hst
  clear hst
  have HQ := Lib.hid (hB)
  clear hB
  go_wp2_with fail
  refine (HC.out.1 _).mono ?_
  rintro e w2 ⟨v_1, rfl, hm⟩
  have hB := HQ.out
  clear HQ
  have B_1 := LM.of hm
  have hst := hm.below
  obtain ⟨a_1, c_1, rfl, -, -⟩ := hm.bytes.form rfl
  clear hm
  have sz_w2 : w1.heap.size ≤ w2.heap.size := hst.size
  replace hB := hB.step hst
  clear hst
  have HQ := Lib.hid (And.intro B_1 hB)
  clear B_1 hB
  go_wp2_with fail
  refine (HC.out.2.1 _ _ HQ.out.1.v).mono ?_
  rintro e w3 ⟨v_d, rfl, hm⟩
  obtain ⟨B_1, hB⟩ := HQ.out
  clear HQ
  have hst := hm.below
  clear hm
  clear B_1
  have sz_w3 : w2.heap.size ≤ w3.heap.size := hst.size
  replace hB := hB.step hst
  clear hst
  have HQ := Lib.hid (hB)
  clear hB
  go_wp2_with fail
  refine (HC.out.1 _).mono ?_
  rintro e w4 ⟨v_2, rfl, hm⟩
  have hB := HQ.out
  clear HQ
  have B_2 := LM.of hm
  have hst := hm.below
  obtain ⟨a_2, c_2, rfl, -, -⟩ := hm.bytes.form rfl
  clear hm
  have sz_w4 : w3.heap.size ≤ w4.heap.size := hst.size
  replace hB := hB.step hst
  clear hst
  have HQ := Lib.hid (And.intro B_2 hB)
  clear B_2 hB
  go_wp2_with fail
  refine (HC.out.2.2.1 _ _ HQ.out.1.v).mono ?_
  rintro e w5 ⟨v_e, rfl, hm⟩
  obtain ⟨B_2, hB⟩ := HQ.out
  clear HQ
  have hst := hm.below
  clear hm
  clear B_2
  have sz_w5 : w4.heap.size ≤ w5.heap.size := hst.size
  replace hB := hB.step hst
  clear hst
  have HQ := Lib.hid (hB)
  clear hB
  go_wp2_with fail
  refine (HC.out.1 _).mono ?_
  rintro e w6 ⟨v_3, rfl, hm⟩
  have hB := HQ.out
  clear HQ
  have B_3 := LM.of hm
  have hst := hm.below
  obtain ⟨a_3, c_3, rfl, -, -⟩ := hm.bytes.form rfl
  clear hm
  have sz_w6 : w5.heap.size ≤ w6.heap.size := hst.size
  replace hB := hB.step hst
  clear hst
  have HQ := Lib.hid (And.intro B_3 hB)
  clear B_3 hB
  go_wp2_with fail
  refine (HC.out.2.2.2.1 _ _ HQ.out.1.v).mono ?_
  rintro e w7 ⟨v_a, rfl, hm⟩
  obtain ⟨B_3, hB⟩ := HQ.out
  clear HQ
  have B_a := LM.of hm
  have hst := hm.below
  obtain ⟨a_a, c_a, rfl, -, -⟩ := hm.bytes.form rfl
  clear hm
  clear B_3
  have sz_w7 : w6.heap.size ≤ w7.heap.size := hst.size
  replace hB := hB.step hst
  clear hst
  have HQ := Lib.hid (And.intro B_a hB)
  clear B_a hB
  go_wp2_with fail
  refine (dnew_any _).mono ?_
  rintro e w8 ⟨b_n, rfl, hm⟩
  obtain ⟨B_a, hB⟩ := HQ.out
  clear HQ
  have D_n := LT.of hm
  have hst := hm.below
  clear hm
  have sz_w8 : w7.heap.size ≤ w8.heap.size := hst.size
  replace B_a := B_a.step hst
  replace hB := hB.step hst
  clear hst
  have HQ := Lib.hid (And.intro B_a (And.intro D_n hB))
  clear B_a D_n hB
  go_wp2_with fail
  refine (HC.out.2.2.2.2.1 _ _ _ _ HQ.out.2.1.v HQ.out.1.v).mono ?_
  rintro e w9 ⟨b_w, u_w, rfl, hm⟩
  obtain ⟨B_a, D_n, hB⟩ := HQ.out
  clear HQ
  have D_W := LT.of hm
  have hst := hm.below
  obtain ⟨ab_W, cb_W, rfl, -, -, -, -⟩ := hm.v0.1
  obtain ⟨au_W, cu_W, rfl, -, -, -, -⟩ := hm.v0.2
  clear hm
  clear D_n
  have sz_w9 : w8.heap.size ≤ w9.heap.size := hst.size
  replace B_a := B_a.step hst
  replace hB := hB.step hst
  clear hst
  have HQ := Lib.hid (And.intro B_a (And.intro D_W hB))
  clear B_a D_W hB
  go_upto_region 7 with (fail)
  obtain ⟨B_a, D_W, hB⟩ := HQ.out
  clear HQ
  have hst := (Below.refl w9.heap.size w9).alloc (Nat.le_refl _) (.cells #[.slice ab_W W.blocks.length cb_W, .slice au_W W.waits.length cu_W] 33)
  have hlt : w9.heap.size < (w9.alloc (.cells #[.slice ab_W W.blocks.length cb_W, .slice au_W W.waits.length cu_W] 33)).heap.size := by simp
  have q_W := LK.new w9 (.cells #[.slice ab_W W.blocks.length cb_W, .slice au_W W.waits.length cu_W] 33)
  replace B_a := B_a.step hst
  replace D_W := D_W.step hst
  replace hB := hB.step hst
  obtain ⟨w10, hw⟩ : ∃ v, w9.alloc (.cells #[.slice ab_W W.blocks.length cb_W, .slice au_W W.waits.length cu_W] 33) = v := ⟨_, rfl⟩
  rw [hw] at hlt q_W B_a D_W hB ⊢
  clear hw hst
  have sz_w10 := hlt
  clear hlt
  have HQ := Lib.hid (And.intro B_a (And.intro D_W (And.intro q_W hB)))
  clear B_a D_W q_W hB
  have c_q_W0 := LK.cell HQ.out.2.2.1 0
  have c_q_W1 := LK.cell HQ.out.2.2.1 1
  simp at c_q_W0 c_q_W1
  go_wp2_with fail
  refine (HC.out.2.2.2.2.2.1 _ _ _ HQ.out.2.1.v).mono ?_
  rintro e w11 ⟨v_b, rfl, hm⟩
  clear c_q_W0 c_q_W1
  obtain ⟨B_a, D_W, q_W, hB⟩ := HQ.out
  clear HQ
  have B_b := LM.of hm
  have hst := hm.below
  obtain ⟨a_b, c_b, rfl, -, -⟩ := hm.bytes.form rfl
  clear hm
  have sz_w11 : w10.heap.size ≤ w11.heap.size := hst.size
  replace B_a := B_a.step hst
  replace D_W := D_W.step hst
  replace q_W := q_W.step hst
  replace hB := hB.step hst
  clear hst
  have HQ := Lib.hid (And.intro B_a (And.intro D_W (And.intro q_W (And.intro B_b hB))))
  clear B_a D_W q_W B_b hB
  have c_q_W0 := LK.cell HQ.out.2.2.1 0
  have c_q_W1 := LK.cell HQ.out.2.2.1 1
  simp at c_q_W0 c_q_W1
  go_wp2_with fail
  refine (dnew_any _).mono ?_
  rintro e w12 ⟨b_m, rfl, hm⟩
  clear c_q_W0 c_q_W1
  obtain ⟨B_a, D_W, q_W, B_b, hB⟩ := HQ.out
  clear HQ
  have D_m := LT.of hm
  have hst := hm.below
  clear hm
  have sz_w12 : w11.heap.size ≤ w12.heap.size := hst.size
  replace B_a := B_a.step hst
  replace D_W := D_W.step hst
  replace q_W := q_W.step hst
  replace B_b := B_b.step hst
  replace hB := hB.step hst
  clear hst
  have HQ := Lib.hid (And.intro B_a (And.intro D_W (And.intro q_W (And.intro B_b (And.intro D_m hB)))))
  clear B_a D_W q_W B_b D_m hB
  have c_q_W0 := LK.cell HQ.out.2.2.1 0
  have c_q_W1 := LK.cell HQ.out.2.2.1 1
  simp at c_q_W0 c_q_W1
  go_wp2_with fail
  refine (HC.out.2.2.2.2.2.2.1 _ _ _ HQ.out.2.2.2.2.1.v).mono ?_
  rintro e w13 ⟨v_c, rfl, hm⟩
  clear c_q_W0 c_q_W1
  obtain ⟨B_a, D_W, q_W, B_b, D_m, hB⟩ := HQ.out
  clear HQ
  have B_c := LM.of hm
  have hst := hm.below
  obtain ⟨a_c, c_c, rfl, -, -⟩ := hm.bytes.form rfl
  clear hm
  clear D_m
  have sz_w13 : w12.heap.size ≤ w13.heap.size := hst.size
  replace B_a := B_a.step hst
  replace D_W := D_W.step hst
  replace q_W := q_W.step hst
  replace B_b := B_b.step hst
  replace hB := hB.step hst
  clear hst
  have HQ := Lib.hid (And.intro B_a (And.intro D_W (And.intro q_W (And.intro B_b (And.intro B_c hB)))))
  clear B_a D_W q_W B_b B_c hB
  have c_q_W0 := LK.cell HQ.out.2.2.1 0
  have c_q_W1 := LK.cell HQ.out.2.2.1 1
  simp at c_q_W0 c_q_W1
  go_wp2_with fail
  refine (HC.out.2.2.2.2.2.2.2.1 _ _ _ HQ.out.2.1.v).mono ?_
  rintro e w14 ⟨v_j, rfl, hm⟩
  clear c_q_W0 c_q_W1
  obtain ⟨B_a, D_W, q_W, B_b, B_c, hB⟩ := HQ.out
  clear HQ
  have hst := hm.below
  clear hm
  clear D_W q_W
  have sz_w14 : w13.heap.size ≤ w14.heap.size := hst.size
  replace B_a := B_a.step hst
  replace B_b := B_b.step hst
  replace B_c := B_c.step hst
  replace hB := hB.step hst
  clear hst
  have HQ := Lib.hid (And.intro B_a (And.intro B_b (And.intro B_c hB)))
  clear B_a B_b B_c hB
  go_wp2_with fail
  refine (HC.out.1 _).mono ?_
  rintro e w15 ⟨v_s, rfl, hm⟩
  obtain ⟨B_a, B_b, B_c, hB⟩ := HQ.out
  clear HQ
  have B_s := LM.of hm
  have hst := hm.below
  obtain ⟨a_s, c_s, rfl, -, -⟩ := hm.bytes.form rfl
  clear hm
  have sz_w15 : w14.heap.size ≤ w15.heap.size := hst.size
  replace B_a := B_a.step hst
  replace B_b := B_b.step hst
  replace B_c := B_c.step hst
  replace hB := hB.step hst
  clear hst
  have HQ := Lib.hid (And.intro B_a (And.intro B_b (And.intro B_c (And.intro B_s hB))))
  clear B_a B_b B_c B_s hB
  go_wp2_with fail
  refine (HC.out.2.2.2.2.2.2.2.2.1 _ _ HQ.out.2.2.2.1.v).mono ?_
  rintro e w16 ⟨rfl, hst⟩
  obtain ⟨B_a, B_b, B_c, B_s, hB⟩ := HQ.out
  clear HQ
  clear B_s
  have sz_w16 : w15.heap.size ≤ w16.heap.size := hst.size
  replace B_a := B_a.step hst
  replace B_b := B_b.step hst
  replace B_c := B_c.step hst
  replace hB := hB.step hst
  clear hst
  have HQ := Lib.hid (And.intro B_a (And.intro B_b (And.intro B_c hB)))
  clear B_a B_b B_c hB
  go_upto_region 11 with (fail)
  have x_a := fun X => cv_of (HQ.out.1.step (aft_below w16 X)).v
  have x_b := fun X => cv_of (HQ.out.2.1.step (aft_below w16 X)).v
  have x_c := fun X => cv_of (HQ.out.2.2.1.step (aft_below w16 X)).v
  refine wp_region_held_drew (S := Cls w16) (by kernel_rfl) (Cls.drew w16) (fun hCl => ?_)
  refine wpAnyH_seg (fuel := 22) (by kernel_rfl) (fun _ d _ _ _ h => by cases d <;> exact h) hCl [0, 1, 2, 3, 4, 5, 6, 7, 8, 9, 10, 11, 12, 13, 14, 15, 16, 17, 18, 19, 20, 21, 22, 23, 24, 25, 26, 27, 28, 29] _ _ _ (by kernel_rfl) (by kernel_rfl) ?_
  simp only [opsOf_cons, opsOf_nil, consOp_some, List.getElem?_toArray, List.getElem?_cons_succ, List.getElem?_cons_zero]
  repeat (first | go_big_quiet_step (fail) | quiet_step (fail))
  refine wpQuiet_nil ?_
  refine wpAnyH_each (fuel := 21) [30] (by kernel_rfl) (by simp) (by kernel_rfl) ?_
  refine Each.cons _ rfl (fun K' hK => ?_) Each.nil
  go_simp
  refine (HC.out.1 _).mono ?_
  rintro e z1 ⟨v_g, rfl, hm⟩
  have hst := below_step hCl.below hCl.below.size hm.below
  have x_g := fun X => cv_of ((LM.of hm).step (aft_below z1 X)).v
  have hB9 := LW.step HQ.out.2.2.2 hst
  have HB9 := Lib.hid hB9
  clear hm hB9 x_a x_b x_c
  have x_a := fun X => cv_of ((HQ.out.1.step hst).step (aft_below z1 X)).v
  have x_b := fun X => cv_of ((HQ.out.2.1.step hst).step (aft_below z1 X)).v
  have x_c := fun X => cv_of ((HQ.out.2.2.1.step hst).step (aft_below z1 X)).v
  refine hK.out (Cls z1) (Cls.sub hst) (Cls.refl z1) ?_
  have hCl := Cls.refl z1
  clear hK K'
  refine wpAnyH_seg (fuel := 13) (by kernel_rfl) (fun _ d _ _ _ h => by cases d <;> exact h) hCl [31, 32, 33, 34, 35, 36, 37, 38] _ _ _ (by kernel_rfl) (by kernel_rfl) ?_
  simp only [opsOf_cons, opsOf_nil, consOp_some, List.getElem?_toArray, List.getElem?_cons_succ, List.getElem?_cons_zero]
  repeat (first | go_big_quiet_step (fail) | quiet_step (fail))
  refine wpQuiet_nil ?_
  refine wpAnyH_each (fuel := 12) [39] (by kernel_rfl) (by simp) (by kernel_rfl) ?_
  refine Each.cons _ rfl (fun K' hK => ?_) Each.nil
  go_simp
  have hst := below_step hCl.below hCl.below.size ((Below.refl _ _).alloc (Nat.le_refl _) (.cells Z 5))
  have hCl := Cls.of hst
  refine hK.out (Cls z1) (fun _ h => h) hCl ?_
  clear hK K'
  refine wpAnyH_each (fuel := 11) [40] (by kernel_rfl) (by simp) (by kernel_rfl) ?_
  refine Each.cons _ rfl (fun K' hK => ?_) Each.nil
  go_simp
  refine (HC.out.2.2.2.2.2.2.2.2.2 _ _ ((HZN.out _).more (Nat.zero_le _) (by simp))).mono ?_
  rintro e z3 ⟨rfl, rfl⟩
  have hst := hCl.below
  have hCl := Cls.of hst
  refine hK.out (Cls z1) (fun _ h => h) hCl ?_
  clear hK K'
  refine wpAnyH_seg (fuel := 0) (by kernel_rfl) (fun _ d _ _ _ h => by cases d <;> exact h) hCl [41, 42, 43, 44, 45, 46, 47, 48, 49, 50, 51] _ _ _ (by kernel_rfl) (by kernel_rfl) ?_
  simp only [opsOf_cons, opsOf_nil, consOp_some, List.getElem?_toArray, List.getElem?_cons_succ, List.getElem?_cons_zero]
  repeat (first | go_big_quiet_step (fail) | quiet_step (fail))
  refine wpQuiet_nil ?_
  refine wpAnyH_done (by kernel_rfl) ?_ _
  have hBf := below_step HB9.out HB9.out.size hst
  go_wp2
  go_ret
  exact ⟨rfl, hBf⟩
end Go.Proofs.Ytfdogefoodljaaa

namespace Go.Proofs.Ytfdogefoodljaaa
open Go.ChangeShapes Go.WideShapes Go.ChangeAt Go.RowKit

theorem own_ : ownKnob Try.prog.godebug = none := by kernel_rfl
end Go.Proofs.Ytfdogefoodljaaa

