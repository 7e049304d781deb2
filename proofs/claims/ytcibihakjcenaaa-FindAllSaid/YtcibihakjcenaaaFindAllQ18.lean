/- FindAll: the words and contracts, part 18. -/
import Derived.Test.YtcibihakjcenaaaFindAllQ1
import Derived.Test.YtcibihakjcenaaaFindAllQ2
import Derived.Test.YtcibihakjcenaaaFindAllQ3
import Derived.Test.YtcibihakjcenaaaFindAllQ4
import Derived.Test.YtcibihakjcenaaaFindAllQ5
import Derived.Test.YtcibihakjcenaaaFindAllQ6
import Derived.Test.YtcibihakjcenaaaFindAllQ7
import Derived.Test.YtcibihakjcenaaaFindAllQ8
import Derived.Test.YtcibihakjcenaaaFindAllQ9
import Derived.Test.YtcibihakjcenaaaFindAllQ10
import Derived.Test.YtcibihakjcenaaaFindAllQ11
import Derived.Test.YtcibihakjcenaaaFindAllQ12
import Derived.Test.YtcibihakjcenaaaFindAllQ13
import Derived.Test.YtcibihakjcenaaaFindAllQ14
import Derived.Test.YtcibihakjcenaaaFindAllQ15
import Derived.Test.YtcibihakjcenaaaFindAllQ16
import Derived.Test.YtcibihakjcenaaaFindAllQ17
import Derived.WalkKit
import Derived.WalkLawsBesides
import Derived.WalkSpells
import Derived.Lib.Hide
import Derived.Laws.Rows
import Derived.Laws.AppendOwnNone
import Derived.Maps.AppendAt
import Derived.ProofKit
import Derived.Deep.Slices
import Derived.WideShapes
import Derived.RangeFuncNested
import Derived.RangeFuncBound
import Derived.RangeFuncCalls
import Derived.RangeFuncLeaves
import Derived.RangeFuncBox
import Derived.Shelf.Abstract
import Derived.Shelf.RegionOpen
import Derived.OwnWalkIn
import Derived.TacticsInMore
import Derived.LoopNIn
import Derived.LoopIn
import Derived.Lib.AppendZerosOnto
import Derived.Lib.SliceRun
import Derived.Lib.Walk
import Derived.Deep.LoopGhost
import Derived.Laws.CopyOwn
import Derived.Laws.CopyRow
import Derived.OrdersHeld
import Derived.Deep.QuietTactic
import Derived.BigQuiet
import Derived.StillTailTactics
import Derived.OpenShut
import Derived.Deep.DeepCutAuto
import Derived.Laws.MakeOwn
import Derived.Deep.RegionHeld
import Derived.KernelRfl
import Derived.BigFrameIn
import Derived.OrdersIn
import Derived.Laws.EntriesVeiled
import Derived.Sort.CutIn
import Derived.ArgAppend
namespace Go.Proofs.Ytcibihakjcenaaa
open Go.RowKit

theorem itm3_words : itmF (madT 2) 9 (kOf 3) = nokI := by
  obtain ⟨-, -, -, -, -, -, h, -⟩ := tree_words
  unfold itmF
  rw [h]
  rfl
set_option maxRecDepth 100000 in
set_option maxHeartbeats 4000000 in
theorem aliveF  (w : World)  :
    Calls Try.prog 33 #[] w fun e w' => e = .returned (.bool true) ∧ Below w.heap.size w w' := by
  have hB : LW w w := Below.refl _ _
  have HQ := Lib.hid (hB)
  clear hB
  have k_m := fun V => fmade_any 2 V ⟨made_words.2.2.1, made_words.2.2.2.1⟩
  have k_u := fun V => fmade_any 1 V ⟨made_words.2.2.2.2.1, made_words.2.2.2.2.2⟩
  rw [show (((2 : UInt32).toNat : Nat) : Int) = 2 from rfl] at k_m
  rw [show (((1 : UInt32).toNat : Nat) : Int) = 1 from rfl] at k_u
  obtain ⟨t1, t2, t3, t4, t5, t6, t7, t8, t9, t10⟩ := tree_words
  have t11 := itm3_words
  obtain ⟨T, hT⟩ : ∃ T, madT 2 = T := ⟨_, rfl⟩
  obtain ⟨U, hU⟩ : ∃ T, madT 1 = T := ⟨_, rfl⟩
  rw [hT] at k_m t1 t2 t3 t4 t5 t6 t7 t8 t9 t11
  rw [hU] at k_u t10
  clear hT hU
  have k_k := fun n V => fkey_any n V
  have k_f := fun V b u x y h => ffind_any b u x y T 9 (kOf 4) V h
  rw [t8, t9] at k_f
  simp only [bV, wV, itemV, kOf] at k_f
  rw [show (((4 : UInt32).toNat : Nat) : Int) = 4 from rfl, show (((2 : UInt8).toNat : Nat) : Int) = 2 from rfl, show (((0 : UInt32).toNat : Nat) : Int) = 0 from rfl] at k_f
  clear k_u t1 t2 t3 t4 t5 t6 t7 t8 t9 t10 t11
  have HC := Lib.hid (And.intro k_m (And.intro k_k k_f))
  clear k_m k_k k_f
  go_enter Try.func33, Try.ntmps33
  go_wp2_with fail
  refine (HC.out.1 _).mono ?_
  rintro e w1 ⟨b1, u1, x1, y1, rfl, hm⟩
  have hB := HQ.out
  clear HQ
  have P_t := LP.of hm
  have hst := hm.below
  obtain ⟨ab_t, cb_t, rfl, -, -, -, -⟩ := hm.store.v.1.1
  obtain ⟨au_t, cu_t, rfl, -, -, -, -⟩ := hm.store.v.1.2
  obtain ⟨ax_t, cx_t, rfl, -, -⟩ := hm.store.v.2.1.form rfl
  obtain ⟨ay_t, cy_t, rfl, -, -⟩ := hm.store.v.2.2.form rfl
  clear hm
  have sz_w1 : w.heap.size ≤ w1.heap.size := hst.size
  replace hB := hB.step hst
  clear hst
  have HQ := Lib.hid (And.intro P_t hB)
  clear P_t hB
  go_upto_region 2 with (fail)
  obtain ⟨P_t, hB⟩ := HQ.out
  clear HQ
  have hst := (Below.refl w1.heap.size w1).alloc (Nat.le_refl _) (.cells #[.slice ab_t T.disk.blocks.length cb_t, .slice au_t T.disk.waits.length cu_t, .slice ax_t T.now.length cx_t, .slice ay_t T.last.length cy_t] 46)
  have hlt : w1.heap.size < (w1.alloc (.cells #[.slice ab_t T.disk.blocks.length cb_t, .slice au_t T.disk.waits.length cu_t, .slice ax_t T.now.length cx_t, .slice ay_t T.last.length cy_t] 46)).heap.size := by simp
  have q_t := LK.new w1 (.cells #[.slice ab_t T.disk.blocks.length cb_t, .slice au_t T.disk.waits.length cu_t, .slice ax_t T.now.length cx_t, .slice ay_t T.last.length cy_t] 46)
  replace P_t := P_t.step hst
  replace hB := hB.step hst
  obtain ⟨w2, hw⟩ : ∃ v, w1.alloc (.cells #[.slice ab_t T.disk.blocks.length cb_t, .slice au_t T.disk.waits.length cu_t, .slice ax_t T.now.length cx_t, .slice ay_t T.last.length cy_t] 46) = v := ⟨_, rfl⟩
  rw [hw] at hlt q_t P_t hB ⊢
  clear hw hst
  have sz_w2 := hlt
  clear hlt
  have HQ := Lib.hid (And.intro P_t (And.intro q_t hB))
  clear P_t q_t hB
  have c_q_t0 := LK.cell HQ.out.2.1 0
  have c_q_t1 := LK.cell HQ.out.2.1 1
  have c_q_t2 := LK.cell HQ.out.2.1 2
  have c_q_t3 := LK.cell HQ.out.2.1 3
  simp at c_q_t0 c_q_t1 c_q_t2 c_q_t3
  go_cut [3, 4] (fun t1 t2 wx => ∃ (g lo hi c : Nat) (a : Option Addr), t1 = .pointer (some ⟨g, 0, none⟩) ∧ t2 = .int .i64 0 ∧ LK g (.cells #[.int .u8 2, .int .u32 0, .int .u32 4, .int .i64 0, .slice a 1 c] 56) wx ∧ LB lo hi (.slice a 1 c) [7] wx ∧ Below w2.heap.size w2 wx)
  case first =>
    clear c_q_t0 c_q_t1 c_q_t2 c_q_t3
    have x_t0 := fun X => LK.cell (HQ.out.2.1.step (aft_below w2 X)) 0
    have x_t1 := fun X => LK.cell (HQ.out.2.1.step (aft_below w2 X)) 1
    have x_t2 := fun X => LK.cell (HQ.out.2.1.step (aft_below w2 X)) 2
    have x_t3 := fun X => LK.cell (HQ.out.2.1.step (aft_below w2 X)) 3
    simp at x_t0 x_t1 x_t2 x_t3
    refine wp_region_held_drew (S := Cls w2) (by kernel_rfl) (Cls.drew w2) (fun hCl => ?_)
    refine wpAnyH_seg (fuel := 8) (by kernel_rfl) (fun _ d _ _ _ h => by cases d <;> exact h) hCl [0] _ _ _ (by kernel_rfl) (by kernel_rfl) ?_
    simp only [opsOf_cons, opsOf_nil, consOp_some, List.getElem?_toArray, List.getElem?_cons_zero]
    repeat (first | go_big_quiet_step (fail) | quiet_step (fail))
    refine wpQuiet_nil ?_
    refine wpAnyH_each (fuel := 7) [1, 6] (by kernel_rfl) (by simp) (by kernel_rfl) ?_
    refine Each.cons _ rfl (fun K' hK => ?_) ?_
    · go_simp
      refine (HC.out.2.1 4 _).mono ?_
      rintro e z1 ⟨rfl, hs⟩
      have sz_z1 : w2.drew.heap.size ≤ z1.heap.size := hs.size
      have hst := below_step hCl.below hCl.below.size hs
      clear hs
      have hCl := Cls.of hst
      refine hK.out (Cls w2) (fun _ h => h) hCl ?_
      clear hK K'
      refine wpAnyH_each (fuel := 6) [2, 6] (by kernel_rfl) (by simp) (by kernel_rfl) ?_
      refine Each.cons _ rfl (fun K' hK => ?_) ?_
      · go_simp
        refine (HC.out.2.2 _ _ _ _ _ (HQ.out.1.step hCl.below).v).mono ?_
        rintro e z2 ⟨v9, rfl, hm⟩
        have hs := hm.below
        have hv9 := hm.bytes
        obtain ⟨a9, c9, rfl, -, -⟩ := hv9.form (n := 1) rfl
        clear hv9
        have F2 := LB.of hm.bytes (Nat.le_refl _)
        have sz_z2 : z1.heap.size ≤ z2.heap.size := hs.size
        have hst := below_step hCl.below hCl.below.size hs
        clear hs
        have hCl := Cls.of hst
        refine hK.out (Cls w2) (fun _ h => h) hCl ?_
        clear hK K'
        refine wpAnyH_seg (fuel := 3) (by kernel_rfl) (fun _ d _ _ _ h => by cases d <;> exact h) hCl [3, 4, 5] _ _ _ (by kernel_rfl) (by kernel_rfl) ?_
        simp only [opsOf_cons, opsOf_nil, consOp_some, List.getElem?_toArray, List.getElem?_cons_succ, List.getElem?_cons_zero]
        repeat (first | go_big_quiet_step (fail) | quiet_step (fail))
        refine wpQuiet_nil ?_
        refine wpAnyH_each (fuel := 2) [6] (by kernel_rfl) (by simp) (by kernel_rfl) ?_
        refine Each.cons _ rfl (fun K' hK => ?_) Each.nil
        go_simp
        have hs := cls_alloc hCl (.cells #[.int .u8 0, .int .u32 0, .int .u32 0, .int .i64 0, .slice none 0 0] 56)
        have F6 : LK z2.heap.size (.cells #[.int .u8 0, .int .u32 0, .int .u32 0, .int .i64 0, .slice none 0 0] 56) _ := cls_new hCl (.cells #[.int .u8 0, .int .u32 0, .int .u32 0, .int .i64 0, .slice none 0 0] 56)
        have hlt : z2.heap.size < (z2.alloc (.cells #[.int .u8 0, .int .u32 0, .int .u32 0, .int .i64 0, .slice none 0 0] 56)).heap.size := by simp
        replace F2 := F2.step hs
        have hst := below_step hCl.below hCl.below.size hs
        have lo_F6 := hCl.below.size
        obtain ⟨z3, hz⟩ : ∃ v, z2.alloc (.cells #[.int .u8 0, .int .u32 0, .int .u32 0, .int .i64 0, .slice none 0 0] 56) = v := ⟨_, rfl⟩
        have hz2 : z2.alloc (.cells #[.int .u8 0, .int .u32 0, .int .u32 0, .int .i64 0, .slice none 0 0] 56) = z3 := hz
        rw [hz] at ⊢
        rw [hz2] at hst hlt F2 F6
        have sz_z3 := hlt
        clear hz hz2 hs hlt
        have hCl := Cls.of hst
        refine hK.out (Cls w2) (fun _ h => h) hCl ?_
        clear hK K'
        refine wpAnyH_each (fuel := 1) [7] (by kernel_rfl) (by simp) (by kernel_rfl) ?_
        refine Each.cons _ rfl (fun K' hK => ?_) Each.nil
        have hcb := LK.blk F6
        have r0 := LK.cell F6 0
        have r1 := LK.cell F6 1
        have r2 := LK.cell F6 2
        have r3 := LK.cell F6 3
        have r4 := LK.cell F6 4
        simp at r0 r1 r2 r3 r4
        have s0 := LK.frozen F6 0
        have s1 := LK.frozen F6 1
        have s2 := LK.frozen F6 2
        have s3 := LK.frozen F6 3
        have s4 := LK.frozen F6 4
        go_simp
        have F8 : LK (z2.heap.size) (.cells #[.int .u8 2, .int .u32 0, .int .u32 4, .int .i64 0, .slice a9 1 c9] 56) (((((z3.setCell ⟨z2.heap.size, 0, none⟩ (.int .u8 2)).setCell ⟨z2.heap.size, 1, none⟩ (.int .u32 0)).setCell ⟨z2.heap.size, 2, none⟩ (.int .u32 4)).setCell ⟨z2.heap.size, 3, none⟩ (.int .i64 0)).setCell ⟨z2.heap.size, 4, none⟩ (.slice a9 1 c9)) := LK.of (set_block (set_block (set_block (set_block (set_block hcb 0 _) 1 _) 2 _) 3 _) 4 _)
        have hst := Below.trans hCl.below ((below_four z3 (.int .u8 2) (.int .u32 0) (.int .u32 4) (.int .i64 0) lo_F6).setCell (p := ⟨z2.heap.size, 4, none⟩) lo_F6 (.slice a9 1 c9))
        have hfr : ∀ x, x < z3.heap.size → (x < z2.heap.size ∨ z2.heap.size + 1 ≤ x) → (((((z3.setCell ⟨z2.heap.size, 0, none⟩ (.int .u8 2)).setCell ⟨z2.heap.size, 1, none⟩ (.int .u32 0)).setCell ⟨z2.heap.size, 2, none⟩ (.int .u32 4)).setCell ⟨z2.heap.size, 3, none⟩ (.int .i64 0)).setCell ⟨z2.heap.size, 4, none⟩ (.slice a9 1 c9)).heap[x]? = z3.heap[x]? := fun x _ h => ((set_other _ _ _ _ _ (by omega)).trans ((set_other _ _ _ _ _ (by omega)).trans ((set_other _ _ _ _ _ (by omega)).trans ((set_other _ _ _ _ _ (by omega)).trans (set_other _ _ _ _ _ (by omega))))))
        have F9 := F2.out (V' := (((((z3.setCell ⟨z2.heap.size, 0, none⟩ (.int .u8 2)).setCell ⟨z2.heap.size, 1, none⟩ (.int .u32 0)).setCell ⟨z2.heap.size, 2, none⟩ (.int .u32 4)).setCell ⟨z2.heap.size, 3, none⟩ (.int .i64 0)).setCell ⟨z2.heap.size, 4, none⟩ (.slice a9 1 c9))) (by simp only [World.size_setCell]; omega) hfr (by omega)
        have hCl := Cls.of hst
        refine hK.out (Cls w2) (fun _ h => h) hCl ?_
        clear hK K'
        refine wpAnyH_seg (fuel := 0) (by kernel_rfl) (fun _ d _ _ _ h => by cases d <;> exact h) hCl [8] _ _ _ (by kernel_rfl) (by kernel_rfl) ?_
        simp only [opsOf_cons, opsOf_nil, consOp_some, List.getElem?_toArray, List.getElem?_cons_succ, List.getElem?_cons_zero]
        repeat (first | go_big_quiet_step (fail) | quiet_step (fail))
        refine wpQuiet_nil ?_
        refine wpAnyH_done (by kernel_rfl) ?_ _
        go_wp2
        go_meet
        exact ⟨_, _, _, _, _, rfl, rfl, F8, F9, hst⟩
      refine Each.cons _ rfl (fun K' hK => ?_) ?_
      · go_simp
        have hs := cls_alloc hCl (.cells #[.int .u8 0, .int .u32 0, .int .u32 0, .int .i64 0, .slice none 0 0] 56)
        have F6 : LK z1.heap.size (.cells #[.int .u8 0, .int .u32 0, .int .u32 0, .int .i64 0, .slice none 0 0] 56) _ := cls_new hCl (.cells #[.int .u8 0, .int .u32 0, .int .u32 0, .int .i64 0, .slice none 0 0] 56)
        have hlt : z1.heap.size < (z1.alloc (.cells #[.int .u8 0, .int .u32 0, .int .u32 0, .int .i64 0, .slice none 0 0] 56)).heap.size := by simp
        have hst := below_step hCl.below hCl.below.size hs
        have lo_F6 := hCl.below.size
        obtain ⟨z5, hz⟩ : ∃ v, z1.alloc (.cells #[.int .u8 0, .int .u32 0, .int .u32 0, .int .i64 0, .slice none 0 0] 56) = v := ⟨_, rfl⟩
        have hz2 : z1.alloc (.cells #[.int .u8 0, .int .u32 0, .int .u32 0, .int .i64 0, .slice none 0 0] 56) = z5 := hz
        rw [hz] at ⊢
        rw [hz2] at hst hlt F6
        have sz_z5 := hlt
        clear hz hz2 hs hlt
        have hCl := Cls.of hst
        refine hK.out (Cls w2) (fun _ h => h) hCl ?_
        clear hK K'
        refine wpAnyH_each (fuel := 5) [2] (by kernel_rfl) (by simp) (by kernel_rfl) ?_
        refine Each.cons _ rfl (fun K' hK => ?_) Each.nil
        go_simp
        refine (HC.out.2.2 _ _ _ _ _ (HQ.out.1.step hCl.below).v).mono ?_
        rintro e z6 ⟨v9, rfl, hm⟩
        have hs := hm.below
        have hv9 := hm.bytes
        obtain ⟨a9, c9, rfl, -, -⟩ := hv9.form (n := 1) rfl
        clear hv9
        replace F6 := F6.step hs
        have F2 := LB.of hm.bytes (Nat.le_refl _)
        have sz_z6 : z5.heap.size ≤ z6.heap.size := hs.size
        have hst := below_step hCl.below hCl.below.size hs
        clear hs
        have hCl := Cls.of hst
        refine hK.out (Cls w2) (fun _ h => h) hCl ?_
        clear hK K'
        refine wpAnyH_seg (fuel := 2) (by kernel_rfl) (fun _ d _ _ _ h => by cases d <;> exact h) hCl [3, 4, 5] _ _ _ (by kernel_rfl) (by kernel_rfl) ?_
        simp only [opsOf_cons, opsOf_nil, consOp_some, List.getElem?_toArray, List.getElem?_cons_succ, List.getElem?_cons_zero]
        repeat (first | go_big_quiet_step (fail) | quiet_step (fail))
        refine wpQuiet_nil ?_
        refine wpAnyH_each (fuel := 1) [7] (by kernel_rfl) (by simp) (by kernel_rfl) ?_
        refine Each.cons _ rfl (fun K' hK => ?_) Each.nil
        have hcb := LK.blk F6
        have r0 := LK.cell F6 0
        have r1 := LK.cell F6 1
        have r2 := LK.cell F6 2
        have r3 := LK.cell F6 3
        have r4 := LK.cell F6 4
        simp at r0 r1 r2 r3 r4
        have s0 := LK.frozen F6 0
        have s1 := LK.frozen F6 1
        have s2 := LK.frozen F6 2
        have s3 := LK.frozen F6 3
        have s4 := LK.frozen F6 4
        go_simp
        have F8 : LK (z1.heap.size) (.cells #[.int .u8 2, .int .u32 0, .int .u32 4, .int .i64 0, .slice a9 1 c9] 56) (((((z6.setCell ⟨z1.heap.size, 0, none⟩ (.int .u8 2)).setCell ⟨z1.heap.size, 1, none⟩ (.int .u32 0)).setCell ⟨z1.heap.size, 2, none⟩ (.int .u32 4)).setCell ⟨z1.heap.size, 3, none⟩ (.int .i64 0)).setCell ⟨z1.heap.size, 4, none⟩ (.slice a9 1 c9)) := LK.of (set_block (set_block (set_block (set_block (set_block hcb 0 _) 1 _) 2 _) 3 _) 4 _)
        have hst := Below.trans hCl.below ((below_four z6 (.int .u8 2) (.int .u32 0) (.int .u32 4) (.int .i64 0) lo_F6).setCell (p := ⟨z1.heap.size, 4, none⟩) lo_F6 (.slice a9 1 c9))
        have hfr : ∀ x, x < z6.heap.size → (x < z1.heap.size ∨ z1.heap.size + 1 ≤ x) → (((((z6.setCell ⟨z1.heap.size, 0, none⟩ (.int .u8 2)).setCell ⟨z1.heap.size, 1, none⟩ (.int .u32 0)).setCell ⟨z1.heap.size, 2, none⟩ (.int .u32 4)).setCell ⟨z1.heap.size, 3, none⟩ (.int .i64 0)).setCell ⟨z1.heap.size, 4, none⟩ (.slice a9 1 c9)).heap[x]? = z6.heap[x]? := fun x _ h => ((set_other _ _ _ _ _ (by omega)).trans ((set_other _ _ _ _ _ (by omega)).trans ((set_other _ _ _ _ _ (by omega)).trans ((set_other _ _ _ _ _ (by omega)).trans (set_other _ _ _ _ _ (by omega))))))
        have F9 := F2.out (V' := (((((z6.setCell ⟨z1.heap.size, 0, none⟩ (.int .u8 2)).setCell ⟨z1.heap.size, 1, none⟩ (.int .u32 0)).setCell ⟨z1.heap.size, 2, none⟩ (.int .u32 4)).setCell ⟨z1.heap.size, 3, none⟩ (.int .i64 0)).setCell ⟨z1.heap.size, 4, none⟩ (.slice a9 1 c9))) (by simp only [World.size_setCell]; omega) hfr (by omega)
        have hCl := Cls.of hst
        refine hK.out (Cls w2) (fun _ h => h) hCl ?_
        clear hK K'
        refine wpAnyH_seg (fuel := 0) (by kernel_rfl) (fun _ d _ _ _ h => by cases d <;> exact h) hCl [8] _ _ _ (by kernel_rfl) (by kernel_rfl) ?_
        simp only [opsOf_cons, opsOf_nil, consOp_some, List.getElem?_toArray, List.getElem?_cons_succ, List.getElem?_cons_zero]
        repeat (first | go_big_quiet_step (fail) | quiet_step (fail))
        refine wpQuiet_nil ?_
        refine wpAnyH_done (by kernel_rfl) ?_ _
        go_wp2
        go_meet
        exact ⟨_, _, _, _, _, rfl, rfl, F8, F9, hst⟩
      exact Each.nil
    refine Each.cons _ rfl (fun K' hK => ?_) ?_
    · go_simp
      have hs := cls_alloc hCl (.cells #[.int .u8 0, .int .u32 0, .int .u32 0, .int .i64 0, .slice none 0 0] 56)
      have F6 : LK w2.heap.size (.cells #[.int .u8 0, .int .u32 0, .int .u32 0, .int .i64 0, .slice none 0 0] 56) _ := cls_new hCl (.cells #[.int .u8 0, .int .u32 0, .int .u32 0, .int .i64 0, .slice none 0 0] 56)
      have hlt : w2.drew.heap.size < (w2.drew.alloc (.cells #[.int .u8 0, .int .u32 0, .int .u32 0, .int .i64 0, .slice none 0 0] 56)).heap.size := by simp
      have hst := below_step hCl.below hCl.below.size hs
      have lo_F6 := hCl.below.size
      obtain ⟨z8, hz⟩ : ∃ v, (w2.alloc (.cells #[.int .u8 0, .int .u32 0, .int .u32 0, .int .i64 0, .slice none 0 0] 56)).drew = v := ⟨_, rfl⟩
      have hz2 : w2.drew.alloc (.cells #[.int .u8 0, .int .u32 0, .int .u32 0, .int .i64 0, .slice none 0 0] 56) = z8 := hz
      rw [hz] at ⊢
      rw [hz2] at hst hlt F6
      have sz_z8 := hlt
      clear hz hz2 hs hlt
      have hCl := Cls.of hst
      refine hK.out (Cls w2) (fun _ h => h) hCl ?_
      clear hK K'
      refine wpAnyH_each (fuel := 6) [1] (by kernel_rfl) (by simp) (by kernel_rfl) ?_
      refine Each.cons _ rfl (fun K' hK => ?_) Each.nil
      go_simp
      refine (HC.out.2.1 4 _).mono ?_
      rintro e z9 ⟨rfl, hs⟩
      replace F6 := F6.step hs
      have sz_z9 : z8.heap.size ≤ z9.heap.size := hs.size
      have hst := below_step hCl.below hCl.below.size hs
      clear hs
      have hCl := Cls.of hst
      refine hK.out (Cls w2) (fun _ h => h) hCl ?_
      clear hK K'
      refine wpAnyH_each (fuel := 5) [2] (by kernel_rfl) (by simp) (by kernel_rfl) ?_
      refine Each.cons _ rfl (fun K' hK => ?_) Each.nil
      go_simp
      refine (HC.out.2.2 _ _ _ _ _ (HQ.out.1.step hCl.below).v).mono ?_
      rintro e z10 ⟨v9, rfl, hm⟩
      have hs := hm.below
      have hv9 := hm.bytes
      obtain ⟨a9, c9, rfl, -, -⟩ := hv9.form (n := 1) rfl
      clear hv9
      replace F6 := F6.step hs
      have F2 := LB.of hm.bytes (Nat.le_refl _)
      have sz_z10 : z9.heap.size ≤ z10.heap.size := hs.size
      have hst := below_step hCl.below hCl.below.size hs
      clear hs
      have hCl := Cls.of hst
      refine hK.out (Cls w2) (fun _ h => h) hCl ?_
      clear hK K'
      refine wpAnyH_seg (fuel := 2) (by kernel_rfl) (fun _ d _ _ _ h => by cases d <;> exact h) hCl [3, 4, 5] _ _ _ (by kernel_rfl) (by kernel_rfl) ?_
      simp only [opsOf_cons, opsOf_nil, consOp_some, List.getElem?_toArray, List.getElem?_cons_succ, List.getElem?_cons_zero]
      repeat (first | go_big_quiet_step (fail) | quiet_step (fail))
      refine wpQuiet_nil ?_
      refine wpAnyH_each (fuel := 1) [7] (by kernel_rfl) (by simp) (by kernel_rfl) ?_
      refine Each.cons _ rfl (fun K' hK => ?_) Each.nil
      have hcb := LK.blk F6
      have r0 := LK.cell F6 0
      have r1 := LK.cell F6 1
      have r2 := LK.cell F6 2
      have r3 := LK.cell F6 3
      have r4 := LK.cell F6 4
      simp at r0 r1 r2 r3 r4
      have s0 := LK.frozen F6 0
      have s1 := LK.frozen F6 1
      have s2 := LK.frozen F6 2
      have s3 := LK.frozen F6 3
      have s4 := LK.frozen F6 4
      go_simp
      have F8 : LK (w2.heap.size) (.cells #[.int .u8 2, .int .u32 0, .int .u32 4, .int .i64 0, .slice a9 1 c9] 56) (((((z10.setCell ⟨w2.heap.size, 0, none⟩ (.int .u8 2)).setCell ⟨w2.heap.size, 1, none⟩ (.int .u32 0)).setCell ⟨w2.heap.size, 2, none⟩ (.int .u32 4)).setCell ⟨w2.heap.size, 3, none⟩ (.int .i64 0)).setCell ⟨w2.heap.size, 4, none⟩ (.slice a9 1 c9)) := LK.of (set_block (set_block (set_block (set_block (set_block hcb 0 _) 1 _) 2 _) 3 _) 4 _)
      have hst := Below.trans hCl.below ((below_four z10 (.int .u8 2) (.int .u32 0) (.int .u32 4) (.int .i64 0) lo_F6).setCell (p := ⟨w2.heap.size, 4, none⟩) lo_F6 (.slice a9 1 c9))
      have hfr : ∀ x, x < z10.heap.size → (x < w2.heap.size ∨ w2.heap.size + 1 ≤ x) → (((((z10.setCell ⟨w2.heap.size, 0, none⟩ (.int .u8 2)).setCell ⟨w2.heap.size, 1, none⟩ (.int .u32 0)).setCell ⟨w2.heap.size, 2, none⟩ (.int .u32 4)).setCell ⟨w2.heap.size, 3, none⟩ (.int .i64 0)).setCell ⟨w2.heap.size, 4, none⟩ (.slice a9 1 c9)).heap[x]? = z10.heap[x]? := fun x _ h => ((set_other _ _ _ _ _ (by omega)).trans ((set_other _ _ _ _ _ (by omega)).trans ((set_other _ _ _ _ _ (by omega)).trans ((set_other _ _ _ _ _ (by omega)).trans (set_other _ _ _ _ _ (by omega))))))
      have F9 := F2.out (V' := (((((z10.setCell ⟨w2.heap.size, 0, none⟩ (.int .u8 2)).setCell ⟨w2.heap.size, 1, none⟩ (.int .u32 0)).setCell ⟨w2.heap.size, 2, none⟩ (.int .u32 4)).setCell ⟨w2.heap.size, 3, none⟩ (.int .i64 0)).setCell ⟨w2.heap.size, 4, none⟩ (.slice a9 1 c9))) (by simp only [World.size_setCell]; omega) hfr (by omega)
      have hCl := Cls.of hst
      refine hK.out (Cls w2) (fun _ h => h) hCl ?_
      clear hK K'
      refine wpAnyH_seg (fuel := 0) (by kernel_rfl) (fun _ d _ _ _ h => by cases d <;> exact h) hCl [8] _ _ _ (by kernel_rfl) (by kernel_rfl) ?_
      simp only [opsOf_cons, opsOf_nil, consOp_some, List.getElem?_toArray, List.getElem?_cons_succ, List.getElem?_cons_zero]
      repeat (first | go_big_quiet_step (fail) | quiet_step (fail))
      refine wpQuiet_nil ?_
      refine wpAnyH_done (by kernel_rfl) ?_ _
      go_wp2
      go_meet
      exact ⟨_, _, _, _, _, rfl, rfl, F8, F9, hst⟩
    exact Each.nil
  case rest =>
  obtain ⟨gX, lo, hi, cX, aX, rfl, rfl, q_x, B_x, hst⟩ := hcut
  obtain ⟨wc, hwc⟩ := named_w hst
  subst hwc
  clear c_q_t0 c_q_t1 c_q_t2 c_q_t3
  obtain ⟨P_t, q_t, hB⟩ := HQ.out
  clear HQ
  have sz_wc : w2.heap.size ≤ wc.heap.size := hst.size
  replace P_t := P_t.step hst
  replace q_t := q_t.step hst
  replace hB := hB.step hst
  clear hst
  have HQ := Lib.hid (And.intro P_t (And.intro q_t (And.intro q_x (And.intro B_x hB))))
  clear P_t q_t q_x B_x hB
  have c_q_t0 := LK.cell HQ.out.2.1 0
  have c_q_t1 := LK.cell HQ.out.2.1 1
  have c_q_t2 := LK.cell HQ.out.2.1 2
  have c_q_t3 := LK.cell HQ.out.2.1 3
  have c_q_x0 := LK.cell HQ.out.2.2.1 0
  have c_q_x1 := LK.cell HQ.out.2.2.1 1
  have c_q_x2 := LK.cell HQ.out.2.2.1 2
  have c_q_x3 := LK.cell HQ.out.2.2.1 3
  have c_q_x4 := LK.cell HQ.out.2.2.1 4
  simp at c_q_t0 c_q_t1 c_q_t2 c_q_t3 c_q_x0 c_q_x1 c_q_x2 c_q_x3 c_q_x4
  have ek : ∀ W, (Op.equalIn 10000 48 (.agg #[.int .u8 2, .int .u32 0, .int .u32 4]) (.agg #[.int .u8 2, .int .u32 0, .int .u32 4])).run Try.prog W = .ok true W := fun W => (eq_key (kOf 4) (kOf 4) W).trans (congrArg (fun z => Result.ok z W) (decide_eq_true rfl))
  clear c_q_t0 c_q_t1 c_q_t2 c_q_t3 c_q_x0 c_q_x1 c_q_x2 c_q_x3 c_q_x4
  have x_x0 := fun X => LK.cell (HQ.out.2.2.1.step (aft_below wc X)) 0
  have x_x1 := fun X => LK.cell (HQ.out.2.2.1.step (aft_below wc X)) 1
  have x_x2 := fun X => LK.cell (HQ.out.2.2.1.step (aft_below wc X)) 2
  have x_x3 := fun X => LK.cell (HQ.out.2.2.1.step (aft_below wc X)) 3
  have x_x4 := fun X => LK.cell (HQ.out.2.2.1.step (aft_below wc X)) 4
  simp at x_x0 x_x1 x_x2 x_x3 x_x4
  have x_v := fun X => cv_of (HQ.out.2.2.2.1.step (aft_below wc X)).v
  go_upto_region 3 with (fail)
  refine wp_region_held_drew (S := Cls wc) (by kernel_rfl) (Cls.drew wc) (fun hCl => ?_)
  refine wpAnyH_seg (fuel := 10) (by kernel_rfl) (fun _ d _ _ _ h => by cases d <;> exact h) hCl [0, 1, 2, 3, 4, 5, 6, 7] _ _ _ (by kernel_rfl) (by kernel_rfl) ?_
  simp only [opsOf_cons, opsOf_nil, consOp_some, List.getElem?_toArray, List.getElem?_cons_succ, List.getElem?_cons_zero]
  repeat (first | go_big_quiet_step (fail) | quiet_step (fail))
  refine wpQuiet_nil ?_
  refine wpAnyH_each (fuel := 9) [8] (by kernel_rfl) (by simp) (by kernel_rfl) ?_
  refine Each.cons _ rfl (fun K' hK => ?_) Each.nil
  go_simp
  refine (HC.out.2.1 4 _).mono ?_
  rintro e zq ⟨rfl, hb⟩
  have hst := below_step hCl.below hCl.below.size hb
  clear hb
  have hCl := Cls.of hst
  refine hK.out (Cls wc) (fun _ h => h) hCl ?_
  clear hK K'
  refine wpAnyH_seg (fuel := 0) (by kernel_rfl) (fun _ d _ _ _ h => by cases d <;> exact h) hCl [9, 10, 11, 12, 13, 14, 15, 16, 17] _ _ _ (by kernel_rfl) (by kernel_rfl) ?_
  simp only [opsOf_cons, opsOf_nil, consOp_some, List.getElem?_toArray, List.getElem?_cons_succ, List.getElem?_cons_zero]
  repeat (first | go_big_quiet_step (fail) | quiet_step (fail))
  refine wpQuiet_nil ?_
  refine wpAnyH_done (by kernel_rfl) ?_ _
  go_wp2
  go_ret
  exact ⟨rfl, below_step HQ.out.2.2.2.2 (Below.size HQ.out.2.2.2.2) hst⟩

end Go.Proofs.Ytcibihakjcenaaa

namespace Go.Proofs.Ytcibihakjcenaaa
open Go.RowKit

theorem items_news {w : World} {lo hi b off n c : Nat} {l : List ItemL} (h : Sl rItem w lo hi (.slice (some ⟨b, off, none⟩) n c) l) (hl : 0 < l.length) : ∃ news : List Value, news.length = l.length * 5 ∧ (∀ j u, news[j]? = some u → w.cell? ((⟨b, off, none⟩ : Addr).add j) = some u) ∧ (∀ u ∈ news, u.oneCell' = true) ∧ ∀ j x, l[j]? = some x → rItem.R w lo hi x (fun i => news[j * 5 + i]?) := by
  obtain ⟨b', o', c', e, -, -, -, -, hc⟩ := h.at_ hl
  cases e
  have hcell : ∀ j, j < l.length * 5 → ∃ u, w.cell? ⟨b, off + j, none⟩ = some u ∧ u.oneCell' = true := fun j hj => by
    obtain ⟨x, hx⟩ : ∃ x, l[j / 5]? = some x := ⟨l[j / 5], List.getElem?_eq_getElem (by omega)⟩
    obtain ⟨f0, f1, f2, f3, -, v, f4, hv⟩ := hc (j / 5) x hx
    have hn5 : rItem.n = 5 := rfl
    rw [hn5] at f0 f1 f2 f3 f4
    obtain ⟨a, c2, rfl, -, -⟩ := hv.form rfl
    have hj5 : j = j / 5 * 5 + j % 5 := by omega
    have hm : j % 5 < 5 := Nat.mod_lt _ (by decide)
    generalize hr : j % 5 = r at hj5 hm
    rw [hj5, ← Nat.add_assoc]
    have : r = 0 ∨ r = 1 ∨ r = 2 ∨ r = 3 ∨ r = 4 := by omega
    rcases this with rfl | rfl | rfl | rfl | rfl
    · exact ⟨_, f0, rfl⟩
    · exact ⟨_, f1, rfl⟩
    · exact ⟨_, f2, rfl⟩
    · exact ⟨_, f3, rfl⟩
    · exact ⟨_, f4, rfl⟩
  have hget : ∀ j, j < l.length * 5 → ((List.range (l.length * 5)).map fun j => (w.cell? ⟨b, off + j, none⟩).getD undef)[j]? = w.cell? ⟨b, off + j, none⟩ := fun j hj => by
    obtain ⟨u, hu, -⟩ := hcell j hj
    rw [List.getElem?_map, List.getElem?_range hj, Option.map_some, hu, Option.getD_some]
  refine ⟨(List.range (l.length * 5)).map fun j => (w.cell? ⟨b, off + j, none⟩).getD undef, by simp, fun j u hu => ?_, fun u hu => ?_, fun j x hx => ?_⟩
  · have hj : j < l.length * 5 := by
      have := (List.getElem?_eq_some_iff.1 hu).1
      simpa using this
    rw [hget j hj] at hu
    rw [Addr.add_lit]
    exact hu
  · obtain ⟨j, hj, rfl⟩ := List.mem_map.1 hu
    obtain ⟨u, h1, h2⟩ := hcell j (by simpa using hj)
    rw [h1]
    exact h2
  · have hj := (List.getElem?_eq_some_iff.1 hx).1
    refine rItem.ext (fun i hi => ?_) (hc j x hx)
    have hn5 : rItem.n = 5 := rfl
    rw [hn5] at hi ⊢
    rw [hget (j * 5 + i) (by omega), Nat.add_assoc]
theorem take_snocI (l : List ItemL) (k : Nat) (h : k < l.length) : l.take (k + 1) = l.take k ++ [l.getD k nokI] := by
  rw [List.take_add_one, List.getD_eq_getElem?_getD, List.getElem?_eq_getElem h]
  rfl
theorem pre_len {α β : Type} (f : α → List β) (l : List α) (j : Nat) : (((l.take j).map f).flatten).length ≤ ((l.map f).flatten).length := by
  conv => rhs; rw [← List.take_append_drop j l, List.map_append, List.flatten_append, List.length_append]
  exact Nat.le_add_right _ _
/-- The nodes below one. -/
theorem below_nodes {s : StoreL} (hm : mayS s = true) {l : Nat} {its : List ItemL} {q : Nat} (he : errBn s q = 0) (hn : nodeB s q = ⟨((l + 1 : Nat) : Int), its⟩) (ht : ∃ r, wkGo (oneW s (l + 1)) none its = some r) : ∀ j, j < its.length → ∃ q2 : Nat, (its.getD j nokI).ref = q2 ∧ 8 ≤ q2 ∧ q2 < 256 ∧ errBn s q2 = 0 ∧ (nodeB s q2).level = (l : Int) ∧
    (∃ r, wkGo (oneW s l) none (nodeB s q2).items = some r) ∧ 0 < (allW s l (nodeB s q2).items).length := fun j hj => by
  obtain ⟨r, hr⟩ := ht
  have hx : its.getD j nokI ∈ its := by
    rw [List.getD_eq_getElem?_getD, List.getElem?_eq_getElem hj]
    exact List.getElem_mem hj
  obtain ⟨ab, ho⟩ := wkGo_each _ _ _ _ hr _ hx
  obtain ⟨e1, e2, e3, e4⟩ := oneW_succ ho
  have hmn := nodeB_may he
  rw [hn] at hmn
  obtain ⟨r1, r2⟩ := ref_of hm ho (may_refs hmn _ hx)
  obtain ⟨q2, hq2⟩ : ∃ q2 : Nat, (its.getD j nokI).ref = q2 := ⟨(its.getD j nokI).ref.toNat, by omega⟩
  obtain ⟨x, rr, hf, -⟩ := (oneW_from s (l + 1) _ ab.1 ab.2 ho).first
  have hf2 : allW s l (nodeB s (its.getD j nokI).ref.toNat).items = x :: rr := hf
  rw [hq2, Int.toNat_natCast] at e1 e2 e4 hf2
  exact ⟨q2, hq2, by omega, by omega, e1, e2, ⟨ab, e4⟩, by rw [hf2]; simp⟩
/-- What is said of all at a level. -/
def AllC (l : Nat) : Prop := ∀ (b u x y : Value) (s : StoreL) (q : Nat) (w : World), StoreV w 0 w.heap.size b u x y s → mayS s = true → 8 ≤ q → q < 256 → errBn s q = 0 → (nodeB s q).level = (l : Int) → (l = 0 ∨ ∃ r, wkGo (oneW s l) none (nodeB s q).items = some r) →
  Calls Try.prog 36 #[.agg #[b, u, x, y], .int .i64 q, .int .i64 l] w fun e w' => ∃ v, e = .returned (.tuple #[v, .bool true]) ∧ Sl rItem w' w.heap.size w'.heap.size v (allW s l (nodeB s q).items) ∧ Below w.heap.size w w'

set_option maxRecDepth 100000 in
set_option maxHeartbeats 4000000 in
theorem all_step (l : Nat) (ih : ∀ l', l = l' + 1 → AllC l') : AllC l := by
  intro b_s u_s x_s y_s s q w h_s hm h8 h9 he hlv ht
  obtain ⟨ab_s, cb_s, rfl, gb_s, gc_s, -, -⟩ := h_s.1.1
  obtain ⟨au_s, cu_s, rfl, gu_s, gv_s, -, -⟩ := h_s.1.2
  obtain ⟨ax_s, cx_s, rfl, gx_s, gz_s⟩ := h_s.2.1.form rfl
  obtain ⟨ay_s, cy_s, rfl, gy_s, gw_s⟩ := h_s.2.2.form rfl
  unfold maxLen at gc_s gv_s gz_s gw_s
  have hst := ((Below.refl w.heap.size w).alloc (Nat.le_refl _) (.cells #[.slice ab_s s.disk.blocks.length cb_s, .slice au_s s.disk.waits.length cu_s, .slice ax_s s.now.length cx_s, .slice ay_s s.last.length cy_s] 46))
  have q_s := LK.new w (.cells #[.slice ab_s s.disk.blocks.length cb_s, .slice au_s s.disk.waits.length cu_s, .slice ax_s s.now.length cx_s, .slice ay_s s.last.length cy_s] 46)
  have hB : LW w _ := hst
  have O_s := (LO.of h_s (Nat.le_refl _)).step hst
  have sz_V : w.heap.size + 0 < (w.alloc (.cells #[.slice ab_s s.disk.blocks.length cb_s, .slice au_s s.disk.waits.length cu_s, .slice ax_s s.now.length cx_s, .slice ay_s s.last.length cy_s] 46)).heap.size := by simp
  obtain ⟨V, hV⟩ : ∃ V, (w.alloc (.cells #[.slice ab_s s.disk.blocks.length cb_s, .slice au_s s.disk.waits.length cu_s, .slice ax_s s.now.length cx_s, .slice ay_s s.last.length cy_s] 46)) = V := ⟨_, rfl⟩
  rw [hV] at sz_V q_s O_s hB
  clear hst h_s
  have HQ := Lib.hid (And.intro q_s (And.intro O_s hB))
  clear q_s O_s hB
  have c_q_s0 := LK.cell HQ.out.1 0
  have c_q_s1 := LK.cell HQ.out.1 1
  have c_q_s2 := LK.cell HQ.out.1 2
  have c_q_s3 := LK.cell HQ.out.1 3
  simp at c_q_s0 c_q_s1 c_q_s2 c_q_s3
  obtain ⟨hen, hns⟩ := nodeS_is hm h8 h9 he
  obtain ⟨its, hnd⟩ : ∃ its, nodeB s q = ⟨(l : Int), its⟩ := ⟨(nodeB s q).items, by
    cases hh : nodeB s q with
    | mk a b => rw [hh] at hlv; simp only at hlv; rw [hlv]⟩
  have hmn := nodeB_may he
  rw [hnd] at hmn hns ht ⊢
  simp only at hmn ht ⊢
  have m0 := (mayN_all hmn).1.2
  have m5 := (mayN_all hmn).2.1
  simp only at m0 m5
  have k_n := fun b u x y V hh => snode_any b u x y s (q : Int) V hh
  rw [hen, hns] at k_n
  simp only at k_n
  have HM := Lib.hid (And.intro hm (And.intro he (And.intro hnd (And.intro ht ih))))
  clear hen hns hmn hm he hnd ht ih hlv
  have HC := Lib.hid (k_n)
  clear k_n
  go_enter Try.func36, Try.ntmps36
  go_upto_region 1 with (fail)
  clear hV
  go_wp2_with fail
  refine (HC.out _ _ _ _ _ HQ.out.2.1.v).mono ?_
  rintro e w1 ⟨vn, rfl, hsl, hst⟩
  clear c_q_s0 c_q_s1 c_q_s2 c_q_s3
  obtain ⟨q_s, O_s, hB⟩ := HQ.out
  clear HQ
  have hvw := sl_itemT hsl
  clear hsl
  obtain ⟨ac, cc, rfl, gc1, gc2, -, -⟩ := id hvw
  unfold maxLen at gc2
  have S_c := LS.of hvw (Nat.le_refl _)
  clear hvw
  have sz_w1 : V.heap.size ≤ w1.heap.size := hst.size
  replace q_s := q_s.step hst
  replace O_s := O_s.step hst
  replace hB := hB.step hst
  clear hst
  have HQ := Lib.hid (And.intro q_s (And.intro O_s (And.intro S_c hB)))
  clear q_s O_s S_c hB
  have c_q_s0 := LK.cell HQ.out.1 0
  have c_q_s1 := LK.cell HQ.out.1 1
  have c_q_s2 := LK.cell HQ.out.1 2
  have c_q_s3 := LK.cell HQ.out.1 3
  simp at c_q_s0 c_q_s1 c_q_s2 c_q_s3
  go_upto_region 2 with (fail)
  clear c_q_s0 c_q_s1 c_q_s2 c_q_s3
  obtain ⟨q_s, O_s, S_c, hB⟩ := HQ.out
  clear HQ
  have hst := (Below.refl w1.heap.size w1).alloc (Nat.le_refl _) (.cells #[.int .i64 (l : Int), .slice ac its.length cc] 119)
  have hlt : w1.heap.size < (w1.alloc (.cells #[.int .i64 (l : Int), .slice ac its.length cc] 119)).heap.size := by simp
  have q_n := LK.new w1 (.cells #[.int .i64 (l : Int), .slice ac its.length cc] 119)
  replace q_s := q_s.step hst
  replace O_s := O_s.step hst
  replace S_c := S_c.step hst
  replace hB := hB.step hst
  obtain ⟨w2, hw⟩ : ∃ v, w1.alloc (.cells #[.int .i64 (l : Int), .slice ac its.length cc] 119) = v := ⟨_, rfl⟩
  rw [hw] at hlt q_n q_s O_s S_c hB ⊢
  clear hw hst
  have sz_w2 := hlt
  clear hlt
  have HQ := Lib.hid (And.intro q_s (And.intro O_s (And.intro S_c (And.intro q_n hB))))
  clear q_s O_s S_c q_n hB
  have c_q_s0 := LK.cell HQ.out.1 0
  have c_q_s1 := LK.cell HQ.out.1 1
  have c_q_s2 := LK.cell HQ.out.1 2
  have c_q_s3 := LK.cell HQ.out.1 3
  have c_q_n0 := LK.cell HQ.out.2.2.2.1 0
  have c_q_n1 := LK.cell HQ.out.2.2.2.1 1
  simp at c_q_s0 c_q_s1 c_q_s2 c_q_s3 c_q_n0 c_q_n1
  by_cases hl : l = 0
  case pos =>
    have i1 : (l : Int) = 0 := by omega
    go_wp2
    go_ret2
    refine ⟨_, rfl, ?_, HQ.out.2.2.2.2⟩
    rw [hl, allW]
    exact Sl.more (Lv.get HQ.out.2.2.1) (by omega) (Lv.hi_le HQ.out.2.2.1)
  obtain ⟨l2, hl2⟩ : ∃ m, l = m + 1 := ⟨l - 1, by omega⟩
  have i1 : ((l : Int) == 0) = false := by simp; omega
  have i2 : (l : Int) - 1 = (l2 : Int) := by omega
  obtain ⟨hm, he, hnd, ht, ih⟩ := HM.out
  have ht2 := ht.resolve_left hl
  rw [hl2] at hnd ht2
  have hch := below_nodes hm he hnd ht2
  have hal : ((its.map fun x => allW s l2 (nodeB s x.ref.toNat).items).flatten).length ≤ 15625 := by
    obtain ⟨r, hr⟩ := ht2
    have h1 := allW_len s _ _ r hr m5
    rw [allW] at h1
    exact Nat.le_trans h1 (Nat.pow_le_pow_right (n := 5) (by decide) (show _ ≤ 6 by omega))
  have ih2 := ih l2 hl2
  have hgoal : allW s l its = (its.map fun x => allW s l2 (nodeB s x.ref.toNat).items).flatten := by rw [hl2, allW]
  have HG := Lib.hid hgoal
  have HI := Lib.hid (And.intro hch (And.intro ih2 hm))
  clear hm he hnd ht ih ht2 hch ih2 hgoal HM hl hl2
  obtain ⟨f, hf⟩ : ∃ f : ItemL → List ItemL, (fun x => allW s l2 (nodeB s x.ref.toNat).items) = f := ⟨_, rfl⟩
  rw [hf] at hal HG
  have HF := Lib.hid hf
  clear hf
  go_wp2_with fail
  go_loopw [10, 11] (fun out i wr => ∃ (j n : Nat) (a : Option Addr) (c : Nat) (L : List ItemL), j ≤ its.length ∧ i = .int .i64 j ∧ out = .slice a n c ∧ L = ((its.take j).map f).flatten ∧ OwnR rItem w2.heap.size 56 w2.heap.size (fun _ => false) wr (.slice a n c) L ∧ Below w2.heap.size w2 wr) (fun _ i _ => its.length - (intOf i).toNat)
  case atStart => exact ⟨0, 0, none, 0, [], Nat.zero_le _, rfl, rfl, rfl, OwnR.nil_ _ _ _ _ _ _, Below.refl _ _⟩
  case round =>
  obtain ⟨j, n, ar, cr, L, hj, rfl, rfl, hL, hown, hst⟩ := hrel
  clear c_q_s0 c_q_s1 c_q_s2 c_q_s3 c_q_n0 c_q_n1
  obtain ⟨q_s, O_s, S_c, q_n, hB⟩ := HQ.out
  clear HQ
  replace q_s := q_s.step hst
  replace O_s := O_s.step hst
  replace S_c := S_c.step hst
  replace q_n := q_n.step hst
  replace hB := hB.step hst
  have sz_wr := hst.size
  have hW : LW w2 wr := hst
  clear hst
  have HQ := Lib.hid (And.intro q_s (And.intro O_s (And.intro S_c (And.intro q_n (And.intro hW hB)))))
  clear q_s O_s S_c q_n hW hB
  have c_q_s0 := LK.cell HQ.out.1 0
  have c_q_s1 := LK.cell HQ.out.1 1
  have c_q_s2 := LK.cell HQ.out.1 2
  have c_q_s3 := LK.cell HQ.out.1 3
  have c_q_n0 := LK.cell HQ.out.2.2.2.1 0
  have c_q_n1 := LK.cell HQ.out.2.2.2.1 1
  simp at c_q_s0 c_q_s1 c_q_s2 c_q_s3 c_q_n0 c_q_n1
  have HO := Lib.hid (And.intro hown hL)
  clear hown hL
  by_cases hlt : j < its.length
  case pos =>
    obtain ⟨q2, hq2, h82, h92, he2, hl3, ht3, hpos⟩ := HI.out.1 j hlt
    obtain ⟨bb, bo, cb, e1, -, zb, -, zc, hcell⟩ := Sl.at_ HQ.out.2.2.1.v (by omega)
    injection e1 with e1 _ e2
    subst e1 e2
    obtain ⟨-, -, -, f3, -⟩ := hcell j (its.getD j nokI) (get_l _ _ _ hlt)
    rw [hq2] at f3
    have hn5 : rItem.n = 5 := rfl
    rw [hn5] at f3
    unfold maxLen at zc
    have hfx : f (its.getD j nokI) = allW s l2 (nodeB s q2).items := by
      rw [← HF.out]
      simp only [hq2, Int.toNat_natCast]
    have kc := fun b u x y V hh => HI.out.2.1 b u x y s q2 V hh HI.out.2.2 h82 h92 he2 hl3 (.inr ht3)
    obtain ⟨L2, hL2⟩ : ∃ L2, allW s l2 (nodeB s q2).items = L2 := ⟨_, rfl⟩
    rw [hL2] at kc hfx hpos
    have KC := Lib.hid (And.intro kc hfx)
    clear kc hfx hL2 hcell hn5 hq2 he2 hl3 ht3
    have i3 : (j : Int) < its.length := by omega
    go_upto_region 10 with (fail)
    go_cut [12, 13] (fun t1 t2 wx => ∃ (a2 : Option Addr) (c2 : Nat), t1 = .slice a2 L2.length c2 ∧ t2 = .bool true ∧ LS rItem wr.heap.size wx.heap.size (.slice a2 L2.length c2) L2 wx ∧ Below wr.heap.size wr wx)
    case first =>
      clear c_q_s0 c_q_s1 c_q_s2 c_q_s3 c_q_n0 c_q_n1
      have x_s0 := fun X => LK.cell (HQ.out.1.step (aft_below wr X)) 0
      have x_s1 := fun X => LK.cell (HQ.out.1.step (aft_below wr X)) 1
      have x_s2 := fun X => LK.cell (HQ.out.1.step (aft_below wr X)) 2
      have x_s3 := fun X => LK.cell (HQ.out.1.step (aft_below wr X)) 3
      have x_n0 := fun X => LK.cell (HQ.out.2.2.2.1.step (aft_below wr X)) 0
      have x_n1 := fun X => LK.cell (HQ.out.2.2.2.1.step (aft_below wr X)) 1
      simp at x_s0 x_s1 x_s2 x_s3 x_n0 x_n1
      have x_f := fun X => ((aft_below wr X).cell (p := ⟨bb, bo + j * 5 + 3, none⟩) zb).trans f3
      clear f3
      refine wp_region_held_drew (S := Cls wr) (by kernel_rfl) (Cls.drew wr) (fun hCl => ?_)
      refine wpAnyH_seg (fuel := 6) (by kernel_rfl) (fun _ d _ _ _ h => by cases d <;> exact h) hCl [0, 1, 2, 3, 4, 5, 6, 7, 8] _ _ _ (by kernel_rfl) (by kernel_rfl) ?_
      simp only [opsOf_cons, opsOf_nil, consOp_some, List.getElem?_toArray, List.getElem?_cons_succ, List.getElem?_cons_zero]
      repeat (first | go_big_quiet_step (fail) | quiet_step (fail))
      refine wpQuiet_nil ?_
      refine wpAnyH_each (fuel := 5) [9] (by kernel_rfl) (by simp) (by kernel_rfl) ?_
      refine Each.cons _ rfl (fun K' hK => ?_) Each.nil
      go_simp
      refine (KC.out.1 _ _ _ _ _ (HQ.out.2.1.step hCl.below).v).mono ?_
      rintro e z1 ⟨v2, rfl, hm, hs⟩
      obtain ⟨a2, c2, rfl, -, -, -, -⟩ := id hm
      have F9 := LS.of hm (Nat.le_refl _)
      have sz_z1 : wr.drew.heap.size ≤ z1.heap.size := hs.size
      have hst := below_step hCl.below hCl.below.size hs
      clear hs
      have hCl := Cls.of hst
      refine hK.out (Cls wr) (fun _ h => h) hCl ?_
      clear hK K'
      refine wpAnyH_seg (fuel := 0) (by kernel_rfl) (fun _ d _ _ _ h => by cases d <;> exact h) hCl [10, 11, 12, 13, 14] _ _ _ (by kernel_rfl) (by kernel_rfl) ?_
      simp only [opsOf_cons, opsOf_nil, consOp_some, List.getElem?_toArray, List.getElem?_cons_succ, List.getElem?_cons_zero]
      repeat (first | go_big_quiet_step (fail) | quiet_step (fail))
      refine wpQuiet_nil ?_
      refine wpAnyH_done (by kernel_rfl) ?_ _
      go_wp2
      go_meet
      exact ⟨_, _, rfl, rfl, F9, hst⟩
    case rest =>
    obtain ⟨a2, c2, rfl, rfl, S_l, hst⟩ := hcut
    obtain ⟨wc, hwc⟩ := named_w hst
    subst hwc
    clear c_q_s0 c_q_s1 c_q_s2 c_q_s3 c_q_n0 c_q_n1
    obtain ⟨q_s, O_s, S_c, q_n, hW, hB⟩ := HQ.out
    clear HQ
    have sz_wc : wr.heap.size ≤ wc.heap.size := hst.size
    have hown := HO.out.1.step rItem_ck hst
    have hlto := HO.out.1.lt
    replace q_s := q_s.step hst
    replace O_s := O_s.step hst
    replace S_c := S_c.step hst
    replace q_n := q_n.step hst
    replace hW := hW.step hst
    replace hB := hB.step hst
    clear hst f3
    have HQ := Lib.hid (And.intro q_s (And.intro O_s (And.intro S_c (And.intro q_n (And.intro hW hB)))))
    clear q_s O_s S_c q_n hW hB
    obtain ⟨b2, o2, cz, e1, -, -, -, -, -⟩ := (Lv.get S_l).at_ hpos
    injection e1 with e1 _ e2
    subst e1 e2
    obtain ⟨news, n1, n2, n3, n4⟩ := items_news (Lv.get S_l) hpos
    have hy : ∀ j x, L2[j]? = some x → rItem.R (hideW wc (andOwn (fun _ => false) (.slice ar n cr))) w2.heap.size wc.heap.size x (fun i => news[j * rItem.n + i]?) := fun j x hx => rItem.more (by omega) (Nat.le_refl _) (rItem.keep (hideW_kp fun q3 h1 h2 => ⟨andOwn_of rfl (fun e => by have := (hlto q3 e).2; omega), rfl⟩) (n4 j x hx))
    have hln : L.length + L2.length ≤ 15625 := by
      have h1 := pre_len f its (j + 1)
      rw [take_snocI its j hlt, List.map_append, List.flatten_append, List.length_append, ← HO.out.2] at h1
      simp only [List.map_cons, List.map_nil, List.flatten_cons, List.flatten_nil, List.append_nil, KC.out.2] at h1
      omega
    have HY := Lib.hid (And.intro hown (And.intro n1 (And.intro n2 (And.intro n3 (And.intro hy hln)))))
    clear hown n1 n2 n3 n4 hy hln hlto S_l
    go_wp2_with (at_builtin; refine wpList_appR rItem_ck rfl (.tmp 54) (.tmp 55) 68 rfl 56 (.agg #[.int .u8 0, .int .u32 0, .int .u32 0, .int .i64 0, .slice none 0 0]) 48 Try.underlying68 (by kernel_rfl) rfl (by decide) w2.heap.size w2.heap.size (fun _ => false) (.slice ar n cr) L L2 rfl HY.out.1 (fun _ _ => rfl) ⟨b2, o2, none⟩ c2 news rfl HY.out.2.1 HY.out.2.2.1 HY.out.2.2.2.1 HY.out.2.2.2.2.1 (by have := HY.out.2.2.2.2.2; omega) (by decide) (by omega) ?_; intro a4 c4 z4 hown4 hB4 hf4; obtain ⟨n4, hn4⟩ : ∃ n4, (L ++ L2).length = n4 := ⟨_, rfl⟩; rw [hn4] at hown4 ⊢; have HO4 := Lib.hid (And.intro hown4 (Below.trans HQ.out.2.2.2.2.1 hB4)); clear hown4 hB4 hf4 hn4)
    go_roundw
    case rel =>
      refine ⟨j + 1, n4, a4, c4, L ++ L2, by omega, by go_num, rfl, ?_, HO4.out.1, HO4.out.2⟩
      rw [take_snocI its j hlt, List.map_append, List.flatten_append, ← HO.out.2]
      simp only [List.map_cons, List.map_nil, List.flatten_cons, List.flatten_nil, List.append_nil, KC.out.2]
    case measure => simp [intOf]; omega
  obtain rfl : j = its.length := by omega
  go_wp2
  go_ret2
  refine ⟨_, rfl, ?_, HQ.out.2.2.2.2.2⟩
  have hLL : allW s l its = L := by rw [HG.out, HO.out.2, List.take_length]
  rw [hLL]
  exact HO.out.1.sl rItem_ck (by omega) (by omega)
theorem all_any : ∀ l, AllC l
  | 0 => all_step 0 fun _ h => by omega
  | l + 1 => all_step (l + 1) fun l' h => by
    obtain rfl : l' = l := by omega
    exact all_any _
end Go.Proofs.Ytcibihakjcenaaa

