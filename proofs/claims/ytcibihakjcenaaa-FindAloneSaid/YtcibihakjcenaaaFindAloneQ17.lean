/- FindAlone: the words and contracts, part 17. -/
import Derived.Test.YtcibihakjcenaaaFindAloneQ1
import Derived.Test.YtcibihakjcenaaaFindAloneQ2
import Derived.Test.YtcibihakjcenaaaFindAloneQ3
import Derived.Test.YtcibihakjcenaaaFindAloneQ4
import Derived.Test.YtcibihakjcenaaaFindAloneQ5
import Derived.Test.YtcibihakjcenaaaFindAloneQ6
import Derived.Test.YtcibihakjcenaaaFindAloneQ7
import Derived.Test.YtcibihakjcenaaaFindAloneQ8
import Derived.Test.YtcibihakjcenaaaFindAloneQ9
import Derived.Test.YtcibihakjcenaaaFindAloneQ10
import Derived.Test.YtcibihakjcenaaaFindAloneQ11
import Derived.Test.YtcibihakjcenaaaFindAloneQ12
import Derived.Test.YtcibihakjcenaaaFindAloneQ13
import Derived.Test.YtcibihakjcenaaaFindAloneQ14
import Derived.Test.YtcibihakjcenaaaFindAloneQ15
import Derived.Test.YtcibihakjcenaaaFindAloneQ16
import Derived.WalkKit
import Derived.WalkLawsBesides
import Derived.WalkSpells
import Derived.Lib.Hide
import Derived.Laws.Rows
import Derived.Laws.AppendOwnNone
import Derived.Maps.AppendAt
import Derived.ProofKit
import Derived.Deep.Slices
import Derived.WideShapes
import Derived.RangeFuncNested
import Derived.RangeFuncBound
import Derived.RangeFuncCalls
import Derived.RangeFuncLeaves
import Derived.RangeFuncBox
import Derived.Shelf.Abstract
import Derived.Shelf.RegionOpen
import Derived.OwnWalkIn
import Derived.TacticsInMore
import Derived.LoopNIn
import Derived.LoopIn
import Derived.Lib.AppendZerosOnto
import Derived.Lib.SliceRun
import Derived.Lib.Walk
import Derived.Deep.LoopGhost
import Derived.Laws.CopyOwn
import Derived.Laws.CopyRow
import Derived.OrdersHeld
import Derived.Deep.QuietTactic
import Derived.BigQuiet
import Derived.StillTailTactics
import Derived.OpenShut
import Derived.Deep.DeepCutAuto
import Derived.Laws.MakeOwn
import Derived.Deep.RegionHeld
import Derived.KernelRfl
import Derived.BigFrameIn
import Derived.OrdersIn
import Derived.Laws.EntriesVeiled
import Derived.Sort.CutIn
import Derived.ArgAppend
namespace Go.Proofs.Ytcibihakjcenaaa
open Go.RowKit

theorem itm3_words : itmF (madT 2) 9 (kOf 3) = nokI := by
  obtain ⟨-, -, -, -, -, -, h, -⟩ := tree_words
  unfold itmF
  rw [h]
  rfl
set_option maxRecDepth 100000 in
set_option maxHeartbeats 4000000 in
theorem aliveF  (w : World)  :
    Calls Try.prog 33 #[] w fun e w' => e = .returned (.bool true) ∧ Below w.heap.size w w' := by
  have hB : LW w w := Below.refl _ _
  have HQ := Lib.hid (hB)
  clear hB
  have k_m := fun V => fmade_any 2 V ⟨made_words.2.2.1, made_words.2.2.2.1⟩
  have k_u := fun V => fmade_any 1 V ⟨made_words.2.2.2.2.1, made_words.2.2.2.2.2⟩
  rw [show (((2 : UInt32).toNat : Nat) : Int) = 2 from rfl] at k_m
  rw [show (((1 : UInt32).toNat : Nat) : Int) = 1 from rfl] at k_u
  obtain ⟨t1, t2, t3, t4, t5, t6, t7, t8, t9, t10⟩ := tree_words
  have t11 := itm3_words
  obtain ⟨T, hT⟩ : ∃ T, madT 2 = T := ⟨_, rfl⟩
  obtain ⟨U, hU⟩ : ∃ T, madT 1 = T := ⟨_, rfl⟩
  rw [hT] at k_m t1 t2 t3 t4 t5 t6 t7 t8 t9 t11
  rw [hU] at k_u t10
  clear hT hU
  have k_k := fun n V => fkey_any n V
  have k_f := fun V b u x y h => ffind_any b u x y T 9 (kOf 4) V h
  rw [t8, t9] at k_f
  simp only [bV, wV, itemV, kOf] at k_f
  rw [show (((4 : UInt32).toNat : Nat) : Int) = 4 from rfl, show (((2 : UInt8).toNat : Nat) : Int) = 2 from rfl, show (((0 : UInt32).toNat : Nat) : Int) = 0 from rfl] at k_f
  clear k_u t1 t2 t3 t4 t5 t6 t7 t8 t9 t10 t11
  have HC := Lib.hid (And.intro k_m (And.intro k_k k_f))
  clear k_m k_k k_f
  go_enter Try.func33, Try.ntmps33
  go_wp2_with fail
  refine (HC.out.1 _).mono ?_
  rintro e w1 ⟨b1, u1, x1, y1, rfl, hm⟩
  have hB := HQ.out
  clear HQ
  have P_t := LP.of hm
  have hst := hm.below
  obtain ⟨ab_t, cb_t, rfl, -, -, -, -⟩ := hm.store.v.1.1
  obtain ⟨au_t, cu_t, rfl, -, -, -, -⟩ := hm.store.v.1.2
  obtain ⟨ax_t, cx_t, rfl, -, -⟩ := hm.store.v.2.1.form rfl
  obtain ⟨ay_t, cy_t, rfl, -, -⟩ := hm.store.v.2.2.form rfl
  clear hm
  have sz_w1 : w.heap.size ≤ w1.heap.size := hst.size
  replace hB := hB.step hst
  clear hst
  have HQ := Lib.hid (And.intro P_t hB)
  clear P_t hB
  go_upto_region 2 with (fail)
  obtain ⟨P_t, hB⟩ := HQ.out
  clear HQ
  have hst := (Below.refl w1.heap.size w1).alloc (Nat.le_refl _) (.cells #[.slice ab_t T.disk.blocks.length cb_t, .slice au_t T.disk.waits.length cu_t, .slice ax_t T.now.length cx_t, .slice ay_t T.last.length cy_t] 46)
  have hlt : w1.heap.size < (w1.alloc (.cells #[.slice ab_t T.disk.blocks.length cb_t, .slice au_t T.disk.waits.length cu_t, .slice ax_t T.now.length cx_t, .slice ay_t T.last.length cy_t] 46)).heap.size := by simp
  have q_t := LK.new w1 (.cells #[.slice ab_t T.disk.blocks.length cb_t, .slice au_t T.disk.waits.length cu_t, .slice ax_t T.now.length cx_t, .slice ay_t T.last.length cy_t] 46)
  replace P_t := P_t.step hst
  replace hB := hB.step hst
  obtain ⟨w2, hw⟩ : ∃ v, w1.alloc (.cells #[.slice ab_t T.disk.blocks.length cb_t, .slice au_t T.disk.waits.length cu_t, .slice ax_t T.now.length cx_t, .slice ay_t T.last.length cy_t] 46) = v := ⟨_, rfl⟩
  rw [hw] at hlt q_t P_t hB ⊢
  clear hw hst
  have sz_w2 := hlt
  clear hlt
  have HQ := Lib.hid (And.intro P_t (And.intro q_t hB))
  clear P_t q_t hB
  have c_q_t0 := LK.cell HQ.out.2.1 0
  have c_q_t1 := LK.cell HQ.out.2.1 1
  have c_q_t2 := LK.cell HQ.out.2.1 2
  have c_q_t3 := LK.cell HQ.out.2.1 3
  simp at c_q_t0 c_q_t1 c_q_t2 c_q_t3
  go_cut [3, 4] (fun t1 t2 wx => ∃ (g lo hi c : Nat) (a : Option Addr), t1 = .pointer (some ⟨g, 0, none⟩) ∧ t2 = .int .i64 0 ∧ LK g (.cells #[.int .u8 2, .int .u32 0, .int .u32 4, .int .i64 0, .slice a 1 c] 56) wx ∧ LB lo hi (.slice a 1 c) [7] wx ∧ Below w2.heap.size w2 wx)
  case first =>
    clear c_q_t0 c_q_t1 c_q_t2 c_q_t3
    have x_t0 := fun X => LK.cell (HQ.out.2.1.step (aft_below w2 X)) 0
    have x_t1 := fun X => LK.cell (HQ.out.2.1.step (aft_below w2 X)) 1
    have x_t2 := fun X => LK.cell (HQ.out.2.1.step (aft_below w2 X)) 2
    have x_t3 := fun X => LK.cell (HQ.out.2.1.step (aft_below w2 X)) 3
    simp at x_t0 x_t1 x_t2 x_t3
    refine wp_region_held_drew (S := Cls w2) (by kernel_rfl) (Cls.drew w2) (fun hCl => ?_)
    refine wpAnyH_seg (fuel := 8) (by kernel_rfl) (fun _ d _ _ _ h => by cases d <;> exact h) hCl [0] _ _ _ (by kernel_rfl) (by kernel_rfl) ?_
    simp only [opsOf_cons, opsOf_nil, consOp_some, List.getElem?_toArray, List.getElem?_cons_zero]
    repeat (first | go_big_quiet_step (fail) | quiet_step (fail))
    refine wpQuiet_nil ?_
    refine wpAnyH_each (fuel := 7) [1, 6] (by kernel_rfl) (by simp) (by kernel_rfl) ?_
    refine Each.cons _ rfl (fun K' hK => ?_) ?_
    · go_simp
      refine (HC.out.2.1 4 _).mono ?_
      rintro e z1 ⟨rfl, hs⟩
      have sz_z1 : w2.drew.heap.size ≤ z1.heap.size := hs.size
      have hst := below_step hCl.below hCl.below.size hs
      clear hs
      have hCl := Cls.of hst
      refine hK.out (Cls w2) (fun _ h => h) hCl ?_
      clear hK K'
      refine wpAnyH_each (fuel := 6) [2, 6] (by kernel_rfl) (by simp) (by kernel_rfl) ?_
      refine Each.cons _ rfl (fun K' hK => ?_) ?_
      · go_simp
        refine (HC.out.2.2 _ _ _ _ _ (HQ.out.1.step hCl.below).v).mono ?_
        rintro e z2 ⟨v9, rfl, hm⟩
        have hs := hm.below
        have hv9 := hm.bytes
        obtain ⟨a9, c9, rfl, -, -⟩ := hv9.form (n := 1) rfl
        clear hv9
        have F2 := LB.of hm.bytes (Nat.le_refl _)
        have sz_z2 : z1.heap.size ≤ z2.heap.size := hs.size
        have hst := below_step hCl.below hCl.below.size hs
        clear hs
        have hCl := Cls.of hst
        refine hK.out (Cls w2) (fun _ h => h) hCl ?_
        clear hK K'
        refine wpAnyH_seg (fuel := 3) (by kernel_rfl) (fun _ d _ _ _ h => by cases d <;> exact h) hCl [3, 4, 5] _ _ _ (by kernel_rfl) (by kernel_rfl) ?_
        simp only [opsOf_cons, opsOf_nil, consOp_some, List.getElem?_toArray, List.getElem?_cons_succ, List.getElem?_cons_zero]
        repeat (first | go_big_quiet_step (fail) | quiet_step (fail))
        refine wpQuiet_nil ?_
        refine wpAnyH_each (fuel := 2) [6] (by kernel_rfl) (by simp) (by kernel_rfl) ?_
        refine Each.cons _ rfl (fun K' hK => ?_) Each.nil
        go_simp
        have hs := cls_alloc hCl (.cells #[.int .u8 0, .int .u32 0, .int .u32 0, .int .i64 0, .slice none 0 0] 56)
        have F6 : LK z2.heap.size (.cells #[.int .u8 0, .int .u32 0, .int .u32 0, .int .i64 0, .slice none 0 0] 56) _ := cls_new hCl (.cells #[.int .u8 0, .int .u32 0, .int .u32 0, .int .i64 0, .slice none 0 0] 56)
        have hlt : z2.heap.size < (z2.alloc (.cells #[.int .u8 0, .int .u32 0, .int .u32 0, .int .i64 0, .slice none 0 0] 56)).heap.size := by simp
        replace F2 := F2.step hs
        have hst := below_step hCl.below hCl.below.size hs
        have lo_F6 := hCl.below.size
        obtain ⟨z3, hz⟩ : ∃ v, z2.alloc (.cells #[.int .u8 0, .int .u32 0, .int .u32 0, .int .i64 0, .slice none 0 0] 56) = v := ⟨_, rfl⟩
        have hz2 : z2.alloc (.cells #[.int .u8 0, .int .u32 0, .int .u32 0, .int .i64 0, .slice none 0 0] 56) = z3 := hz
        rw [hz] at ⊢
        rw [hz2] at hst hlt F2 F6
        have sz_z3 := hlt
        clear hz hz2 hs hlt
        have hCl := Cls.of hst
        refine hK.out (Cls w2) (fun _ h => h) hCl ?_
        clear hK K'
        refine wpAnyH_each (fuel := 1) [7] (by kernel_rfl) (by simp) (by kernel_rfl) ?_
        refine Each.cons _ rfl (fun K' hK => ?_) Each.nil
        have hcb := LK.blk F6
        have r0 := LK.cell F6 0
        have r1 := LK.cell F6 1
        have r2 := LK.cell F6 2
        have r3 := LK.cell F6 3
        have r4 := LK.cell F6 4
        simp at r0 r1 r2 r3 r4
        have s0 := LK.frozen F6 0
        have s1 := LK.frozen F6 1
        have s2 := LK.frozen F6 2
        have s3 := LK.frozen F6 3
        have s4 := LK.frozen F6 4
        go_simp
        have F8 : LK (z2.heap.size) (.cells #[.int .u8 2, .int .u32 0, .int .u32 4, .int .i64 0, .slice a9 1 c9] 56) (((((z3.setCell ⟨z2.heap.size, 0, none⟩ (.int .u8 2)).setCell ⟨z2.heap.size, 1, none⟩ (.int .u32 0)).setCell ⟨z2.heap.size, 2, none⟩ (.int .u32 4)).setCell ⟨z2.heap.size, 3, none⟩ (.int .i64 0)).setCell ⟨z2.heap.size, 4, none⟩ (.slice a9 1 c9)) := LK.of (set_block (set_block (set_block (set_block (set_block hcb 0 _) 1 _) 2 _) 3 _) 4 _)
        have hst := Below.trans hCl.below ((below_four z3 (.int .u8 2) (.int .u32 0) (.int .u32 4) (.int .i64 0) lo_F6).setCell (p := ⟨z2.heap.size, 4, none⟩) lo_F6 (.slice a9 1 c9))
        have hfr : ∀ x, x < z3.heap.size → (x < z2.heap.size ∨ z2.heap.size + 1 ≤ x) → (((((z3.setCell ⟨z2.heap.size, 0, none⟩ (.int .u8 2)).setCell ⟨z2.heap.size, 1, none⟩ (.int .u32 0)).setCell ⟨z2.heap.size, 2, none⟩ (.int .u32 4)).setCell ⟨z2.heap.size, 3, none⟩ (.int .i64 0)).setCell ⟨z2.heap.size, 4, none⟩ (.slice a9 1 c9)).heap[x]? = z3.heap[x]? := fun x _ h => ((set_other _ _ _ _ _ (by omega)).trans ((set_other _ _ _ _ _ (by omega)).trans ((set_other _ _ _ _ _ (by omega)).trans ((set_other _ _ _ _ _ (by omega)).trans (set_other _ _ _ _ _ (by omega))))))
        have F9 := F2.out (V' := (((((z3.setCell ⟨z2.heap.size, 0, none⟩ (.int .u8 2)).setCell ⟨z2.heap.size, 1, none⟩ (.int .u32 0)).setCell ⟨z2.heap.size, 2, none⟩ (.int .u32 4)).setCell ⟨z2.heap.size, 3, none⟩ (.int .i64 0)).setCell ⟨z2.heap.size, 4, none⟩ (.slice a9 1 c9))) (by simp only [World.size_setCell]; omega) hfr (by omega)
        have hCl := Cls.of hst
        refine hK.out (Cls w2) (fun _ h => h) hCl ?_
        clear hK K'
        refine wpAnyH_seg (fuel := 0) (by kernel_rfl) (fun _ d _ _ _ h => by cases d <;> exact h) hCl [8] _ _ _ (by kernel_rfl) (by kernel_rfl) ?_
        simp only [opsOf_cons, opsOf_nil, consOp_some, List.getElem?_toArray, List.getElem?_cons_succ, List.getElem?_cons_zero]
        repeat (first | go_big_quiet_step (fail) | quiet_step (fail))
        refine wpQuiet_nil ?_
        refine wpAnyH_done (by kernel_rfl) ?_ _
        go_wp2
        go_meet
        exact ⟨_, _, _, _, _, rfl, rfl, F8, F9, hst⟩
      refine Each.cons _ rfl (fun K' hK => ?_) ?_
      · go_simp
        have hs := cls_alloc hCl (.cells #[.int .u8 0, .int .u32 0, .int .u32 0, .int .i64 0, .slice none 0 0] 56)
        have F6 : LK z1.heap.size (.cells #[.int .u8 0, .int .u32 0, .int .u32 0, .int .i64 0, .slice none 0 0] 56) _ := cls_new hCl (.cells #[.int .u8 0, .int .u32 0, .int .u32 0, .int .i64 0, .slice none 0 0] 56)
        have hlt : z1.heap.size < (z1.alloc (.cells #[.int .u8 0, .int .u32 0, .int .u32 0, .int .i64 0, .slice none 0 0] 56)).heap.size := by simp
        have hst := below_step hCl.below hCl.below.size hs
        have lo_F6 := hCl.below.size
        obtain ⟨z5, hz⟩ : ∃ v, z1.alloc (.cells #[.int .u8 0, .int .u32 0, .int .u32 0, .int .i64 0, .slice none 0 0] 56) = v := ⟨_, rfl⟩
        have hz2 : z1.alloc (.cells #[.int .u8 0, .int .u32 0, .int .u32 0, .int .i64 0, .slice none 0 0] 56) = z5 := hz
        rw [hz] at ⊢
        rw [hz2] at hst hlt F6
        have sz_z5 := hlt
        clear hz hz2 hs hlt
        have hCl := Cls.of hst
        refine hK.out (Cls w2) (fun _ h => h) hCl ?_
        clear hK K'
        refine wpAnyH_each (fuel := 5) [2] (by kernel_rfl) (by simp) (by kernel_rfl) ?_
        refine Each.cons _ rfl (fun K' hK => ?_) Each.nil
        go_simp
        refine (HC.out.2.2 _ _ _ _ _ (HQ.out.1.step hCl.below).v).mono ?_
        rintro e z6 ⟨v9, rfl, hm⟩
        have hs := hm.below
        have hv9 := hm.bytes
        obtain ⟨a9, c9, rfl, -, -⟩ := hv9.form (n := 1) rfl
        clear hv9
        replace F6 := F6.step hs
        have F2 := LB.of hm.bytes (Nat.le_refl _)
        have sz_z6 : z5.heap.size ≤ z6.heap.size := hs.size
        have hst := below_step hCl.below hCl.below.size hs
        clear hs
        have hCl := Cls.of hst
        refine hK.out (Cls w2) (fun _ h => h) hCl ?_
        clear hK K'
        refine wpAnyH_seg (fuel := 2) (by kernel_rfl) (fun _ d _ _ _ h => by cases d <;> exact h) hCl [3, 4, 5] _ _ _ (by kernel_rfl) (by kernel_rfl) ?_
        simp only [opsOf_cons, opsOf_nil, consOp_some, List.getElem?_toArray, List.getElem?_cons_succ, List.getElem?_cons_zero]
        repeat (first | go_big_quiet_step (fail) | quiet_step (fail))
        refine wpQuiet_nil ?_
        refine wpAnyH_each (fuel := 1) [7] (by kernel_rfl) (by simp) (by kernel_rfl) ?_
        refine Each.cons _ rfl (fun K' hK => ?_) Each.nil
        have hcb := LK.blk F6
        have r0 := LK.cell F6 0
        have r1 := LK.cell F6 1
        have r2 := LK.cell F6 2
        have r3 := LK.cell F6 3
        have r4 := LK.cell F6 4
        simp at r0 r1 r2 r3 r4
        have s0 := LK.frozen F6 0
        have s1 := LK.frozen F6 1
        have s2 := LK.frozen F6 2
        have s3 := LK.frozen F6 3
        have s4 := LK.frozen F6 4
        go_simp
        have F8 : LK (z1.heap.size) (.cells #[.int .u8 2, .int .u32 0, .int .u32 4, .int .i64 0, .slice a9 1 c9] 56) (((((z6.setCell ⟨z1.heap.size, 0, none⟩ (.int .u8 2)).setCell ⟨z1.heap.size, 1, none⟩ (.int .u32 0)).setCell ⟨z1.heap.size, 2, none⟩ (.int .u32 4)).setCell ⟨z1.heap.size, 3, none⟩ (.int .i64 0)).setCell ⟨z1.heap.size, 4, none⟩ (.slice a9 1 c9)) := LK.of (set_block (set_block (set_block (set_block (set_block hcb 0 _) 1 _) 2 _) 3 _) 4 _)
        have hst := Below.trans hCl.below ((below_four z6 (.int .u8 2) (.int .u32 0) (.int .u32 4) (.int .i64 0) lo_F6).setCell (p := ⟨z1.heap.size, 4, none⟩) lo_F6 (.slice a9 1 c9))
        have hfr : ∀ x, x < z6.heap.size → (x < z1.heap.size ∨ z1.heap.size + 1 ≤ x) → (((((z6.setCell ⟨z1.heap.size, 0, none⟩ (.int .u8 2)).setCell ⟨z1.heap.size, 1, none⟩ (.int .u32 0)).setCell ⟨z1.heap.size, 2, none⟩ (.int .u32 4)).setCell ⟨z1.heap.size, 3, none⟩ (.int .i64 0)).setCell ⟨z1.heap.size, 4, none⟩ (.slice a9 1 c9)).heap[x]? = z6.heap[x]? := fun x _ h => ((set_other _ _ _ _ _ (by omega)).trans ((set_other _ _ _ _ _ (by omega)).trans ((set_other _ _ _ _ _ (by omega)).trans ((set_other _ _ _ _ _ (by omega)).trans (set_other _ _ _ _ _ (by omega))))))
        have F9 := F2.out (V' := (((((z6.setCell ⟨z1.heap.size, 0, none⟩ (.int .u8 2)).setCell ⟨z1.heap.size, 1, none⟩ (.int .u32 0)).setCell ⟨z1.heap.size, 2, none⟩ (.int .u32 4)).setCell ⟨z1.heap.size, 3, none⟩ (.int .i64 0)).setCell ⟨z1.heap.size, 4, none⟩ (.slice a9 1 c9))) (by simp only [World.size_setCell]; omega) hfr (by omega)
        have hCl := Cls.of hst
        refine hK.out (Cls w2) (fun _ h => h) hCl ?_
        clear hK K'
        refine wpAnyH_seg (fuel := 0) (by kernel_rfl) (fun _ d _ _ _ h => by cases d <;> exact h) hCl [8] _ _ _ (by kernel_rfl) (by kernel_rfl) ?_
        simp only [opsOf_cons, opsOf_nil, consOp_some, List.getElem?_toArray, List.getElem?_cons_succ, List.getElem?_cons_zero]
        repeat (first | go_big_quiet_step (fail) | quiet_step (fail))
        refine wpQuiet_nil ?_
        refine wpAnyH_done (by kernel_rfl) ?_ _
        go_wp2
        go_meet
        exact ⟨_, _, _, _, _, rfl, rfl, F8, F9, hst⟩
      exact Each.nil
    refine Each.cons _ rfl (fun K' hK => ?_) ?_
    · go_simp
      have hs := cls_alloc hCl (.cells #[.int .u8 0, .int .u32 0, .int .u32 0, .int .i64 0, .slice none 0 0] 56)
      have F6 : LK w2.heap.size (.cells #[.int .u8 0, .int .u32 0, .int .u32 0, .int .i64 0, .slice none 0 0] 56) _ := cls_new hCl (.cells #[.int .u8 0, .int .u32 0, .int .u32 0, .int .i64 0, .slice none 0 0] 56)
      have hlt : w2.drew.heap.size < (w2.drew.alloc (.cells #[.int .u8 0, .int .u32 0, .int .u32 0, .int .i64 0, .slice none 0 0] 56)).heap.size := by simp
      have hst := below_step hCl.below hCl.below.size hs
      have lo_F6 := hCl.below.size
      obtain ⟨z8, hz⟩ : ∃ v, (w2.alloc (.cells #[.int .u8 0, .int .u32 0, .int .u32 0, .int .i64 0, .slice none 0 0] 56)).drew = v := ⟨_, rfl⟩
      have hz2 : w2.drew.alloc (.cells #[.int .u8 0, .int .u32 0, .int .u32 0, .int .i64 0, .slice none 0 0] 56) = z8 := hz
      rw [hz] at ⊢
      rw [hz2] at hst hlt F6
      have sz_z8 := hlt
      clear hz hz2 hs hlt
      have hCl := Cls.of hst
      refine hK.out (Cls w2) (fun _ h => h) hCl ?_
      clear hK K'
      refine wpAnyH_each (fuel := 6) [1] (by kernel_rfl) (by simp) (by kernel_rfl) ?_
      refine Each.cons _ rfl (fun K' hK => ?_) Each.nil
      go_simp
      refine (HC.out.2.1 4 _).mono ?_
      rintro e z9 ⟨rfl, hs⟩
      replace F6 := F6.step hs
      have sz_z9 : z8.heap.size ≤ z9.heap.size := hs.size
      have hst := below_step hCl.below hCl.below.size hs
      clear hs
      have hCl := Cls.of hst
      refine hK.out (Cls w2) (fun _ h => h) hCl ?_
      clear hK K'
      refine wpAnyH_each (fuel := 5) [2] (by kernel_rfl) (by simp) (by kernel_rfl) ?_
      refine Each.cons _ rfl (fun K' hK => ?_) Each.nil
      go_simp
      refine (HC.out.2.2 _ _ _ _ _ (HQ.out.1.step hCl.below).v).mono ?_
      rintro e z10 ⟨v9, rfl, hm⟩
      have hs := hm.below
      have hv9 := hm.bytes
      obtain ⟨a9, c9, rfl, -, -⟩ := hv9.form (n := 1) rfl
      clear hv9
      replace F6 := F6.step hs
      have F2 := LB.of hm.bytes (Nat.le_refl _)
      have sz_z10 : z9.heap.size ≤ z10.heap.size := hs.size
      have hst := below_step hCl.below hCl.below.size hs
      clear hs
      have hCl := Cls.of hst
      refine hK.out (Cls w2) (fun _ h => h) hCl ?_
      clear hK K'
      refine wpAnyH_seg (fuel := 2) (by kernel_rfl) (fun _ d _ _ _ h => by cases d <;> exact h) hCl [3, 4, 5] _ _ _ (by kernel_rfl) (by kernel_rfl) ?_
      simp only [opsOf_cons, opsOf_nil, consOp_some, List.getElem?_toArray, List.getElem?_cons_succ, List.getElem?_cons_zero]
      repeat (first | go_big_quiet_step (fail) | quiet_step (fail))
      refine wpQuiet_nil ?_
      refine wpAnyH_each (fuel := 1) [7] (by kernel_rfl) (by simp) (by kernel_rfl) ?_
      refine Each.cons _ rfl (fun K' hK => ?_) Each.nil
      have hcb := LK.blk F6
      have r0 := LK.cell F6 0
      have r1 := LK.cell F6 1
      have r2 := LK.cell F6 2
      have r3 := LK.cell F6 3
      have r4 := LK.cell F6 4
      simp at r0 r1 r2 r3 r4
      have s0 := LK.frozen F6 0
      have s1 := LK.frozen F6 1
      have s2 := LK.frozen F6 2
      have s3 := LK.frozen F6 3
      have s4 := LK.frozen F6 4
      go_simp
      have F8 : LK (w2.heap.size) (.cells #[.int .u8 2, .int .u32 0, .int .u32 4, .int .i64 0, .slice a9 1 c9] 56) (((((z10.setCell ⟨w2.heap.size, 0, none⟩ (.int .u8 2)).setCell ⟨w2.heap.size, 1, none⟩ (.int .u32 0)).setCell ⟨w2.heap.size, 2, none⟩ (.int .u32 4)).setCell ⟨w2.heap.size, 3, none⟩ (.int .i64 0)).setCell ⟨w2.heap.size, 4, none⟩ (.slice a9 1 c9)) := LK.of (set_block (set_block (set_block (set_block (set_block hcb 0 _) 1 _) 2 _) 3 _) 4 _)
      have hst := Below.trans hCl.below ((below_four z10 (.int .u8 2) (.int .u32 0) (.int .u32 4) (.int .i64 0) lo_F6).setCell (p := ⟨w2.heap.size, 4, none⟩) lo_F6 (.slice a9 1 c9))
      have hfr : ∀ x, x < z10.heap.size → (x < w2.heap.size ∨ w2.heap.size + 1 ≤ x) → (((((z10.setCell ⟨w2.heap.size, 0, none⟩ (.int .u8 2)).setCell ⟨w2.heap.size, 1, none⟩ (.int .u32 0)).setCell ⟨w2.heap.size, 2, none⟩ (.int .u32 4)).setCell ⟨w2.heap.size, 3, none⟩ (.int .i64 0)).setCell ⟨w2.heap.size, 4, none⟩ (.slice a9 1 c9)).heap[x]? = z10.heap[x]? := fun x _ h => ((set_other _ _ _ _ _ (by omega)).trans ((set_other _ _ _ _ _ (by omega)).trans ((set_other _ _ _ _ _ (by omega)).trans ((set_other _ _ _ _ _ (by omega)).trans (set_other _ _ _ _ _ (by omega))))))
      have F9 := F2.out (V' := (((((z10.setCell ⟨w2.heap.size, 0, none⟩ (.int .u8 2)).setCell ⟨w2.heap.size, 1, none⟩ (.int .u32 0)).setCell ⟨w2.heap.size, 2, none⟩ (.int .u32 4)).setCell ⟨w2.heap.size, 3, none⟩ (.int .i64 0)).setCell ⟨w2.heap.size, 4, none⟩ (.slice a9 1 c9))) (by simp only [World.size_setCell]; omega) hfr (by omega)
      have hCl := Cls.of hst
      refine hK.out (Cls w2) (fun _ h => h) hCl ?_
      clear hK K'
      refine wpAnyH_seg (fuel := 0) (by kernel_rfl) (fun _ d _ _ _ h => by cases d <;> exact h) hCl [8] _ _ _ (by kernel_rfl) (by kernel_rfl) ?_
      simp only [opsOf_cons, opsOf_nil, consOp_some, List.getElem?_toArray, List.getElem?_cons_succ, List.getElem?_cons_zero]
      repeat (first | go_big_quiet_step (fail) | quiet_step (fail))
      refine wpQuiet_nil ?_
      refine wpAnyH_done (by kernel_rfl) ?_ _
      go_wp2
      go_meet
      exact ⟨_, _, _, _, _, rfl, rfl, F8, F9, hst⟩
    exact Each.nil
  case rest =>
  obtain ⟨gX, lo, hi, cX, aX, rfl, rfl, q_x, B_x, hst⟩ := hcut
  obtain ⟨wc, hwc⟩ := named_w hst
  subst hwc
  clear c_q_t0 c_q_t1 c_q_t2 c_q_t3
  obtain ⟨P_t, q_t, hB⟩ := HQ.out
  clear HQ
  have sz_wc : w2.heap.size ≤ wc.heap.size := hst.size
  replace P_t := P_t.step hst
  replace q_t := q_t.step hst
  replace hB := hB.step hst
  clear hst
  have HQ := Lib.hid (And.intro P_t (And.intro q_t (And.intro q_x (And.intro B_x hB))))
  clear P_t q_t q_x B_x hB
  have c_q_t0 := LK.cell HQ.out.2.1 0
  have c_q_t1 := LK.cell HQ.out.2.1 1
  have c_q_t2 := LK.cell HQ.out.2.1 2
  have c_q_t3 := LK.cell HQ.out.2.1 3
  have c_q_x0 := LK.cell HQ.out.2.2.1 0
  have c_q_x1 := LK.cell HQ.out.2.2.1 1
  have c_q_x2 := LK.cell HQ.out.2.2.1 2
  have c_q_x3 := LK.cell HQ.out.2.2.1 3
  have c_q_x4 := LK.cell HQ.out.2.2.1 4
  simp at c_q_t0 c_q_t1 c_q_t2 c_q_t3 c_q_x0 c_q_x1 c_q_x2 c_q_x3 c_q_x4
  have ek : ∀ W, (Op.equalIn 10000 48 (.agg #[.int .u8 2, .int .u32 0, .int .u32 4]) (.agg #[.int .u8 2, .int .u32 0, .int .u32 4])).run Try.prog W = .ok true W := fun W => (eq_key (kOf 4) (kOf 4) W).trans (congrArg (fun z => Result.ok z W) (decide_eq_true rfl))
  clear c_q_t0 c_q_t1 c_q_t2 c_q_t3 c_q_x0 c_q_x1 c_q_x2 c_q_x3 c_q_x4
  have x_x0 := fun X => LK.cell (HQ.out.2.2.1.step (aft_below wc X)) 0
  have x_x1 := fun X => LK.cell (HQ.out.2.2.1.step (aft_below wc X)) 1
  have x_x2 := fun X => LK.cell (HQ.out.2.2.1.step (aft_below wc X)) 2
  have x_x3 := fun X => LK.cell (HQ.out.2.2.1.step (aft_below wc X)) 3
  have x_x4 := fun X => LK.cell (HQ.out.2.2.1.step (aft_below wc X)) 4
  simp at x_x0 x_x1 x_x2 x_x3 x_x4
  have x_v := fun X => cv_of (HQ.out.2.2.2.1.step (aft_below wc X)).v
  go_upto_region 3 with (fail)
  refine wp_region_held_drew (S := Cls wc) (by kernel_rfl) (Cls.drew wc) (fun hCl => ?_)
  refine wpAnyH_seg (fuel := 10) (by kernel_rfl) (fun _ d _ _ _ h => by cases d <;> exact h) hCl [0, 1, 2, 3, 4, 5, 6, 7] _ _ _ (by kernel_rfl) (by kernel_rfl) ?_
  simp only [opsOf_cons, opsOf_nil, consOp_some, List.getElem?_toArray, List.getElem?_cons_succ, List.getElem?_cons_zero]
  repeat (first | go_big_quiet_step (fail) | quiet_step (fail))
  refine wpQuiet_nil ?_
  refine wpAnyH_each (fuel := 9) [8] (by kernel_rfl) (by simp) (by kernel_rfl) ?_
  refine Each.cons _ rfl (fun K' hK => ?_) Each.nil
  go_simp
  refine (HC.out.2.1 4 _).mono ?_
  rintro e zq ⟨rfl, hb⟩
  have hst := below_step hCl.below hCl.below.size hb
  clear hb
  have hCl := Cls.of hst
  refine hK.out (Cls wc) (fun _ h => h) hCl ?_
  clear hK K'
  refine wpAnyH_seg (fuel := 0) (by kernel_rfl) (fun _ d _ _ _ h => by cases d <;> exact h) hCl [9, 10, 11, 12, 13, 14, 15, 16, 17] _ _ _ (by kernel_rfl) (by kernel_rfl) ?_
  simp only [opsOf_cons, opsOf_nil, consOp_some, List.getElem?_toArray, List.getElem?_cons_succ, List.getElem?_cons_zero]
  repeat (first | go_big_quiet_step (fail) | quiet_step (fail))
  refine wpQuiet_nil ?_
  refine wpAnyH_done (by kernel_rfl) ?_ _
  go_wp2
  go_ret
  exact ⟨rfl, below_step HQ.out.2.2.2.2 (Below.size HQ.out.2.2.2.2) hst⟩

end Go.Proofs.Ytcibihakjcenaaa

