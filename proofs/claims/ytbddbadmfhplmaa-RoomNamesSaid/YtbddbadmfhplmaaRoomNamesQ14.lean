/- RoomNames: the words and contracts, part 14. -/
import Derived.Test.YtbddbadmfhplmaaRoomNamesQ1
import Derived.Test.YtbddbadmfhplmaaRoomNamesQ2
import Derived.Test.YtbddbadmfhplmaaRoomNamesQ3
import Derived.Test.YtbddbadmfhplmaaRoomNamesQ4
import Derived.Test.YtbddbadmfhplmaaRoomNamesQ5
import Derived.Test.YtbddbadmfhplmaaRoomNamesQ6
import Derived.Test.YtbddbadmfhplmaaRoomNamesQ7
import Derived.Test.YtbddbadmfhplmaaRoomNamesQ8
import Derived.Test.YtbddbadmfhplmaaRoomNamesQ9
import Derived.Test.YtbddbadmfhplmaaRoomNamesQ10
import Derived.Test.YtbddbadmfhplmaaRoomNamesQ11
import Derived.Test.YtbddbadmfhplmaaRoomNamesQ12
import Derived.Test.YtbddbadmfhplmaaRoomNamesQ13
import Derived.WalkKit
import Derived.WalkLawsBesides
import Derived.WalkSpells
import Derived.Lib.Hide
import Derived.Laws.Rows
import Derived.Laws.AppendOwnNone
import Derived.Maps.AppendAt
import Derived.ProofKit
import Derived.Deep.Slices
import Derived.WideShapes
import Derived.RangeFuncNested
import Derived.RangeFuncBound
import Derived.RangeFuncCalls
import Derived.RangeFuncLeaves
import Derived.RangeFuncBox
import Derived.Shelf.Abstract
import Derived.Shelf.RegionOpen
import Derived.OwnWalkIn
import Derived.TacticsInMore
import Derived.LoopNIn
import Derived.LoopIn
import Derived.Lib.AppendZerosOnto
import Derived.Lib.SliceRun
import Derived.Lib.Walk
import Derived.Deep.LoopGhost
import Derived.Laws.CopyOwn
import Derived.Laws.CopyRow
import Derived.OrdersHeld
import Derived.Deep.QuietTactic
import Derived.BigQuiet
import Derived.StillTailTactics
import Derived.OpenShut
import Derived.Deep.DeepCutAuto
import Derived.Laws.MakeOwn
import Derived.Deep.RegionHeld
import Derived.KernelRfl
import Derived.BigFrameIn
import Derived.OrdersIn
namespace Go.Proofs.Ytbddbadmfhplmaa
open Go.RowKit

theorem cls_alloc {w X : World} (_ : Cls w X) (o : Obj) : Below X.heap.size X (X.alloc o) := (Below.refl _ _).alloc (Nat.le_refl _) o
theorem cls_new {w X : World} (_ : Cls w X) (o : Obj) : LK X.heap.size o (X.alloc o) := LK.new X o
theorem cls_at {w X : World} (_ : Cls w X) {p : World → Prop} (h : ∀ X, p X) : p X := h X
def zs8 : List UInt8 := List.replicate 128 0
theorem take_new : errTk newS zs8 = 0 ∧ atTk newS zs8 = 8 ∧ (takeS newS zs8).now.length = 256 ∧ (takeS newS zs8).now[8]? = some 1 := by decide +kernel

set_option maxRecDepth 100000 in
set_option maxHeartbeats 2000000 in
theorem alive8  (w : World)  :
    Calls Try.prog 15 #[] w fun e w' => e = .returned (.bool true) ∧ Below w.heap.size w w' := by
  have hB : LW w w := Below.refl _ _
  have HQ := Lib.hid (hB)
  clear hB
  obtain ⟨t1, t2, t3, t4⟩ := take_new
  obtain ⟨N, hN⟩ : ∃ N, newS = N := ⟨_, rfl⟩
  obtain ⟨Z, hZ⟩ : ∃ Z, zs8 = Z := ⟨_, rfl⟩
  obtain ⟨T, hT⟩ : ∃ T, takeS newS zs8 = T := ⟨_, rfl⟩
  have k_t := fun V b u x y v h1 h2 => stake_any b u x y newS v zs8 V h1 h2
  rw [t1, t2, hT] at k_t
  rw [hT] at t3 t4
  rw [hN, hZ] at k_t
  have k_n := fun V => snew_any V
  rw [hN] at k_n
  have hmk : ∀ X : World, (Instr.makeSlice 26 (.int .i64 128) (.int .i64 128)).run Try.prog X = .ok (.slice (some ⟨X.heap.size, 0, none⟩) 128 128) (X.alloc (.cells (madeCells #[.int .u8 0] 128) 5)) := fun X => run_makeN (P := Try.prog) 26 5 (.int .u8 0) #[.int .u8 0] 1 1 Try.underlying26 (by kernel_rfl) rfl 128 128 128 rfl (by decide) (by decide) (by decide) X
  have hz : madeCells #[.int .u8 0] 128 = (zs8.map bV).toArray := by kernel_rfl
  rw [hZ] at hz
  have hZl : Z.length = 128 := by rw [← hZ]; rfl
  have hzn : ∀ X : World, LB X.heap.size (X.heap.size + 1) (.slice (some ⟨X.heap.size, 0, none⟩) 128 128) Z (X.alloc (.cells (madeCells #[.int .u8 0] 128) 5)) := fun X => LB.of (by have := Bytes.new X 5 Z (by rw [hZl]; simp [maxLen]) (0, 0); rw [hZl] at this; rwa [hz]) (by simp)
  generalize madeCells #[.int .u8 0] 128 = MC at *
  have HZN := Lib.hid hzn
  have HT := Lib.hid (And.intro t3 t4)
  clear hz hzn hZ hN hT t1 t2 t3 t4 hZl
  have HC := Lib.hid (And.intro k_t k_n)
  clear k_t k_n
  go_enter Try.func15, Try.ntmps15
  go_upto_region 1 with (fail)
  go_cut [1, 2, 3] (fun t1 t2 t3 wx => ∃ (g lo hi : Nat) (b u x y : Value), t1 = .pointer (some ⟨g, 0, none⟩) ∧ t2 = .int .i64 8 ∧ t3 = .int .i64 0 ∧ LK g (.cells #[b, u, x, y] 28) wx ∧ LO lo hi b u x y T wx ∧ Below w.heap.size w wx)
  case first =>
    refine wp_region_held_drew (S := Cls w) (by kernel_rfl) (Cls.drew w) (fun hCl => ?_)
    refine wpAnyH_each (fuel := 10) [0, 1, 7] (by kernel_rfl) (by simp) (by kernel_rfl) ?_
    refine Each.cons _ rfl (fun K' hK => ?_) ?_
    · go_simp
      refine (HC.out.2 _).mono ?_
      rintro e z1 ⟨b0, u0, x0, y0, rfl, hm⟩
      have hs := hm.below
      have F0 := (LP.of hm).o
      have sz_z1 : w.drew.heap.size ≤ z1.heap.size := hs.size
      have hst := below_step hCl.below hCl.below.size hs
      clear hs
      have hCl := Cls.of hst
      refine hK.out (Cls w) (fun _ h => h) hCl ?_
      clear hK K'
      refine wpAnyH_each (fuel := 9) [1, 7] (by kernel_rfl) (by simp) (by kernel_rfl) ?_
      refine Each.cons _ rfl (fun K' hK => ?_) ?_
      · go_simp
        have hs := cls_alloc hCl (.cells MC 5)
        have F1 := cls_at hCl HZN.out
        have hlt : z1.heap.size < (z1.alloc (.cells MC 5)).heap.size := by simp
        replace F0 := F0.step hs
        have hst := below_step hCl.below hCl.below.size hs
        have lo_F1 := hCl.below.size
        obtain ⟨z2, hz⟩ : ∃ v, z1.alloc (.cells MC 5) = v := ⟨_, rfl⟩
        have hz2 : z1.alloc (.cells MC 5) = z2 := hz
        rw [hz] at ⊢
        rw [hz2] at hst hlt F0 F1
        have sz_z2 := hlt
        clear hz hz2 hs hlt
        have hCl := Cls.of hst
        refine hK.out (Cls w) (fun _ h => h) hCl ?_
        clear hK K'
        refine wpAnyH_each (fuel := 8) [2, 7] (by kernel_rfl) (by simp) (by kernel_rfl) ?_
        refine Each.cons _ rfl (fun K' hK => ?_) ?_
        · go_simp
          refine (HC.out.1 _ _ _ _ _ _ F0.v F1.v).mono ?_
          rintro e z3 ⟨b2, u2, x2, y2, rfl, hm⟩
          have hs := hm.below
          obtain ⟨ab_t, cb_t, rfl, -, -, -, -⟩ := hm.store.v.1.1
          obtain ⟨au_t, cu_t, rfl, -, -, -, -⟩ := hm.store.v.1.2
          obtain ⟨ax_t, cx_t, rfl, -, -⟩ := hm.store.v.2.1.form rfl
          obtain ⟨ay_t, cy_t, rfl, -, -⟩ := hm.store.v.2.2.form rfl
          replace F0 := F0.step hs
          replace F1 := F1.step hs
          have F2 := LP.of hm
          have sz_z3 : z2.heap.size ≤ z3.heap.size := hs.size
          have hst := below_step hCl.below hCl.below.size hs
          clear hs
          have hCl := Cls.of hst
          refine hK.out (Cls w) (fun _ h => h) hCl ?_
          clear hK K'
          refine wpAnyH_seg (fuel := 4) (by kernel_rfl) (fun _ d _ _ _ h => by cases d <;> exact h) hCl [3, 4, 5, 6] _ _ _ (by kernel_rfl) (by kernel_rfl) ?_
          simp only [opsOf_cons, opsOf_nil, consOp_some, List.getElem?_toArray, List.getElem?_cons_succ, List.getElem?_cons_zero]
          repeat (first | go_big_quiet_step (fail) | quiet_step (fail))
          refine wpQuiet_nil ?_
          refine wpAnyH_each (fuel := 3) [7] (by kernel_rfl) (by simp) (by kernel_rfl) ?_
          refine Each.cons _ rfl (fun K' hK => ?_) Each.nil
          go_simp
          have hs := cls_alloc hCl (.cells #[.slice none 0 0, .slice none 0 0, .slice none 0 0, .slice none 0 0] 28)
          have F7 : LK z3.heap.size (.cells #[.slice none 0 0, .slice none 0 0, .slice none 0 0, .slice none 0 0] 28) _ := cls_new hCl (.cells #[.slice none 0 0, .slice none 0 0, .slice none 0 0, .slice none 0 0] 28)
          have hlt : z3.heap.size < (z3.alloc (.cells #[.slice none 0 0, .slice none 0 0, .slice none 0 0, .slice none 0 0] 28)).heap.size := by simp
          replace F0 := F0.step hs
          replace F1 := F1.step hs
          replace F2 := F2.step hs
          have hst := below_step hCl.below hCl.below.size hs
          have lo_F7 := hCl.below.size
          obtain ⟨z4, hz⟩ : ∃ v, z3.alloc (.cells #[.slice none 0 0, .slice none 0 0, .slice none 0 0, .slice none 0 0] 28) = v := ⟨_, rfl⟩
          have hz2 : z3.alloc (.cells #[.slice none 0 0, .slice none 0 0, .slice none 0 0, .slice none 0 0] 28) = z4 := hz
          rw [hz] at ⊢
          rw [hz2] at hst hlt F0 F1 F2 F7
          have sz_z4 := hlt
          clear hz hz2 hs hlt
          have hCl := Cls.of hst
          refine hK.out (Cls w) (fun _ h => h) hCl ?_
          clear hK K'
          refine wpAnyH_each (fuel := 2) [8] (by kernel_rfl) (by simp) (by kernel_rfl) ?_
          refine Each.cons _ rfl (fun K' hK => ?_) Each.nil
          have hcb := LK.blk F7
          have r0 := LK.cell F7 0
          have r1 := LK.cell F7 1
          have r2 := LK.cell F7 2
          have r3 := LK.cell F7 3
          simp at r0 r1 r2 r3
          have s0 := LK.frozen F7 0
          have s1 := LK.frozen F7 1
          have s2 := LK.frozen F7 2
          have s3 := LK.frozen F7 3
          go_simp
          have F8 : LK (z3.heap.size) (.cells #[.slice ab_t T.disk.blocks.length cb_t, .slice au_t T.disk.waits.length cu_t, .slice ax_t T.now.length cx_t, .slice ay_t T.last.length cy_t] 28) ((((z4.setCell ⟨z3.heap.size, 0, none⟩ (.slice ab_t T.disk.blocks.length cb_t)).setCell ⟨z3.heap.size, 1, none⟩ (.slice au_t T.disk.waits.length cu_t)).setCell ⟨z3.heap.size, 2, none⟩ (.slice ax_t T.now.length cx_t)).setCell ⟨z3.heap.size, 3, none⟩ (.slice ay_t T.last.length cy_t)) := LK.of (set_block (set_block (set_block (set_block hcb 0 _) 1 _) 2 _) 3 _)
          have hst := Below.trans hCl.below (below_four z4 (.slice ab_t T.disk.blocks.length cb_t) (.slice au_t T.disk.waits.length cu_t) (.slice ax_t T.now.length cx_t) (.slice ay_t T.last.length cy_t) lo_F7)
          have hfr : ∀ x, x < z4.heap.size → (x < z3.heap.size ∨ z3.heap.size + 1 ≤ x) → ((((z4.setCell ⟨z3.heap.size, 0, none⟩ (.slice ab_t T.disk.blocks.length cb_t)).setCell ⟨z3.heap.size, 1, none⟩ (.slice au_t T.disk.waits.length cu_t)).setCell ⟨z3.heap.size, 2, none⟩ (.slice ax_t T.now.length cx_t)).setCell ⟨z3.heap.size, 3, none⟩ (.slice ay_t T.last.length cy_t)).heap[x]? = z4.heap[x]? := fun x _ h => (set_other _ _ _ _ _ (by omega)).trans ((set_other _ _ _ _ _ (by omega)).trans ((set_other _ _ _ _ _ (by omega)).trans (set_other _ _ _ _ _ (by omega))))
          have F9 := F2.o.out (V' := ((((z4.setCell ⟨z3.heap.size, 0, none⟩ (.slice ab_t T.disk.blocks.length cb_t)).setCell ⟨z3.heap.size, 1, none⟩ (.slice au_t T.disk.waits.length cu_t)).setCell ⟨z3.heap.size, 2, none⟩ (.slice ax_t T.now.length cx_t)).setCell ⟨z3.heap.size, 3, none⟩ (.slice ay_t T.last.length cy_t))) (by simp only [World.size_setCell]; omega) hfr (by omega)
          have hCl := Cls.of hst
          refine hK.out (Cls w) (fun _ h => h) hCl ?_
          clear hK K'
          refine wpAnyH_seg (fuel := 0) (by kernel_rfl) (fun _ d _ _ _ h => by cases d <;> exact h) hCl [9, 10] _ _ _ (by kernel_rfl) (by kernel_rfl) ?_
          simp only [opsOf_cons, opsOf_nil, consOp_some, List.getElem?_toArray, List.getElem?_cons_succ, List.getElem?_cons_zero]
          repeat (first | go_big_quiet_step (fail) | quiet_step (fail))
          refine wpQuiet_nil ?_
          refine wpAnyH_done (by kernel_rfl) ?_ _
          go_wp2
          go_meet
          exact ⟨_, _, _, _, _, _, _, rfl, rfl, rfl, F8, F9, hst⟩
        refine Each.cons _ rfl (fun K' hK => ?_) ?_
        · go_simp
          have hs := cls_alloc hCl (.cells #[.slice none 0 0, .slice none 0 0, .slice none 0 0, .slice none 0 0] 28)
          have F7 : LK z2.heap.size (.cells #[.slice none 0 0, .slice none 0 0, .slice none 0 0, .slice none 0 0] 28) _ := cls_new hCl (.cells #[.slice none 0 0, .slice none 0 0, .slice none 0 0, .slice none 0 0] 28)
          have hlt : z2.heap.size < (z2.alloc (.cells #[.slice none 0 0, .slice none 0 0, .slice none 0 0, .slice none 0 0] 28)).heap.size := by simp
          replace F0 := F0.step hs
          replace F1 := F1.step hs
          have hst := below_step hCl.below hCl.below.size hs
          have lo_F7 := hCl.below.size
          obtain ⟨z6, hz⟩ : ∃ v, z2.alloc (.cells #[.slice none 0 0, .slice none 0 0, .slice none 0 0, .slice none 0 0] 28) = v := ⟨_, rfl⟩
          have hz2 : z2.alloc (.cells #[.slice none 0 0, .slice none 0 0, .slice none 0 0, .slice none 0 0] 28) = z6 := hz
          rw [hz] at ⊢
          rw [hz2] at hst hlt F0 F1 F7
          have sz_z6 := hlt
          clear hz hz2 hs hlt
          have hCl := Cls.of hst
          refine hK.out (Cls w) (fun _ h => h) hCl ?_
          clear hK K'
          refine wpAnyH_each (fuel := 7) [2] (by kernel_rfl) (by simp) (by kernel_rfl) ?_
          refine Each.cons _ rfl (fun K' hK => ?_) Each.nil
          go_simp
          refine (HC.out.1 _ _ _ _ _ _ F0.v F1.v).mono ?_
          rintro e z7 ⟨b2, u2, x2, y2, rfl, hm⟩
          have hs := hm.below
          obtain ⟨ab_t, cb_t, rfl, -, -, -, -⟩ := hm.store.v.1.1
          obtain ⟨au_t, cu_t, rfl, -, -, -, -⟩ := hm.store.v.1.2
          obtain ⟨ax_t, cx_t, rfl, -, -⟩ := hm.store.v.2.1.form rfl
          obtain ⟨ay_t, cy_t, rfl, -, -⟩ := hm.store.v.2.2.form rfl
          replace F0 := F0.step hs
          replace F1 := F1.step hs
          replace F7 := F7.step hs
          have F2 := LP.of hm
          have sz_z7 : z6.heap.size ≤ z7.heap.size := hs.size
          have hst := below_step hCl.below hCl.below.size hs
          clear hs
          have hCl := Cls.of hst
          refine hK.out (Cls w) (fun _ h => h) hCl ?_
          clear hK K'
          refine wpAnyH_seg (fuel := 3) (by kernel_rfl) (fun _ d _ _ _ h => by cases d <;> exact h) hCl [3, 4, 5, 6] _ _ _ (by kernel_rfl) (by kernel_rfl) ?_
          simp only [opsOf_cons, opsOf_nil, consOp_some, List.getElem?_toArray, List.getElem?_cons_succ, List.getElem?_cons_zero]
          repeat (first | go_big_quiet_step (fail) | quiet_step (fail))
          refine wpQuiet_nil ?_
          refine wpAnyH_each (fuel := 2) [8] (by kernel_rfl) (by simp) (by kernel_rfl) ?_
          refine Each.cons _ rfl (fun K' hK => ?_) Each.nil
          have hcb := LK.blk F7
          have r0 := LK.cell F7 0
          have r1 := LK.cell F7 1
          have r2 := LK.cell F7 2
          have r3 := LK.cell F7 3
          simp at r0 r1 r2 r3
          have s0 := LK.frozen F7 0
          have s1 := LK.frozen F7 1
          have s2 := LK.frozen F7 2
          have s3 := LK.frozen F7 3
          go_simp
          have F8 : LK (z2.heap.size) (.cells #[.slice ab_t T.disk.blocks.length cb_t, .slice au_t T.disk.waits.length cu_t, .slice ax_t T.now.length cx_t, .slice ay_t T.last.length cy_t] 28) ((((z7.setCell ⟨z2.heap.size, 0, none⟩ (.slice ab_t T.disk.blocks.length cb_t)).setCell ⟨z2.heap.size, 1, none⟩ (.slice au_t T.disk.waits.length cu_t)).setCell ⟨z2.heap.size, 2, none⟩ (.slice ax_t T.now.length cx_t)).setCell ⟨z2.heap.size, 3, none⟩ (.slice ay_t T.last.length cy_t)) := LK.of (set_block (set_block (set_block (set_block hcb 0 _) 1 _) 2 _) 3 _)
          have hst := Below.trans hCl.below (below_four z7 (.slice ab_t T.disk.blocks.length cb_t) (.slice au_t T.disk.waits.length cu_t) (.slice ax_t T.now.length cx_t) (.slice ay_t T.last.length cy_t) lo_F7)
          have hfr : ∀ x, x < z7.heap.size → (x < z2.heap.size ∨ z2.heap.size + 1 ≤ x) → ((((z7.setCell ⟨z2.heap.size, 0, none⟩ (.slice ab_t T.disk.blocks.length cb_t)).setCell ⟨z2.heap.size, 1, none⟩ (.slice au_t T.disk.waits.length cu_t)).setCell ⟨z2.heap.size, 2, none⟩ (.slice ax_t T.now.length cx_t)).setCell ⟨z2.heap.size, 3, none⟩ (.slice ay_t T.last.length cy_t)).heap[x]? = z7.heap[x]? := fun x _ h => (set_other _ _ _ _ _ (by omega)).trans ((set_other _ _ _ _ _ (by omega)).trans ((set_other _ _ _ _ _ (by omega)).trans (set_other _ _ _ _ _ (by omega))))
          have F9 := F2.o.out (V' := ((((z7.setCell ⟨z2.heap.size, 0, none⟩ (.slice ab_t T.disk.blocks.length cb_t)).setCell ⟨z2.heap.size, 1, none⟩ (.slice au_t T.disk.waits.length cu_t)).setCell ⟨z2.heap.size, 2, none⟩ (.slice ax_t T.now.length cx_t)).setCell ⟨z2.heap.size, 3, none⟩ (.slice ay_t T.last.length cy_t))) (by simp only [World.size_setCell]; omega) hfr (by omega)
          have hCl := Cls.of hst
          refine hK.out (Cls w) (fun _ h => h) hCl ?_
          clear hK K'
          refine wpAnyH_seg (fuel := 0) (by kernel_rfl) (fun _ d _ _ _ h => by cases d <;> exact h) hCl [9, 10] _ _ _ (by kernel_rfl) (by kernel_rfl) ?_
          simp only [opsOf_cons, opsOf_nil, consOp_some, List.getElem?_toArray, List.getElem?_cons_succ, List.getElem?_cons_zero]
          repeat (first | go_big_quiet_step (fail) | quiet_step (fail))
          refine wpQuiet_nil ?_
          refine wpAnyH_done (by kernel_rfl) ?_ _
          go_wp2
          go_meet
          exact ⟨_, _, _, _, _, _, _, rfl, rfl, rfl, F8, F9, hst⟩
        exact Each.nil
      refine Each.cons _ rfl (fun K' hK => ?_) ?_
      · go_simp
        have hs := cls_alloc hCl (.cells #[.slice none 0 0, .slice none 0 0, .slice none 0 0, .slice none 0 0] 28)
        have F7 : LK z1.heap.size (.cells #[.slice none 0 0, .slice none 0 0, .slice none 0 0, .slice none 0 0] 28) _ := cls_new hCl (.cells #[.slice none 0 0, .slice none 0 0, .slice none 0 0, .slice none 0 0] 28)
        have hlt : z1.heap.size < (z1.alloc (.cells #[.slice none 0 0, .slice none 0 0, .slice none 0 0, .slice none 0 0] 28)).heap.size := by simp
        replace F0 := F0.step hs
        have hst := below_step hCl.below hCl.below.size hs
        have lo_F7 := hCl.below.size
        obtain ⟨z9, hz⟩ : ∃ v, z1.alloc (.cells #[.slice none 0 0, .slice none 0 0, .slice none 0 0, .slice none 0 0] 28) = v := ⟨_, rfl⟩
        have hz2 : z1.alloc (.cells #[.slice none 0 0, .slice none 0 0, .slice none 0 0, .slice none 0 0] 28) = z9 := hz
        rw [hz] at ⊢
        rw [hz2] at hst hlt F0 F7
        have sz_z9 := hlt
        clear hz hz2 hs hlt
        have hCl := Cls.of hst
        refine hK.out (Cls w) (fun _ h => h) hCl ?_
        clear hK K'
        refine wpAnyH_each (fuel := 8) [1] (by kernel_rfl) (by simp) (by kernel_rfl) ?_
        refine Each.cons _ rfl (fun K' hK => ?_) Each.nil
        go_simp
        have hs := cls_alloc hCl (.cells MC 5)
        have F1 := cls_at hCl HZN.out
        have hlt : z9.heap.size < (z9.alloc (.cells MC 5)).heap.size := by simp
        replace F0 := F0.step hs
        replace F7 := F7.step hs
        have hst := below_step hCl.below hCl.below.size hs
        have lo_F1 := hCl.below.size
        obtain ⟨z10, hz⟩ : ∃ v, z9.alloc (.cells MC 5) = v := ⟨_, rfl⟩
        have hz2 : z9.alloc (.cells MC 5) = z10 := hz
        rw [hz] at ⊢
        rw [hz2] at hst hlt F0 F7 F1
        have sz_z10 := hlt
        clear hz hz2 hs hlt
        have hCl := Cls.of hst
        refine hK.out (Cls w) (fun _ h => h) hCl ?_
        clear hK K'
        refine wpAnyH_each (fuel := 7) [2] (by kernel_rfl) (by simp) (by kernel_rfl) ?_
        refine Each.cons _ rfl (fun K' hK => ?_) Each.nil
        go_simp
        refine (HC.out.1 _ _ _ _ _ _ F0.v F1.v).mono ?_
        rintro e z11 ⟨b2, u2, x2, y2, rfl, hm⟩
        have hs := hm.below
        obtain ⟨ab_t, cb_t, rfl, -, -, -, -⟩ := hm.store.v.1.1
        obtain ⟨au_t, cu_t, rfl, -, -, -, -⟩ := hm.store.v.1.2
        obtain ⟨ax_t, cx_t, rfl, -, -⟩ := hm.store.v.2.1.form rfl
        obtain ⟨ay_t, cy_t, rfl, -, -⟩ := hm.store.v.2.2.form rfl
        replace F0 := F0.step hs
        replace F7 := F7.step hs
        replace F1 := F1.step hs
        have F2 := LP.of hm
        have sz_z11 : z10.heap.size ≤ z11.heap.size := hs.size
        have hst := below_step hCl.below hCl.below.size hs
        clear hs
        have hCl := Cls.of hst
        refine hK.out (Cls w) (fun _ h => h) hCl ?_
        clear hK K'
        refine wpAnyH_seg (fuel := 3) (by kernel_rfl) (fun _ d _ _ _ h => by cases d <;> exact h) hCl [3, 4, 5, 6] _ _ _ (by kernel_rfl) (by kernel_rfl) ?_
        simp only [opsOf_cons, opsOf_nil, consOp_some, List.getElem?_toArray, List.getElem?_cons_succ, List.getElem?_cons_zero]
        repeat (first | go_big_quiet_step (fail) | quiet_step (fail))
        refine wpQuiet_nil ?_
        refine wpAnyH_each (fuel := 2) [8] (by kernel_rfl) (by simp) (by kernel_rfl) ?_
        refine Each.cons _ rfl (fun K' hK => ?_) Each.nil
        have hcb := LK.blk F7
        have r0 := LK.cell F7 0
        have r1 := LK.cell F7 1
        have r2 := LK.cell F7 2
        have r3 := LK.cell F7 3
        simp at r0 r1 r2 r3
        have s0 := LK.frozen F7 0
        have s1 := LK.frozen F7 1
        have s2 := LK.frozen F7 2
        have s3 := LK.frozen F7 3
        go_simp
        have F8 : LK (z1.heap.size) (.cells #[.slice ab_t T.disk.blocks.length cb_t, .slice au_t T.disk.waits.length cu_t, .slice ax_t T.now.length cx_t, .slice ay_t T.last.length cy_t] 28) ((((z11.setCell ⟨z1.heap.size, 0, none⟩ (.slice ab_t T.disk.blocks.length cb_t)).setCell ⟨z1.heap.size, 1, none⟩ (.slice au_t T.disk.waits.length cu_t)).setCell ⟨z1.heap.size, 2, none⟩ (.slice ax_t T.now.length cx_t)).setCell ⟨z1.heap.size, 3, none⟩ (.slice ay_t T.last.length cy_t)) := LK.of (set_block (set_block (set_block (set_block hcb 0 _) 1 _) 2 _) 3 _)
        have hst := Below.trans hCl.below (below_four z11 (.slice ab_t T.disk.blocks.length cb_t) (.slice au_t T.disk.waits.length cu_t) (.slice ax_t T.now.length cx_t) (.slice ay_t T.last.length cy_t) lo_F7)
        have hfr : ∀ x, x < z11.heap.size → (x < z1.heap.size ∨ z1.heap.size + 1 ≤ x) → ((((z11.setCell ⟨z1.heap.size, 0, none⟩ (.slice ab_t T.disk.blocks.length cb_t)).setCell ⟨z1.heap.size, 1, none⟩ (.slice au_t T.disk.waits.length cu_t)).setCell ⟨z1.heap.size, 2, none⟩ (.slice ax_t T.now.length cx_t)).setCell ⟨z1.heap.size, 3, none⟩ (.slice ay_t T.last.length cy_t)).heap[x]? = z11.heap[x]? := fun x _ h => (set_other _ _ _ _ _ (by omega)).trans ((set_other _ _ _ _ _ (by omega)).trans ((set_other _ _ _ _ _ (by omega)).trans (set_other _ _ _ _ _ (by omega))))
        have F9 := F2.o.out (V' := ((((z11.setCell ⟨z1.heap.size, 0, none⟩ (.slice ab_t T.disk.blocks.length cb_t)).setCell ⟨z1.heap.size, 1, none⟩ (.slice au_t T.disk.waits.length cu_t)).setCell ⟨z1.heap.size, 2, none⟩ (.slice ax_t T.now.length cx_t)).setCell ⟨z1.heap.size, 3, none⟩ (.slice ay_t T.last.length cy_t))) (by simp only [World.size_setCell]; omega) hfr (by omega)
        have hCl := Cls.of hst
        refine hK.out (Cls w) (fun _ h => h) hCl ?_
        clear hK K'
        refine wpAnyH_seg (fuel := 0) (by kernel_rfl) (fun _ d _ _ _ h => by cases d <;> exact h) hCl [9, 10] _ _ _ (by kernel_rfl) (by kernel_rfl) ?_
        simp only [opsOf_cons, opsOf_nil, consOp_some, List.getElem?_toArray, List.getElem?_cons_succ, List.getElem?_cons_zero]
        repeat (first | go_big_quiet_step (fail) | quiet_step (fail))
        refine wpQuiet_nil ?_
        refine wpAnyH_done (by kernel_rfl) ?_ _
        go_wp2
        go_meet
        exact ⟨_, _, _, _, _, _, _, rfl, rfl, rfl, F8, F9, hst⟩
      exact Each.nil
    refine Each.cons _ rfl (fun K' hK => ?_) ?_
    · go_simp
      have hs := cls_alloc hCl (.cells MC 5)
      have F1 := cls_at hCl HZN.out
      have hlt : w.drew.heap.size < (w.drew.alloc (.cells MC 5)).heap.size := by simp
      have hst := below_step hCl.below hCl.below.size hs
      have lo_F1 := hCl.below.size
      obtain ⟨z13, hz⟩ : ∃ v, (w.alloc (.cells MC 5)).drew = v := ⟨_, rfl⟩
      have hz2 : w.drew.alloc (.cells MC 5) = z13 := hz
      rw [hz] at ⊢
      rw [hz2] at hst hlt F1
      have sz_z13 := hlt
      clear hz hz2 hs hlt
      have hCl := Cls.of hst
      refine hK.out (Cls w) (fun _ h => h) hCl ?_
      clear hK K'
      refine wpAnyH_each (fuel := 9) [0, 7] (by kernel_rfl) (by simp) (by kernel_rfl) ?_
      refine Each.cons _ rfl (fun K' hK => ?_) ?_
      · go_simp
        refine (HC.out.2 _).mono ?_
        rintro e z14 ⟨b0, u0, x0, y0, rfl, hm⟩
        have hs := hm.below
        replace F1 := F1.step hs
        have F0 := (LP.of hm).o
        have sz_z14 : z13.heap.size ≤ z14.heap.size := hs.size
        have hst := below_step hCl.below hCl.below.size hs
        clear hs
        have hCl := Cls.of hst
        refine hK.out (Cls w) (fun _ h => h) hCl ?_
        clear hK K'
        refine wpAnyH_each (fuel := 8) [2, 7] (by kernel_rfl) (by simp) (by kernel_rfl) ?_
        refine Each.cons _ rfl (fun K' hK => ?_) ?_
        · go_simp
          refine (HC.out.1 _ _ _ _ _ _ F0.v F1.v).mono ?_
          rintro e z15 ⟨b2, u2, x2, y2, rfl, hm⟩
          have hs := hm.below
          obtain ⟨ab_t, cb_t, rfl, -, -, -, -⟩ := hm.store.v.1.1
          obtain ⟨au_t, cu_t, rfl, -, -, -, -⟩ := hm.store.v.1.2
          obtain ⟨ax_t, cx_t, rfl, -, -⟩ := hm.store.v.2.1.form rfl
          obtain ⟨ay_t, cy_t, rfl, -, -⟩ := hm.store.v.2.2.form rfl
          replace F1 := F1.step hs
          replace F0 := F0.step hs
          have F2 := LP.of hm
          have sz_z15 : z14.heap.size ≤ z15.heap.size := hs.size
          have hst := below_step hCl.below hCl.below.size hs
          clear hs
          have hCl := Cls.of hst
          refine hK.out (Cls w) (fun _ h => h) hCl ?_
          clear hK K'
          refine wpAnyH_seg (fuel := 4) (by kernel_rfl) (fun _ d _ _ _ h => by cases d <;> exact h) hCl [3, 4, 5, 6] _ _ _ (by kernel_rfl) (by kernel_rfl) ?_
          simp only [opsOf_cons, opsOf_nil, consOp_some, List.getElem?_toArray, List.getElem?_cons_succ, List.getElem?_cons_zero]
          repeat (first | go_big_quiet_step (fail) | quiet_step (fail))
          refine wpQuiet_nil ?_
          refine wpAnyH_each (fuel := 3) [7] (by kernel_rfl) (by simp) (by kernel_rfl) ?_
          refine Each.cons _ rfl (fun K' hK => ?_) Each.nil
          go_simp
          have hs := cls_alloc hCl (.cells #[.slice none 0 0, .slice none 0 0, .slice none 0 0, .slice none 0 0] 28)
          have F7 : LK z15.heap.size (.cells #[.slice none 0 0, .slice none 0 0, .slice none 0 0, .slice none 0 0] 28) _ := cls_new hCl (.cells #[.slice none 0 0, .slice none 0 0, .slice none 0 0, .slice none 0 0] 28)
          have hlt : z15.heap.size < (z15.alloc (.cells #[.slice none 0 0, .slice none 0 0, .slice none 0 0, .slice none 0 0] 28)).heap.size := by simp
          replace F1 := F1.step hs
          replace F0 := F0.step hs
          replace F2 := F2.step hs
          have hst := below_step hCl.below hCl.below.size hs
          have lo_F7 := hCl.below.size
          obtain ⟨z16, hz⟩ : ∃ v, z15.alloc (.cells #[.slice none 0 0, .slice none 0 0, .slice none 0 0, .slice none 0 0] 28) = v := ⟨_, rfl⟩
          have hz2 : z15.alloc (.cells #[.slice none 0 0, .slice none 0 0, .slice none 0 0, .slice none 0 0] 28) = z16 := hz
          rw [hz] at ⊢
          rw [hz2] at hst hlt F1 F0 F2 F7
          have sz_z16 := hlt
          clear hz hz2 hs hlt
          have hCl := Cls.of hst
          refine hK.out (Cls w) (fun _ h => h) hCl ?_
          clear hK K'
          refine wpAnyH_each (fuel := 2) [8] (by kernel_rfl) (by simp) (by kernel_rfl) ?_
          refine Each.cons _ rfl (fun K' hK => ?_) Each.nil
          have hcb := LK.blk F7
          have r0 := LK.cell F7 0
          have r1 := LK.cell F7 1
          have r2 := LK.cell F7 2
          have r3 := LK.cell F7 3
          simp at r0 r1 r2 r3
          have s0 := LK.frozen F7 0
          have s1 := LK.frozen F7 1
          have s2 := LK.frozen F7 2
          have s3 := LK.frozen F7 3
          go_simp
          have F8 : LK (z15.heap.size) (.cells #[.slice ab_t T.disk.blocks.length cb_t, .slice au_t T.disk.waits.length cu_t, .slice ax_t T.now.length cx_t, .slice ay_t T.last.length cy_t] 28) ((((z16.setCell ⟨z15.heap.size, 0, none⟩ (.slice ab_t T.disk.blocks.length cb_t)).setCell ⟨z15.heap.size, 1, none⟩ (.slice au_t T.disk.waits.length cu_t)).setCell ⟨z15.heap.size, 2, none⟩ (.slice ax_t T.now.length cx_t)).setCell ⟨z15.heap.size, 3, none⟩ (.slice ay_t T.last.length cy_t)) := LK.of (set_block (set_block (set_block (set_block hcb 0 _) 1 _) 2 _) 3 _)
          have hst := Below.trans hCl.below (below_four z16 (.slice ab_t T.disk.blocks.length cb_t) (.slice au_t T.disk.waits.length cu_t) (.slice ax_t T.now.length cx_t) (.slice ay_t T.last.length cy_t) lo_F7)
          have hfr : ∀ x, x < z16.heap.size → (x < z15.heap.size ∨ z15.heap.size + 1 ≤ x) → ((((z16.setCell ⟨z15.heap.size, 0, none⟩ (.slice ab_t T.disk.blocks.length cb_t)).setCell ⟨z15.heap.size, 1, none⟩ (.slice au_t T.disk.waits.length cu_t)).setCell ⟨z15.heap.size, 2, none⟩ (.slice ax_t T.now.length cx_t)).setCell ⟨z15.heap.size, 3, none⟩ (.slice ay_t T.last.length cy_t)).heap[x]? = z16.heap[x]? := fun x _ h => (set_other _ _ _ _ _ (by omega)).trans ((set_other _ _ _ _ _ (by omega)).trans ((set_other _ _ _ _ _ (by omega)).trans (set_other _ _ _ _ _ (by omega))))
          have F9 := F2.o.out (V' := ((((z16.setCell ⟨z15.heap.size, 0, none⟩ (.slice ab_t T.disk.blocks.length cb_t)).setCell ⟨z15.heap.size, 1, none⟩ (.slice au_t T.disk.waits.length cu_t)).setCell ⟨z15.heap.size, 2, none⟩ (.slice ax_t T.now.length cx_t)).setCell ⟨z15.heap.size, 3, none⟩ (.slice ay_t T.last.length cy_t))) (by simp only [World.size_setCell]; omega) hfr (by omega)
          have hCl := Cls.of hst
          refine hK.out (Cls w) (fun _ h => h) hCl ?_
          clear hK K'
          refine wpAnyH_seg (fuel := 0) (by kernel_rfl) (fun _ d _ _ _ h => by cases d <;> exact h) hCl [9, 10] _ _ _ (by kernel_rfl) (by kernel_rfl) ?_
          simp only [opsOf_cons, opsOf_nil, consOp_some, List.getElem?_toArray, List.getElem?_cons_succ, List.getElem?_cons_zero]
          repeat (first | go_big_quiet_step (fail) | quiet_step (fail))
          refine wpQuiet_nil ?_
          refine wpAnyH_done (by kernel_rfl) ?_ _
          go_wp2
          go_meet
          exact ⟨_, _, _, _, _, _, _, rfl, rfl, rfl, F8, F9, hst⟩
        refine Each.cons _ rfl (fun K' hK => ?_) ?_
        · go_simp
          have hs := cls_alloc hCl (.cells #[.slice none 0 0, .slice none 0 0, .slice none 0 0, .slice none 0 0] 28)
          have F7 : LK z14.heap.size (.cells #[.slice none 0 0, .slice none 0 0, .slice none 0 0, .slice none 0 0] 28) _ := cls_new hCl (.cells #[.slice none 0 0, .slice none 0 0, .slice none 0 0, .slice none 0 0] 28)
          have hlt : z14.heap.size < (z14.alloc (.cells #[.slice none 0 0, .slice none 0 0, .slice none 0 0, .slice none 0 0] 28)).heap.size := by simp
          replace F1 := F1.step hs
          replace F0 := F0.step hs
          have hst := below_step hCl.below hCl.below.size hs
          have lo_F7 := hCl.below.size
          obtain ⟨z18, hz⟩ : ∃ v, z14.alloc (.cells #[.slice none 0 0, .slice none 0 0, .slice none 0 0, .slice none 0 0] 28) = v := ⟨_, rfl⟩
          have hz2 : z14.alloc (.cells #[.slice none 0 0, .slice none 0 0, .slice none 0 0, .slice none 0 0] 28) = z18 := hz
          rw [hz] at ⊢
          rw [hz2] at hst hlt F1 F0 F7
          have sz_z18 := hlt
          clear hz hz2 hs hlt
          have hCl := Cls.of hst
          refine hK.out (Cls w) (fun _ h => h) hCl ?_
          clear hK K'
          refine wpAnyH_each (fuel := 7) [2] (by kernel_rfl) (by simp) (by kernel_rfl) ?_
          refine Each.cons _ rfl (fun K' hK => ?_) Each.nil
          go_simp
          refine (HC.out.1 _ _ _ _ _ _ F0.v F1.v).mono ?_
          rintro e z19 ⟨b2, u2, x2, y2, rfl, hm⟩
          have hs := hm.below
          obtain ⟨ab_t, cb_t, rfl, -, -, -, -⟩ := hm.store.v.1.1
          obtain ⟨au_t, cu_t, rfl, -, -, -, -⟩ := hm.store.v.1.2
          obtain ⟨ax_t, cx_t, rfl, -, -⟩ := hm.store.v.2.1.form rfl
          obtain ⟨ay_t, cy_t, rfl, -, -⟩ := hm.store.v.2.2.form rfl
          replace F1 := F1.step hs
          replace F0 := F0.step hs
          replace F7 := F7.step hs
          have F2 := LP.of hm
          have sz_z19 : z18.heap.size ≤ z19.heap.size := hs.size
          have hst := below_step hCl.below hCl.below.size hs
          clear hs
          have hCl := Cls.of hst
          refine hK.out (Cls w) (fun _ h => h) hCl ?_
          clear hK K'
          refine wpAnyH_seg (fuel := 3) (by kernel_rfl) (fun _ d _ _ _ h => by cases d <;> exact h) hCl [3, 4, 5, 6] _ _ _ (by kernel_rfl) (by kernel_rfl) ?_
          simp only [opsOf_cons, opsOf_nil, consOp_some, List.getElem?_toArray, List.getElem?_cons_succ, List.getElem?_cons_zero]
          repeat (first | go_big_quiet_step (fail) | quiet_step (fail))
          refine wpQuiet_nil ?_
          refine wpAnyH_each (fuel := 2) [8] (by kernel_rfl) (by simp) (by kernel_rfl) ?_
          refine Each.cons _ rfl (fun K' hK => ?_) Each.nil
          have hcb := LK.blk F7
          have r0 := LK.cell F7 0
          have r1 := LK.cell F7 1
          have r2 := LK.cell F7 2
          have r3 := LK.cell F7 3
          simp at r0 r1 r2 r3
          have s0 := LK.frozen F7 0
          have s1 := LK.frozen F7 1
          have s2 := LK.frozen F7 2
          have s3 := LK.frozen F7 3
          go_simp
          have F8 : LK (z14.heap.size) (.cells #[.slice ab_t T.disk.blocks.length cb_t, .slice au_t T.disk.waits.length cu_t, .slice ax_t T.now.length cx_t, .slice ay_t T.last.length cy_t] 28) ((((z19.setCell ⟨z14.heap.size, 0, none⟩ (.slice ab_t T.disk.blocks.length cb_t)).setCell ⟨z14.heap.size, 1, none⟩ (.slice au_t T.disk.waits.length cu_t)).setCell ⟨z14.heap.size, 2, none⟩ (.slice ax_t T.now.length cx_t)).setCell ⟨z14.heap.size, 3, none⟩ (.slice ay_t T.last.length cy_t)) := LK.of (set_block (set_block (set_block (set_block hcb 0 _) 1 _) 2 _) 3 _)
          have hst := Below.trans hCl.below (below_four z19 (.slice ab_t T.disk.blocks.length cb_t) (.slice au_t T.disk.waits.length cu_t) (.slice ax_t T.now.length cx_t) (.slice ay_t T.last.length cy_t) lo_F7)
          have hfr : ∀ x, x < z19.heap.size → (x < z14.heap.size ∨ z14.heap.size + 1 ≤ x) → ((((z19.setCell ⟨z14.heap.size, 0, none⟩ (.slice ab_t T.disk.blocks.length cb_t)).setCell ⟨z14.heap.size, 1, none⟩ (.slice au_t T.disk.waits.length cu_t)).setCell ⟨z14.heap.size, 2, none⟩ (.slice ax_t T.now.length cx_t)).setCell ⟨z14.heap.size, 3, none⟩ (.slice ay_t T.last.length cy_t)).heap[x]? = z19.heap[x]? := fun x _ h => (set_other _ _ _ _ _ (by omega)).trans ((set_other _ _ _ _ _ (by omega)).trans ((set_other _ _ _ _ _ (by omega)).trans (set_other _ _ _ _ _ (by omega))))
          have F9 := F2.o.out (V' := ((((z19.setCell ⟨z14.heap.size, 0, none⟩ (.slice ab_t T.disk.blocks.length cb_t)).setCell ⟨z14.heap.size, 1, none⟩ (.slice au_t T.disk.waits.length cu_t)).setCell ⟨z14.heap.size, 2, none⟩ (.slice ax_t T.now.length cx_t)).setCell ⟨z14.heap.size, 3, none⟩ (.slice ay_t T.last.length cy_t))) (by simp only [World.size_setCell]; omega) hfr (by omega)
          have hCl := Cls.of hst
          refine hK.out (Cls w) (fun _ h => h) hCl ?_
          clear hK K'
          refine wpAnyH_seg (fuel := 0) (by kernel_rfl) (fun _ d _ _ _ h => by cases d <;> exact h) hCl [9, 10] _ _ _ (by kernel_rfl) (by kernel_rfl) ?_
          simp only [opsOf_cons, opsOf_nil, consOp_some, List.getElem?_toArray, List.getElem?_cons_succ, List.getElem?_cons_zero]
          repeat (first | go_big_quiet_step (fail) | quiet_step (fail))
          refine wpQuiet_nil ?_
          refine wpAnyH_done (by kernel_rfl) ?_ _
          go_wp2
          go_meet
          exact ⟨_, _, _, _, _, _, _, rfl, rfl, rfl, F8, F9, hst⟩
        exact Each.nil
      refine Each.cons _ rfl (fun K' hK => ?_) ?_
      · go_simp
        have hs := cls_alloc hCl (.cells #[.slice none 0 0, .slice none 0 0, .slice none 0 0, .slice none 0 0] 28)
        have F7 : LK z13.heap.size (.cells #[.slice none 0 0, .slice none 0 0, .slice none 0 0, .slice none 0 0] 28) _ := cls_new hCl (.cells #[.slice none 0 0, .slice none 0 0, .slice none 0 0, .slice none 0 0] 28)
        have hlt : z13.heap.size < (z13.alloc (.cells #[.slice none 0 0, .slice none 0 0, .slice none 0 0, .slice none 0 0] 28)).heap.size := by simp
        replace F1 := F1.step hs
        have hst := below_step hCl.below hCl.below.size hs
        have lo_F7 := hCl.below.size
        obtain ⟨z21, hz⟩ : ∃ v, z13.alloc (.cells #[.slice none 0 0, .slice none 0 0, .slice none 0 0, .slice none 0 0] 28) = v := ⟨_, rfl⟩
        have hz2 : z13.alloc (.cells #[.slice none 0 0, .slice none 0 0, .slice none 0 0, .slice none 0 0] 28) = z21 := hz
        rw [hz] at ⊢
        rw [hz2] at hst hlt F1 F7
        have sz_z21 := hlt
        clear hz hz2 hs hlt
        have hCl := Cls.of hst
        refine hK.out (Cls w) (fun _ h => h) hCl ?_
        clear hK K'
        refine wpAnyH_each (fuel := 8) [0] (by kernel_rfl) (by simp) (by kernel_rfl) ?_
        refine Each.cons _ rfl (fun K' hK => ?_) Each.nil
        go_simp
        refine (HC.out.2 _).mono ?_
        rintro e z22 ⟨b0, u0, x0, y0, rfl, hm⟩
        have hs := hm.below
        replace F1 := F1.step hs
        replace F7 := F7.step hs
        have F0 := (LP.of hm).o
        have sz_z22 : z21.heap.size ≤ z22.heap.size := hs.size
        have hst := below_step hCl.below hCl.below.size hs
        clear hs
        have hCl := Cls.of hst
        refine hK.out (Cls w) (fun _ h => h) hCl ?_
        clear hK K'
        refine wpAnyH_each (fuel := 7) [2] (by kernel_rfl) (by simp) (by kernel_rfl) ?_
        refine Each.cons _ rfl (fun K' hK => ?_) Each.nil
        go_simp
        refine (HC.out.1 _ _ _ _ _ _ F0.v F1.v).mono ?_
        rintro e z23 ⟨b2, u2, x2, y2, rfl, hm⟩
        have hs := hm.below
        obtain ⟨ab_t, cb_t, rfl, -, -, -, -⟩ := hm.store.v.1.1
        obtain ⟨au_t, cu_t, rfl, -, -, -, -⟩ := hm.store.v.1.2
        obtain ⟨ax_t, cx_t, rfl, -, -⟩ := hm.store.v.2.1.form rfl
        obtain ⟨ay_t, cy_t, rfl, -, -⟩ := hm.store.v.2.2.form rfl
        replace F1 := F1.step hs
        replace F7 := F7.step hs
        replace F0 := F0.step hs
        have F2 := LP.of hm
        have sz_z23 : z22.heap.size ≤ z23.heap.size := hs.size
        have hst := below_step hCl.below hCl.below.size hs
        clear hs
        have hCl := Cls.of hst
        refine hK.out (Cls w) (fun _ h => h) hCl ?_
        clear hK K'
        refine wpAnyH_seg (fuel := 3) (by kernel_rfl) (fun _ d _ _ _ h => by cases d <;> exact h) hCl [3, 4, 5, 6] _ _ _ (by kernel_rfl) (by kernel_rfl) ?_
        simp only [opsOf_cons, opsOf_nil, consOp_some, List.getElem?_toArray, List.getElem?_cons_succ, List.getElem?_cons_zero]
        repeat (first | go_big_quiet_step (fail) | quiet_step (fail))
        refine wpQuiet_nil ?_
        refine wpAnyH_each (fuel := 2) [8] (by kernel_rfl) (by simp) (by kernel_rfl) ?_
        refine Each.cons _ rfl (fun K' hK => ?_) Each.nil
        have hcb := LK.blk F7
        have r0 := LK.cell F7 0
        have r1 := LK.cell F7 1
        have r2 := LK.cell F7 2
        have r3 := LK.cell F7 3
        simp at r0 r1 r2 r3
        have s0 := LK.frozen F7 0
        have s1 := LK.frozen F7 1
        have s2 := LK.frozen F7 2
        have s3 := LK.frozen F7 3
        go_simp
        have F8 : LK (z13.heap.size) (.cells #[.slice ab_t T.disk.blocks.length cb_t, .slice au_t T.disk.waits.length cu_t, .slice ax_t T.now.length cx_t, .slice ay_t T.last.length cy_t] 28) ((((z23.setCell ⟨z13.heap.size, 0, none⟩ (.slice ab_t T.disk.blocks.length cb_t)).setCell ⟨z13.heap.size, 1, none⟩ (.slice au_t T.disk.waits.length cu_t)).setCell ⟨z13.heap.size, 2, none⟩ (.slice ax_t T.now.length cx_t)).setCell ⟨z13.heap.size, 3, none⟩ (.slice ay_t T.last.length cy_t)) := LK.of (set_block (set_block (set_block (set_block hcb 0 _) 1 _) 2 _) 3 _)
        have hst := Below.trans hCl.below (below_four z23 (.slice ab_t T.disk.blocks.length cb_t) (.slice au_t T.disk.waits.length cu_t) (.slice ax_t T.now.length cx_t) (.slice ay_t T.last.length cy_t) lo_F7)
        have hfr : ∀ x, x < z23.heap.size → (x < z13.heap.size ∨ z13.heap.size + 1 ≤ x) → ((((z23.setCell ⟨z13.heap.size, 0, none⟩ (.slice ab_t T.disk.blocks.length cb_t)).setCell ⟨z13.heap.size, 1, none⟩ (.slice au_t T.disk.waits.length cu_t)).setCell ⟨z13.heap.size, 2, none⟩ (.slice ax_t T.now.length cx_t)).setCell ⟨z13.heap.size, 3, none⟩ (.slice ay_t T.last.length cy_t)).heap[x]? = z23.heap[x]? := fun x _ h => (set_other _ _ _ _ _ (by omega)).trans ((set_other _ _ _ _ _ (by omega)).trans ((set_other _ _ _ _ _ (by omega)).trans (set_other _ _ _ _ _ (by omega))))
        have F9 := F2.o.out (V' := ((((z23.setCell ⟨z13.heap.size, 0, none⟩ (.slice ab_t T.disk.blocks.length cb_t)).setCell ⟨z13.heap.size, 1, none⟩ (.slice au_t T.disk.waits.length cu_t)).setCell ⟨z13.heap.size, 2, none⟩ (.slice ax_t T.now.length cx_t)).setCell ⟨z13.heap.size, 3, none⟩ (.slice ay_t T.last.length cy_t))) (by simp only [World.size_setCell]; omega) hfr (by omega)
        have hCl := Cls.of hst
        refine hK.out (Cls w) (fun _ h => h) hCl ?_
        clear hK K'
        refine wpAnyH_seg (fuel := 0) (by kernel_rfl) (fun _ d _ _ _ h => by cases d <;> exact h) hCl [9, 10] _ _ _ (by kernel_rfl) (by kernel_rfl) ?_
        simp only [opsOf_cons, opsOf_nil, consOp_some, List.getElem?_toArray, List.getElem?_cons_succ, List.getElem?_cons_zero]
        repeat (first | go_big_quiet_step (fail) | quiet_step (fail))
        refine wpQuiet_nil ?_
        refine wpAnyH_done (by kernel_rfl) ?_ _
        go_wp2
        go_meet
        exact ⟨_, _, _, _, _, _, _, rfl, rfl, rfl, F8, F9, hst⟩
      exact Each.nil
    refine Each.cons _ rfl (fun K' hK => ?_) ?_
    · go_simp
      have hs := cls_alloc hCl (.cells #[.slice none 0 0, .slice none 0 0, .slice none 0 0, .slice none 0 0] 28)
      have F7 : LK w.heap.size (.cells #[.slice none 0 0, .slice none 0 0, .slice none 0 0, .slice none 0 0] 28) _ := cls_new hCl (.cells #[.slice none 0 0, .slice none 0 0, .slice none 0 0, .slice none 0 0] 28)
      have hlt : w.drew.heap.size < (w.drew.alloc (.cells #[.slice none 0 0, .slice none 0 0, .slice none 0 0, .slice none 0 0] 28)).heap.size := by simp
      have hst := below_step hCl.below hCl.below.size hs
      have lo_F7 := hCl.below.size
      obtain ⟨z25, hz⟩ : ∃ v, (w.alloc (.cells #[.slice none 0 0, .slice none 0 0, .slice none 0 0, .slice none 0 0] 28)).drew = v := ⟨_, rfl⟩
      have hz2 : w.drew.alloc (.cells #[.slice none 0 0, .slice none 0 0, .slice none 0 0, .slice none 0 0] 28) = z25 := hz
      rw [hz] at ⊢
      rw [hz2] at hst hlt F7
      have sz_z25 := hlt
      clear hz hz2 hs hlt
      have hCl := Cls.of hst
      refine hK.out (Cls w) (fun _ h => h) hCl ?_
      clear hK K'
      refine wpAnyH_each (fuel := 9) [0, 1] (by kernel_rfl) (by simp) (by kernel_rfl) ?_
      refine Each.cons _ rfl (fun K' hK => ?_) ?_
      · go_simp
        refine (HC.out.2 _).mono ?_
        rintro e z26 ⟨b0, u0, x0, y0, rfl, hm⟩
        have hs := hm.below
        replace F7 := F7.step hs
        have F0 := (LP.of hm).o
        have sz_z26 : z25.heap.size ≤ z26.heap.size := hs.size
        have hst := below_step hCl.below hCl.below.size hs
        clear hs
        have hCl := Cls.of hst
        refine hK.out (Cls w) (fun _ h => h) hCl ?_
        clear hK K'
        refine wpAnyH_each (fuel := 8) [1] (by kernel_rfl) (by simp) (by kernel_rfl) ?_
        refine Each.cons _ rfl (fun K' hK => ?_) Each.nil
        go_simp
        have hs := cls_alloc hCl (.cells MC 5)
        have F1 := cls_at hCl HZN.out
        have hlt : z26.heap.size < (z26.alloc (.cells MC 5)).heap.size := by simp
        replace F7 := F7.step hs
        replace F0 := F0.step hs
        have hst := below_step hCl.below hCl.below.size hs
        have lo_F1 := hCl.below.size
        obtain ⟨z27, hz⟩ : ∃ v, z26.alloc (.cells MC 5) = v := ⟨_, rfl⟩
        have hz2 : z26.alloc (.cells MC 5) = z27 := hz
        rw [hz] at ⊢
        rw [hz2] at hst hlt F7 F0 F1
        have sz_z27 := hlt
        clear hz hz2 hs hlt
        have hCl := Cls.of hst
        refine hK.out (Cls w) (fun _ h => h) hCl ?_
        clear hK K'
        refine wpAnyH_each (fuel := 7) [2] (by kernel_rfl) (by simp) (by kernel_rfl) ?_
        refine Each.cons _ rfl (fun K' hK => ?_) Each.nil
        go_simp
        refine (HC.out.1 _ _ _ _ _ _ F0.v F1.v).mono ?_
        rintro e z28 ⟨b2, u2, x2, y2, rfl, hm⟩
        have hs := hm.below
        obtain ⟨ab_t, cb_t, rfl, -, -, -, -⟩ := hm.store.v.1.1
        obtain ⟨au_t, cu_t, rfl, -, -, -, -⟩ := hm.store.v.1.2
        obtain ⟨ax_t, cx_t, rfl, -, -⟩ := hm.store.v.2.1.form rfl
        obtain ⟨ay_t, cy_t, rfl, -, -⟩ := hm.store.v.2.2.form rfl
        replace F7 := F7.step hs
        replace F0 := F0.step hs
        replace F1 := F1.step hs
        have F2 := LP.of hm
        have sz_z28 : z27.heap.size ≤ z28.heap.size := hs.size
        have hst := below_step hCl.below hCl.below.size hs
        clear hs
        have hCl := Cls.of hst
        refine hK.out (Cls w) (fun _ h => h) hCl ?_
        clear hK K'
        refine wpAnyH_seg (fuel := 3) (by kernel_rfl) (fun _ d _ _ _ h => by cases d <;> exact h) hCl [3, 4, 5, 6] _ _ _ (by kernel_rfl) (by kernel_rfl) ?_
        simp only [opsOf_cons, opsOf_nil, consOp_some, List.getElem?_toArray, List.getElem?_cons_succ, List.getElem?_cons_zero]
        repeat (first | go_big_quiet_step (fail) | quiet_step (fail))
        refine wpQuiet_nil ?_
        refine wpAnyH_each (fuel := 2) [8] (by kernel_rfl) (by simp) (by kernel_rfl) ?_
        refine Each.cons _ rfl (fun K' hK => ?_) Each.nil
        have hcb := LK.blk F7
        have r0 := LK.cell F7 0
        have r1 := LK.cell F7 1
        have r2 := LK.cell F7 2
        have r3 := LK.cell F7 3
        simp at r0 r1 r2 r3
        have s0 := LK.frozen F7 0
        have s1 := LK.frozen F7 1
        have s2 := LK.frozen F7 2
        have s3 := LK.frozen F7 3
        go_simp
        have F8 : LK (w.heap.size) (.cells #[.slice ab_t T.disk.blocks.length cb_t, .slice au_t T.disk.waits.length cu_t, .slice ax_t T.now.length cx_t, .slice ay_t T.last.length cy_t] 28) ((((z28.setCell ⟨w.heap.size, 0, none⟩ (.slice ab_t T.disk.blocks.length cb_t)).setCell ⟨w.heap.size, 1, none⟩ (.slice au_t T.disk.waits.length cu_t)).setCell ⟨w.heap.size, 2, none⟩ (.slice ax_t T.now.length cx_t)).setCell ⟨w.heap.size, 3, none⟩ (.slice ay_t T.last.length cy_t)) := LK.of (set_block (set_block (set_block (set_block hcb 0 _) 1 _) 2 _) 3 _)
        have hst := Below.trans hCl.below (below_four z28 (.slice ab_t T.disk.blocks.length cb_t) (.slice au_t T.disk.waits.length cu_t) (.slice ax_t T.now.length cx_t) (.slice ay_t T.last.length cy_t) lo_F7)
        have hfr : ∀ x, x < z28.heap.size → (x < w.heap.size ∨ w.heap.size + 1 ≤ x) → ((((z28.setCell ⟨w.heap.size, 0, none⟩ (.slice ab_t T.disk.blocks.length cb_t)).setCell ⟨w.heap.size, 1, none⟩ (.slice au_t T.disk.waits.length cu_t)).setCell ⟨w.heap.size, 2, none⟩ (.slice ax_t T.now.length cx_t)).setCell ⟨w.heap.size, 3, none⟩ (.slice ay_t T.last.length cy_t)).heap[x]? = z28.heap[x]? := fun x _ h => (set_other _ _ _ _ _ (by omega)).trans ((set_other _ _ _ _ _ (by omega)).trans ((set_other _ _ _ _ _ (by omega)).trans (set_other _ _ _ _ _ (by omega))))
        have F9 := F2.o.out (V' := ((((z28.setCell ⟨w.heap.size, 0, none⟩ (.slice ab_t T.disk.blocks.length cb_t)).setCell ⟨w.heap.size, 1, none⟩ (.slice au_t T.disk.waits.length cu_t)).setCell ⟨w.heap.size, 2, none⟩ (.slice ax_t T.now.length cx_t)).setCell ⟨w.heap.size, 3, none⟩ (.slice ay_t T.last.length cy_t))) (by simp only [World.size_setCell]; omega) hfr (by omega)
        have hCl := Cls.of hst
        refine hK.out (Cls w) (fun _ h => h) hCl ?_
        clear hK K'
        refine wpAnyH_seg (fuel := 0) (by kernel_rfl) (fun _ d _ _ _ h => by cases d <;> exact h) hCl [9, 10] _ _ _ (by kernel_rfl) (by kernel_rfl) ?_
        simp only [opsOf_cons, opsOf_nil, consOp_some, List.getElem?_toArray, List.getElem?_cons_succ, List.getElem?_cons_zero]
        repeat (first | go_big_quiet_step (fail) | quiet_step (fail))
        refine wpQuiet_nil ?_
        refine wpAnyH_done (by kernel_rfl) ?_ _
        go_wp2
        go_meet
        exact ⟨_, _, _, _, _, _, _, rfl, rfl, rfl, F8, F9, hst⟩
      refine Each.cons _ rfl (fun K' hK => ?_) ?_
      · go_simp
        have hs := cls_alloc hCl (.cells MC 5)
        have F1 := cls_at hCl HZN.out
        have hlt : z25.heap.size < (z25.alloc (.cells MC 5)).heap.size := by simp
        replace F7 := F7.step hs
        have hst := below_step hCl.below hCl.below.size hs
        have lo_F1 := hCl.below.size
        obtain ⟨z30, hz⟩ : ∃ v, z25.alloc (.cells MC 5) = v := ⟨_, rfl⟩
        have hz2 : z25.alloc (.cells MC 5) = z30 := hz
        rw [hz] at ⊢
        rw [hz2] at hst hlt F7 F1
        have sz_z30 := hlt
        clear hz hz2 hs hlt
        have hCl := Cls.of hst
        refine hK.out (Cls w) (fun _ h => h) hCl ?_
        clear hK K'
        refine wpAnyH_each (fuel := 8) [0] (by kernel_rfl) (by simp) (by kernel_rfl) ?_
        refine Each.cons _ rfl (fun K' hK => ?_) Each.nil
        go_simp
        refine (HC.out.2 _).mono ?_
        rintro e z31 ⟨b0, u0, x0, y0, rfl, hm⟩
        have hs := hm.below
        replace F7 := F7.step hs
        replace F1 := F1.step hs
        have F0 := (LP.of hm).o
        have sz_z31 : z30.heap.size ≤ z31.heap.size := hs.size
        have hst := below_step hCl.below hCl.below.size hs
        clear hs
        have hCl := Cls.of hst
        refine hK.out (Cls w) (fun _ h => h) hCl ?_
        clear hK K'
        refine wpAnyH_each (fuel := 7) [2] (by kernel_rfl) (by simp) (by kernel_rfl) ?_
        refine Each.cons _ rfl (fun K' hK => ?_) Each.nil
        go_simp
        refine (HC.out.1 _ _ _ _ _ _ F0.v F1.v).mono ?_
        rintro e z32 ⟨b2, u2, x2, y2, rfl, hm⟩
        have hs := hm.below
        obtain ⟨ab_t, cb_t, rfl, -, -, -, -⟩ := hm.store.v.1.1
        obtain ⟨au_t, cu_t, rfl, -, -, -, -⟩ := hm.store.v.1.2
        obtain ⟨ax_t, cx_t, rfl, -, -⟩ := hm.store.v.2.1.form rfl
        obtain ⟨ay_t, cy_t, rfl, -, -⟩ := hm.store.v.2.2.form rfl
        replace F7 := F7.step hs
        replace F1 := F1.step hs
        replace F0 := F0.step hs
        have F2 := LP.of hm
        have sz_z32 : z31.heap.size ≤ z32.heap.size := hs.size
        have hst := below_step hCl.below hCl.below.size hs
        clear hs
        have hCl := Cls.of hst
        refine hK.out (Cls w) (fun _ h => h) hCl ?_
        clear hK K'
        refine wpAnyH_seg (fuel := 3) (by kernel_rfl) (fun _ d _ _ _ h => by cases d <;> exact h) hCl [3, 4, 5, 6] _ _ _ (by kernel_rfl) (by kernel_rfl) ?_
        simp only [opsOf_cons, opsOf_nil, consOp_some, List.getElem?_toArray, List.getElem?_cons_succ, List.getElem?_cons_zero]
        repeat (first | go_big_quiet_step (fail) | quiet_step (fail))
        refine wpQuiet_nil ?_
        refine wpAnyH_each (fuel := 2) [8] (by kernel_rfl) (by simp) (by kernel_rfl) ?_
        refine Each.cons _ rfl (fun K' hK => ?_) Each.nil
        have hcb := LK.blk F7
        have r0 := LK.cell F7 0
        have r1 := LK.cell F7 1
        have r2 := LK.cell F7 2
        have r3 := LK.cell F7 3
        simp at r0 r1 r2 r3
        have s0 := LK.frozen F7 0
        have s1 := LK.frozen F7 1
        have s2 := LK.frozen F7 2
        have s3 := LK.frozen F7 3
        go_simp
        have F8 : LK (w.heap.size) (.cells #[.slice ab_t T.disk.blocks.length cb_t, .slice au_t T.disk.waits.length cu_t, .slice ax_t T.now.length cx_t, .slice ay_t T.last.length cy_t] 28) ((((z32.setCell ⟨w.heap.size, 0, none⟩ (.slice ab_t T.disk.blocks.length cb_t)).setCell ⟨w.heap.size, 1, none⟩ (.slice au_t T.disk.waits.length cu_t)).setCell ⟨w.heap.size, 2, none⟩ (.slice ax_t T.now.length cx_t)).setCell ⟨w.heap.size, 3, none⟩ (.slice ay_t T.last.length cy_t)) := LK.of (set_block (set_block (set_block (set_block hcb 0 _) 1 _) 2 _) 3 _)
        have hst := Below.trans hCl.below (below_four z32 (.slice ab_t T.disk.blocks.length cb_t) (.slice au_t T.disk.waits.length cu_t) (.slice ax_t T.now.length cx_t) (.slice ay_t T.last.length cy_t) lo_F7)
        have hfr : ∀ x, x < z32.heap.size → (x < w.heap.size ∨ w.heap.size + 1 ≤ x) → ((((z32.setCell ⟨w.heap.size, 0, none⟩ (.slice ab_t T.disk.blocks.length cb_t)).setCell ⟨w.heap.size, 1, none⟩ (.slice au_t T.disk.waits.length cu_t)).setCell ⟨w.heap.size, 2, none⟩ (.slice ax_t T.now.length cx_t)).setCell ⟨w.heap.size, 3, none⟩ (.slice ay_t T.last.length cy_t)).heap[x]? = z32.heap[x]? := fun x _ h => (set_other _ _ _ _ _ (by omega)).trans ((set_other _ _ _ _ _ (by omega)).trans ((set_other _ _ _ _ _ (by omega)).trans (set_other _ _ _ _ _ (by omega))))
        have F9 := F2.o.out (V' := ((((z32.setCell ⟨w.heap.size, 0, none⟩ (.slice ab_t T.disk.blocks.length cb_t)).setCell ⟨w.heap.size, 1, none⟩ (.slice au_t T.disk.waits.length cu_t)).setCell ⟨w.heap.size, 2, none⟩ (.slice ax_t T.now.length cx_t)).setCell ⟨w.heap.size, 3, none⟩ (.slice ay_t T.last.length cy_t))) (by simp only [World.size_setCell]; omega) hfr (by omega)
        have hCl := Cls.of hst
        refine hK.out (Cls w) (fun _ h => h) hCl ?_
        clear hK K'
        refine wpAnyH_seg (fuel := 0) (by kernel_rfl) (fun _ d _ _ _ h => by cases d <;> exact h) hCl [9, 10] _ _ _ (by kernel_rfl) (by kernel_rfl) ?_
        simp only [opsOf_cons, opsOf_nil, consOp_some, List.getElem?_toArray, List.getElem?_cons_succ, List.getElem?_cons_zero]
        repeat (first | go_big_quiet_step (fail) | quiet_step (fail))
        refine wpQuiet_nil ?_
        refine wpAnyH_done (by kernel_rfl) ?_ _
        go_wp2
        go_meet
        exact ⟨_, _, _, _, _, _, _, rfl, rfl, rfl, F8, F9, hst⟩
      exact Each.nil
    exact Each.nil
  case rest =>
  obtain ⟨g, lo, hi, b, u, x, y, rfl, rfl, rfl, F8, F9, hB⟩ := hcut
  obtain ⟨xb, xo, xc, rfl, -, -, x1, x2, hx⟩ := F9.n.at_n HT.out.1 (by omega)
  have h8 := hx 8 1 HT.out.2
  unfold maxLen at x2
  have e1 : bV 1 = .int .u8 1 := rfl
  rw [e1] at h8
  have c2 := LK.cell F8 2
  simp at c2
  clear hx e1
  go_wp2
  go_ret
  exact ⟨rfl, hB⟩

end Go.Proofs.Ytbddbadmfhplmaa

