/- RoomNames: the words and contracts, part 15. -/
import Derived.Test.YtbddbadmfhplmaaRoomNamesQ1
import Derived.Test.YtbddbadmfhplmaaRoomNamesQ2
import Derived.Test.YtbddbadmfhplmaaRoomNamesQ3
import Derived.Test.YtbddbadmfhplmaaRoomNamesQ4
import Derived.Test.YtbddbadmfhplmaaRoomNamesQ5
import Derived.Test.YtbddbadmfhplmaaRoomNamesQ6
import Derived.Test.YtbddbadmfhplmaaRoomNamesQ7
import Derived.Test.YtbddbadmfhplmaaRoomNamesQ8
import Derived.Test.YtbddbadmfhplmaaRoomNamesQ9
import Derived.Test.YtbddbadmfhplmaaRoomNamesQ10
import Derived.Test.YtbddbadmfhplmaaRoomNamesQ11
import Derived.Test.YtbddbadmfhplmaaRoomNamesQ12
import Derived.Test.YtbddbadmfhplmaaRoomNamesQ13
import Derived.Test.YtbddbadmfhplmaaRoomNamesQ14
import Derived.WalkKit
import Derived.WalkLawsBesides
import Derived.WalkSpells
import Derived.Lib.Hide
import Derived.Laws.Rows
import Derived.Laws.AppendOwnNone
import Derived.Maps.AppendAt
import Derived.ProofKit
import Derived.Deep.Slices
import Derived.WideShapes
import Derived.RangeFuncNested
import Derived.RangeFuncBound
import Derived.RangeFuncCalls
import Derived.RangeFuncLeaves
import Derived.RangeFuncBox
import Derived.Shelf.Abstract
import Derived.Shelf.RegionOpen
import Derived.OwnWalkIn
import Derived.TacticsInMore
import Derived.LoopNIn
import Derived.LoopIn
import Derived.Lib.AppendZerosOnto
import Derived.Lib.SliceRun
import Derived.Lib.Walk
import Derived.Deep.LoopGhost
import Derived.Laws.CopyOwn
import Derived.Laws.CopyRow
import Derived.OrdersHeld
import Derived.Deep.QuietTactic
import Derived.BigQuiet
import Derived.StillTailTactics
import Derived.OpenShut
import Derived.Deep.DeepCutAuto
import Derived.Laws.MakeOwn
import Derived.Deep.RegionHeld
import Derived.KernelRfl
import Derived.BigFrameIn
import Derived.OrdersIn
namespace Go.Proofs.Ytbddbadmfhplmaa
open Go.RowKit

theorem names8 : errS newS = 0 ∧ (freeL newS).length = 248 ∧ (freeL newS)[0]? = some 8 ∧ errS (takeS newS zs8) = 0 ∧ (freeL (takeS newS zs8)).length = 247 ∧ (freeL (takeS newS zs8))[0]? = some 9 ∧ errSh newS 8 = 6 ∧ errAs newS 8 = 6 ∧ errSh newS 7 = 2 ∧ errTk newS [] = 3 := by decide +kernel

set_option maxRecDepth 100000 in
set_option maxHeartbeats 1000000 in
theorem snode_no (b_s u_s x_s y_s : Value) (s : StoreL) (p : Int) (w : World) (h_s : StoreV w 0 w.heap.size b_s u_s x_s y_s s) (hne : errAs s p ≠ 0) :
    Calls Try.prog 25 #[.agg #[b_s, u_s, x_s, y_s], .int .i64 p] w fun e w' => e = .returned (.tuple #[.agg #[.int .i64 0, .slice none 0 0], .int .i64 (errAs s p)]) ∧ Below w.heap.size w w' := by
  obtain ⟨ab_s, cb_s, rfl, gb_s, gc_s, -, -⟩ := h_s.1.1
  obtain ⟨au_s, cu_s, rfl, gu_s, gv_s, -, -⟩ := h_s.1.2
  obtain ⟨ax_s, cx_s, rfl, gx_s, gz_s⟩ := h_s.2.1.form rfl
  obtain ⟨ay_s, cy_s, rfl, gy_s, gw_s⟩ := h_s.2.2.form rfl
  unfold maxLen at gc_s gv_s gz_s gw_s
  have hst := (((Below.refl w.heap.size w).alloc (Nat.le_refl _) (.cells #[.slice ab_s s.disk.blocks.length cb_s, .slice au_s s.disk.waits.length cu_s, .slice ax_s s.now.length cx_s, .slice ay_s s.last.length cy_s] 28)).alloc (by simp) (.cells #[.int .i64 0, .slice none 0 0] 50))
  have hq := two_new w (.cells #[.slice ab_s s.disk.blocks.length cb_s, .slice au_s s.disk.waits.length cu_s, .slice ax_s s.now.length cx_s, .slice ay_s s.last.length cy_s] 28) (.cells #[.int .i64 0, .slice none 0 0] 50)
  have q_s := LK.of hq.1
  have q_r := LK.of hq.2
  have hB : LW w _ := hst
  have O_s := (LO.of h_s (Nat.le_refl _)).step hst
  have sz_V : w.heap.size + 1 < ((w.alloc (.cells #[.slice ab_s s.disk.blocks.length cb_s, .slice au_s s.disk.waits.length cu_s, .slice ax_s s.now.length cx_s, .slice ay_s s.last.length cy_s] 28)).alloc (.cells #[.int .i64 0, .slice none 0 0] 50)).heap.size := by simp
  obtain ⟨V, hV⟩ : ∃ V, ((w.alloc (.cells #[.slice ab_s s.disk.blocks.length cb_s, .slice au_s s.disk.waits.length cu_s, .slice ax_s s.now.length cx_s, .slice ay_s s.last.length cy_s] 28)).alloc (.cells #[.int .i64 0, .slice none 0 0] 50)) = V := ⟨_, rfl⟩
  rw [hV] at sz_V q_s q_r O_s hB
  clear hst h_s hq
  have HQ := Lib.hid (And.intro q_s (And.intro q_r (And.intro O_s hB)))
  clear q_s q_r O_s hB
  have c_q_s0 := LK.cell HQ.out.1 0
  have c_q_s1 := LK.cell HQ.out.1 1
  have c_q_s2 := LK.cell HQ.out.1 2
  have c_q_s3 := LK.cell HQ.out.1 3
  have c_q_r0 := LK.cell HQ.out.2.1 0
  have c_q_r1 := LK.cell HQ.out.2.1 1
  simp at c_q_s0 c_q_s1 c_q_s2 c_q_s3 c_q_r0 c_q_r1
  obtain ⟨ea, hea⟩ : ∃ e, errAs s p = e := ⟨_, rfl⟩
  have k_a := fun V b u x y hh => sasked_any b u x y s p V hh
  rw [hea] at k_a hne ⊢
  clear hea
  have HC := Lib.hid (k_a)
  clear k_a
  go_enter Try.func25, Try.ntmps25
  go_upto_region 1 with (fail)
  clear hV
  go_wp2_with fail
  refine (HC.out _ _ _ _ _ HQ.out.2.2.1.v).mono ?_
  rintro e w1 ⟨rfl, hst⟩
  clear c_q_s0 c_q_s1 c_q_s2 c_q_s3 c_q_r0 c_q_r1
  obtain ⟨q_s, q_r, O_s, hB⟩ := HQ.out
  clear HQ
  have sz_w1 : V.heap.size ≤ w1.heap.size := hst.size
  replace q_s := q_s.step hst
  replace q_r := q_r.step hst
  replace O_s := O_s.step hst
  replace hB := hB.step hst
  clear hst
  have HQ := Lib.hid (And.intro q_s (And.intro q_r (And.intro O_s hB)))
  clear q_s q_r O_s hB
  have c_q_s0 := LK.cell HQ.out.1 0
  have c_q_s1 := LK.cell HQ.out.1 1
  have c_q_s2 := LK.cell HQ.out.1 2
  have c_q_s3 := LK.cell HQ.out.1 3
  have c_q_r0 := LK.cell HQ.out.2.1 0
  have c_q_r1 := LK.cell HQ.out.2.1 1
  have z_q_r0 := LK.frozen HQ.out.2.1 0
  have z_q_r1 := LK.frozen HQ.out.2.1 1
  simp at c_q_s0 c_q_s1 c_q_s2 c_q_s3 c_q_r0 c_q_r1
  have i1 : (ea != 0) = true := by simp [hne]
  clear hne
  go_wp2
  refine bodyPost_ret (v := .tuple #[.agg #[.int .i64 0, .slice none 0 0], .int .i64 ea]) (by simp [results, Try.results25, go_sem, c_q_r0, c_q_r1]) rfl ⟨rfl, ?_⟩
  exact (Below.setCell HQ.out.2.2.2 (p := ⟨w.heap.size + 1, 0, none⟩) (Nat.le_succ _) _).setCell (p := ⟨w.heap.size + 1, 1, none⟩) (Nat.le_succ _) _

set_option maxRecDepth 100000 in
set_option maxHeartbeats 4000000 in
theorem roomNames_walk  (w : World)  :
    Calls Try.prog 7 #[] w fun e w' => e = .returned (.bool true) ∧ Below w.heap.size w w' := by
  have hB : LW w w := Below.refl _ _
  have HQ := Lib.hid (hB)
  clear hB
  obtain ⟨t1, t2, -, -⟩ := take_new
  obtain ⟨n1, n2, n3, n4, n5, n6, n7, n8, n9, n10⟩ := names8
  obtain ⟨N, hN⟩ : ∃ N, newS = N := ⟨_, rfl⟩
  obtain ⟨Z, hZ⟩ : ∃ Z, zs8 = Z := ⟨_, rfl⟩
  obtain ⟨T, hT⟩ : ∃ T, takeS newS zs8 = T := ⟨_, rfl⟩
  have k_t := fun V b u x y v h1 h2 => stake_any b u x y newS v zs8 V h1 h2
  rw [t1, t2, hT, hN, hZ] at k_t
  have k_n := fun V => snew_any V
  rw [hN] at k_n
  rw [hT] at n4 n5 n6
  rw [hN] at n1 n2 n3 n7 n8 n9 n10
  have k_f := fun V b u x y hh => sfree_any b u x y N V hh
  have k_f2 := fun V b u x y hh => sfree_any b u x y T V hh
  obtain ⟨FL, hFL⟩ : ∃ L, freeL N = L := ⟨_, rfl⟩
  obtain ⟨ML, hML⟩ : ∃ L, freeL T = L := ⟨_, rfl⟩
  rw [n1, hFL] at k_f
  rw [n4, hML] at k_f2
  rw [hFL] at n2 n3
  rw [hML] at n5 n6
  have k_8 := fun V b u x y hh => sshare_any b u x y N 8 V hh
  have k_7 := fun V b u x y hh => sshare_any b u x y N 7 V hh
  rw [n7, show shareS N 8 = noS by unfold shareS; rw [n7]; rfl] at k_8
  rw [n9, show shareS N 7 = noS by unfold shareS; rw [n9]; rfl] at k_7
  have k_a := fun V b u x y hh => snode_no b u x y N 8 V hh (by rw [n8]; decide)
  rw [n8] at k_a
  have k_0 := fun V b u x y hh => stake_any b u x y N (.slice none 0 0) [] V hh (Bytes.nil_ _ _ _)
  rw [n10, show takeS N [] = noS by unfold takeS; rw [n10]; rfl, show atTk N [] = 0 by unfold atTk; rw [n10]; rfl] at k_0
  have hmk : ∀ X : World, (Instr.makeSlice 26 (.int .i64 128) (.int .i64 128)).run Try.prog X = .ok (.slice (some ⟨X.heap.size, 0, none⟩) 128 128) (X.alloc (.cells (madeCells #[.int .u8 0] 128) 5)) := fun X => run_makeN (P := Try.prog) 26 5 (.int .u8 0) #[.int .u8 0] 1 1 Try.underlying26 (by kernel_rfl) rfl 128 128 128 rfl (by decide) (by decide) (by decide) X
  have hz : madeCells #[.int .u8 0] 128 = (zs8.map bV).toArray := by kernel_rfl
  rw [hZ] at hz
  have hZl : Z.length = 128 := by rw [← hZ]; rfl
  have hzn : ∀ X : World, LB X.heap.size (X.heap.size + 1) (.slice (some ⟨X.heap.size, 0, none⟩) 128 128) Z (X.alloc (.cells (madeCells #[.int .u8 0] 128) 5)) := fun X => LB.of (by have := Bytes.new X 5 Z (by rw [hZl]; simp [maxLen]) (0, 0); rw [hZl] at this; rwa [hz]) (by simp)
  generalize madeCells #[.int .u8 0] 128 = MC at *
  have HZN := Lib.hid hzn
  clear hz hzn hZl
  have HL := Lib.hid (And.intro n2 (And.intro n3 (And.intro n5 n6)))
  clear hZ hN hT hFL hML n1 n2 n3 n4 n5 n6 n7 n8 n9 n10 t1 t2
  have HC := Lib.hid (And.intro k_t (And.intro k_n (And.intro k_f (And.intro k_f2 (And.intro k_8 (And.intro k_7 (And.intro k_a k_0)))))))
  clear k_t k_n k_f k_f2 k_8 k_7 k_a k_0
  go_enter Try.func7, Try.ntmps7
  go_wp2_with fail
  refine (alive8 w).mono ?_
  rintro e w1 ⟨rfl, hst⟩
  have hB := HQ.out
  clear HQ
  have sz_w1 : w.heap.size ≤ w1.heap.size := hst.size
  replace hB := hB.step hst
  clear hst
  have HQ := Lib.hid (hB)
  clear hB
  go_wp2_with fail
  refine (HC.out.2.1 _).mono ?_
  rintro e w2 ⟨b_1, u_1, x_1, y_1, rfl, hm⟩
  have hB := HQ.out
  clear HQ
  have P_1 := LP.of hm
  have hst := hm.below
  clear hm
  have sz_w2 : w1.heap.size ≤ w2.heap.size := hst.size
  replace hB := hB.step hst
  clear hst
  have HQ := Lib.hid (And.intro P_1 hB)
  clear P_1 hB
  go_wp2_with fail
  refine (HC.out.2.2.1 _ _ _ _ _ HQ.out.1.v).mono ?_
  rintro e w3 ⟨v_f, rfl, hS, hst⟩
  obtain ⟨P_1, hB⟩ := HQ.out
  clear HQ
  have S_f := LS.of hS (Nat.le_refl _)
  obtain ⟨a_f, c_f, rfl, -, -, -, -⟩ := hS
  rw [HL.out.1] at S_f ⊢
  clear P_1
  have sz_w3 : w2.heap.size ≤ w3.heap.size := hst.size
  replace hB := hB.step hst
  clear hst
  have HQ := Lib.hid (And.intro S_f hB)
  clear S_f hB
  go_upto_region 4 with (fail)
  go_cut [3, 4, 5] (fun t1 t2 t3 wx => ∃ (g lo hi : Nat) (b u x y : Value), t1 = .pointer (some ⟨g, 0, none⟩) ∧ t2 = .int .i64 8 ∧ t3 = .int .i64 0 ∧ LK g (.cells #[b, u, x, y] 28) wx ∧ LO lo hi b u x y T wx ∧ Below w3.heap.size w3 wx)
  case first =>
    refine wp_region_held_drew (S := Cls w3) (by kernel_rfl) (Cls.drew w3) (fun hCl => ?_)
    refine wpAnyH_each (fuel := 10) [0, 1, 7] (by kernel_rfl) (by simp) (by kernel_rfl) ?_
    refine Each.cons _ rfl (fun K' hK => ?_) ?_
    · go_simp
      refine (HC.out.2.1 _).mono ?_
      rintro e z1 ⟨b0, u0, x0, y0, rfl, hm⟩
      have hs := hm.below
      have F0 := (LP.of hm).o
      have sz_z1 : w3.drew.heap.size ≤ z1.heap.size := hs.size
      have hst := below_step hCl.below hCl.below.size hs
      clear hs
      have hCl := Cls.of hst
      refine hK.out (Cls w3) (fun _ h => h) hCl ?_
      clear hK K'
      refine wpAnyH_each (fuel := 9) [1, 7] (by kernel_rfl) (by simp) (by kernel_rfl) ?_
      refine Each.cons _ rfl (fun K' hK => ?_) ?_
      · go_simp
        have hs := cls_alloc hCl (.cells MC 5)
        have F1 := cls_at hCl HZN.out
        have hlt : z1.heap.size < (z1.alloc (.cells MC 5)).heap.size := by simp
        replace F0 := F0.step hs
        have hst := below_step hCl.below hCl.below.size hs
        have lo_F1 := hCl.below.size
        obtain ⟨z2, hz⟩ : ∃ v, z1.alloc (.cells MC 5) = v := ⟨_, rfl⟩
        have hz2 : z1.alloc (.cells MC 5) = z2 := hz
        rw [hz] at ⊢
        rw [hz2] at hst hlt F0 F1
        have sz_z2 := hlt
        clear hz hz2 hs hlt
        have hCl := Cls.of hst
        refine hK.out (Cls w3) (fun _ h => h) hCl ?_
        clear hK K'
        refine wpAnyH_each (fuel := 8) [2, 7] (by kernel_rfl) (by simp) (by kernel_rfl) ?_
        refine Each.cons _ rfl (fun K' hK => ?_) ?_
        · go_simp
          refine (HC.out.1 _ _ _ _ _ _ F0.v F1.v).mono ?_
          rintro e z3 ⟨b2, u2, x2, y2, rfl, hm⟩
          have hs := hm.below
          obtain ⟨ab_t, cb_t, rfl, -, -, -, -⟩ := hm.store.v.1.1
          obtain ⟨au_t, cu_t, rfl, -, -, -, -⟩ := hm.store.v.1.2
          obtain ⟨ax_t, cx_t, rfl, -, -⟩ := hm.store.v.2.1.form rfl
          obtain ⟨ay_t, cy_t, rfl, -, -⟩ := hm.store.v.2.2.form rfl
          replace F0 := F0.step hs
          replace F1 := F1.step hs
          have F2 := LP.of hm
          have sz_z3 : z2.heap.size ≤ z3.heap.size := hs.size
          have hst := below_step hCl.below hCl.below.size hs
          clear hs
          have hCl := Cls.of hst
          refine hK.out (Cls w3) (fun _ h => h) hCl ?_
          clear hK K'
          refine wpAnyH_seg (fuel := 4) (by kernel_rfl) (fun _ d _ _ _ h => by cases d <;> exact h) hCl [3, 4, 5, 6] _ _ _ (by kernel_rfl) (by kernel_rfl) ?_
          simp only [opsOf_cons, opsOf_nil, consOp_some, List.getElem?_toArray, List.getElem?_cons_succ, List.getElem?_cons_zero]
          repeat (first | go_big_quiet_step (fail) | quiet_step (fail))
          refine wpQuiet_nil ?_
          refine wpAnyH_each (fuel := 3) [7] (by kernel_rfl) (by simp) (by kernel_rfl) ?_
          refine Each.cons _ rfl (fun K' hK => ?_) Each.nil
          go_simp
          have hs := cls_alloc hCl (.cells #[.slice none 0 0, .slice none 0 0, .slice none 0 0, .slice none 0 0] 28)
          have F7 : LK z3.heap.size (.cells #[.slice none 0 0, .slice none 0 0, .slice none 0 0, .slice none 0 0] 28) _ := cls_new hCl (.cells #[.slice none 0 0, .slice none 0 0, .slice none 0 0, .slice none 0 0] 28)
          have hlt : z3.heap.size < (z3.alloc (.cells #[.slice none 0 0, .slice none 0 0, .slice none 0 0, .slice none 0 0] 28)).heap.size := by simp
          replace F0 := F0.step hs
          replace F1 := F1.step hs
          replace F2 := F2.step hs
          have hst := below_step hCl.below hCl.below.size hs
          have lo_F7 := hCl.below.size
          obtain ⟨z4, hz⟩ : ∃ v, z3.alloc (.cells #[.slice none 0 0, .slice none 0 0, .slice none 0 0, .slice none 0 0] 28) = v := ⟨_, rfl⟩
          have hz2 : z3.alloc (.cells #[.slice none 0 0, .slice none 0 0, .slice none 0 0, .slice none 0 0] 28) = z4 := hz
          rw [hz] at ⊢
          rw [hz2] at hst hlt F0 F1 F2 F7
          have sz_z4 := hlt
          clear hz hz2 hs hlt
          have hCl := Cls.of hst
          refine hK.out (Cls w3) (fun _ h => h) hCl ?_
          clear hK K'
          refine wpAnyH_each (fuel := 2) [8] (by kernel_rfl) (by simp) (by kernel_rfl) ?_
          refine Each.cons _ rfl (fun K' hK => ?_) Each.nil
          have hcb := LK.blk F7
          have r0 := LK.cell F7 0
          have r1 := LK.cell F7 1
          have r2 := LK.cell F7 2
          have r3 := LK.cell F7 3
          simp at r0 r1 r2 r3
          have s0 := LK.frozen F7 0
          have s1 := LK.frozen F7 1
          have s2 := LK.frozen F7 2
          have s3 := LK.frozen F7 3
          go_simp
          have F8 : LK (z3.heap.size) (.cells #[.slice ab_t T.disk.blocks.length cb_t, .slice au_t T.disk.waits.length cu_t, .slice ax_t T.now.length cx_t, .slice ay_t T.last.length cy_t] 28) ((((z4.setCell ⟨z3.heap.size, 0, none⟩ (.slice ab_t T.disk.blocks.length cb_t)).setCell ⟨z3.heap.size, 1, none⟩ (.slice au_t T.disk.waits.length cu_t)).setCell ⟨z3.heap.size, 2, none⟩ (.slice ax_t T.now.length cx_t)).setCell ⟨z3.heap.size, 3, none⟩ (.slice ay_t T.last.length cy_t)) := LK.of (set_block (set_block (set_block (set_block hcb 0 _) 1 _) 2 _) 3 _)
          have hst := Below.trans hCl.below (below_four z4 (.slice ab_t T.disk.blocks.length cb_t) (.slice au_t T.disk.waits.length cu_t) (.slice ax_t T.now.length cx_t) (.slice ay_t T.last.length cy_t) lo_F7)
          have hfr : ∀ x, x < z4.heap.size → (x < z3.heap.size ∨ z3.heap.size + 1 ≤ x) → ((((z4.setCell ⟨z3.heap.size, 0, none⟩ (.slice ab_t T.disk.blocks.length cb_t)).setCell ⟨z3.heap.size, 1, none⟩ (.slice au_t T.disk.waits.length cu_t)).setCell ⟨z3.heap.size, 2, none⟩ (.slice ax_t T.now.length cx_t)).setCell ⟨z3.heap.size, 3, none⟩ (.slice ay_t T.last.length cy_t)).heap[x]? = z4.heap[x]? := fun x _ h => (set_other _ _ _ _ _ (by omega)).trans ((set_other _ _ _ _ _ (by omega)).trans ((set_other _ _ _ _ _ (by omega)).trans (set_other _ _ _ _ _ (by omega))))
          have F9 := F2.o.out (V' := ((((z4.setCell ⟨z3.heap.size, 0, none⟩ (.slice ab_t T.disk.blocks.length cb_t)).setCell ⟨z3.heap.size, 1, none⟩ (.slice au_t T.disk.waits.length cu_t)).setCell ⟨z3.heap.size, 2, none⟩ (.slice ax_t T.now.length cx_t)).setCell ⟨z3.heap.size, 3, none⟩ (.slice ay_t T.last.length cy_t))) (by simp only [World.size_setCell]; omega) hfr (by omega)
          have hCl := Cls.of hst
          refine hK.out (Cls w3) (fun _ h => h) hCl ?_
          clear hK K'
          refine wpAnyH_seg (fuel := 0) (by kernel_rfl) (fun _ d _ _ _ h => by cases d <;> exact h) hCl [9, 10] _ _ _ (by kernel_rfl) (by kernel_rfl) ?_
          simp only [opsOf_cons, opsOf_nil, consOp_some, List.getElem?_toArray, List.getElem?_cons_succ, List.getElem?_cons_zero]
          repeat (first | go_big_quiet_step (fail) | quiet_step (fail))
          refine wpQuiet_nil ?_
          refine wpAnyH_done (by kernel_rfl) ?_ _
          go_wp2
          go_meet
          exact ⟨_, _, _, _, _, _, _, rfl, rfl, rfl, F8, F9, hst⟩
        refine Each.cons _ rfl (fun K' hK => ?_) ?_
        · go_simp
          have hs := cls_alloc hCl (.cells #[.slice none 0 0, .slice none 0 0, .slice none 0 0, .slice none 0 0] 28)
          have F7 : LK z2.heap.size (.cells #[.slice none 0 0, .slice none 0 0, .slice none 0 0, .slice none 0 0] 28) _ := cls_new hCl (.cells #[.slice none 0 0, .slice none 0 0, .slice none 0 0, .slice none 0 0] 28)
          have hlt : z2.heap.size < (z2.alloc (.cells #[.slice none 0 0, .slice none 0 0, .slice none 0 0, .slice none 0 0] 28)).heap.size := by simp
          replace F0 := F0.step hs
          replace F1 := F1.step hs
          have hst := below_step hCl.below hCl.below.size hs
          have lo_F7 := hCl.below.size
          obtain ⟨z6, hz⟩ : ∃ v, z2.alloc (.cells #[.slice none 0 0, .slice none 0 0, .slice none 0 0, .slice none 0 0] 28) = v := ⟨_, rfl⟩
          have hz2 : z2.alloc (.cells #[.slice none 0 0, .slice none 0 0, .slice none 0 0, .slice none 0 0] 28) = z6 := hz
          rw [hz] at ⊢
          rw [hz2] at hst hlt F0 F1 F7
          have sz_z6 := hlt
          clear hz hz2 hs hlt
          have hCl := Cls.of hst
          refine hK.out (Cls w3) (fun _ h => h) hCl ?_
          clear hK K'
          refine wpAnyH_each (fuel := 7) [2] (by kernel_rfl) (by simp) (by kernel_rfl) ?_
          refine Each.cons _ rfl (fun K' hK => ?_) Each.nil
          go_simp
          refine (HC.out.1 _ _ _ _ _ _ F0.v F1.v).mono ?_
          rintro e z7 ⟨b2, u2, x2, y2, rfl, hm⟩
          have hs := hm.below
          obtain ⟨ab_t, cb_t, rfl, -, -, -, -⟩ := hm.store.v.1.1
          obtain ⟨au_t, cu_t, rfl, -, -, -, -⟩ := hm.store.v.1.2
          obtain ⟨ax_t, cx_t, rfl, -, -⟩ := hm.store.v.2.1.form rfl
          obtain ⟨ay_t, cy_t, rfl, -, -⟩ := hm.store.v.2.2.form rfl
          replace F0 := F0.step hs
          replace F1 := F1.step hs
          replace F7 := F7.step hs
          have F2 := LP.of hm
          have sz_z7 : z6.heap.size ≤ z7.heap.size := hs.size
          have hst := below_step hCl.below hCl.below.size hs
          clear hs
          have hCl := Cls.of hst
          refine hK.out (Cls w3) (fun _ h => h) hCl ?_
          clear hK K'
          refine wpAnyH_seg (fuel := 3) (by kernel_rfl) (fun _ d _ _ _ h => by cases d <;> exact h) hCl [3, 4, 5, 6] _ _ _ (by kernel_rfl) (by kernel_rfl) ?_
          simp only [opsOf_cons, opsOf_nil, consOp_some, List.getElem?_toArray, List.getElem?_cons_succ, List.getElem?_cons_zero]
          repeat (first | go_big_quiet_step (fail) | quiet_step (fail))
          refine wpQuiet_nil ?_
          refine wpAnyH_each (fuel := 2) [8] (by kernel_rfl) (by simp) (by kernel_rfl) ?_
          refine Each.cons _ rfl (fun K' hK => ?_) Each.nil
          have hcb := LK.blk F7
          have r0 := LK.cell F7 0
          have r1 := LK.cell F7 1
          have r2 := LK.cell F7 2
          have r3 := LK.cell F7 3
          simp at r0 r1 r2 r3
          have s0 := LK.frozen F7 0
          have s1 := LK.frozen F7 1
          have s2 := LK.frozen F7 2
          have s3 := LK.frozen F7 3
          go_simp
          have F8 : LK (z2.heap.size) (.cells #[.slice ab_t T.disk.blocks.length cb_t, .slice au_t T.disk.waits.length cu_t, .slice ax_t T.now.length cx_t, .slice ay_t T.last.length cy_t] 28) ((((z7.setCell ⟨z2.heap.size, 0, none⟩ (.slice ab_t T.disk.blocks.length cb_t)).setCell ⟨z2.heap.size, 1, none⟩ (.slice au_t T.disk.waits.length cu_t)).setCell ⟨z2.heap.size, 2, none⟩ (.slice ax_t T.now.length cx_t)).setCell ⟨z2.heap.size, 3, none⟩ (.slice ay_t T.last.length cy_t)) := LK.of (set_block (set_block (set_block (set_block hcb 0 _) 1 _) 2 _) 3 _)
          have hst := Below.trans hCl.below (below_four z7 (.slice ab_t T.disk.blocks.length cb_t) (.slice au_t T.disk.waits.length cu_t) (.slice ax_t T.now.length cx_t) (.slice ay_t T.last.length cy_t) lo_F7)
          have hfr : ∀ x, x < z7.heap.size → (x < z2.heap.size ∨ z2.heap.size + 1 ≤ x) → ((((z7.setCell ⟨z2.heap.size, 0, none⟩ (.slice ab_t T.disk.blocks.length cb_t)).setCell ⟨z2.heap.size, 1, none⟩ (.slice au_t T.disk.waits.length cu_t)).setCell ⟨z2.heap.size, 2, none⟩ (.slice ax_t T.now.length cx_t)).setCell ⟨z2.heap.size, 3, none⟩ (.slice ay_t T.last.length cy_t)).heap[x]? = z7.heap[x]? := fun x _ h => (set_other _ _ _ _ _ (by omega)).trans ((set_other _ _ _ _ _ (by omega)).trans ((set_other _ _ _ _ _ (by omega)).trans (set_other _ _ _ _ _ (by omega))))
          have F9 := F2.o.out (V' := ((((z7.setCell ⟨z2.heap.size, 0, none⟩ (.slice ab_t T.disk.blocks.length cb_t)).setCell ⟨z2.heap.size, 1, none⟩ (.slice au_t T.disk.waits.length cu_t)).setCell ⟨z2.heap.size, 2, none⟩ (.slice ax_t T.now.length cx_t)).setCell ⟨z2.heap.size, 3, none⟩ (.slice ay_t T.last.length cy_t))) (by simp only [World.size_setCell]; omega) hfr (by omega)
          have hCl := Cls.of hst
          refine hK.out (Cls w3) (fun _ h => h) hCl ?_
          clear hK K'
          refine wpAnyH_seg (fuel := 0) (by kernel_rfl) (fun _ d _ _ _ h => by cases d <;> exact h) hCl [9, 10] _ _ _ (by kernel_rfl) (by kernel_rfl) ?_
          simp only [opsOf_cons, opsOf_nil, consOp_some, List.getElem?_toArray, List.getElem?_cons_succ, List.getElem?_cons_zero]
          repeat (first | go_big_quiet_step (fail) | quiet_step (fail))
          refine wpQuiet_nil ?_
          refine wpAnyH_done (by kernel_rfl) ?_ _
          go_wp2
          go_meet
          exact ⟨_, _, _, _, _, _, _, rfl, rfl, rfl, F8, F9, hst⟩
        exact Each.nil
      refine Each.cons _ rfl (fun K' hK => ?_) ?_
      · go_simp
        have hs := cls_alloc hCl (.cells #[.slice none 0 0, .slice none 0 0, .slice none 0 0, .slice none 0 0] 28)
        have F7 : LK z1.heap.size (.cells #[.slice none 0 0, .slice none 0 0, .slice none 0 0, .slice none 0 0] 28) _ := cls_new hCl (.cells #[.slice none 0 0, .slice none 0 0, .slice none 0 0, .slice none 0 0] 28)
        have hlt : z1.heap.size < (z1.alloc (.cells #[.slice none 0 0, .slice none 0 0, .slice none 0 0, .slice none 0 0] 28)).heap.size := by simp
        replace F0 := F0.step hs
        have hst := below_step hCl.below hCl.below.size hs
        have lo_F7 := hCl.below.size
        obtain ⟨z9, hz⟩ : ∃ v, z1.alloc (.cells #[.slice none 0 0, .slice none 0 0, .slice none 0 0, .slice none 0 0] 28) = v := ⟨_, rfl⟩
        have hz2 : z1.alloc (.cells #[.slice none 0 0, .slice none 0 0, .slice none 0 0, .slice none 0 0] 28) = z9 := hz
        rw [hz] at ⊢
        rw [hz2] at hst hlt F0 F7
        have sz_z9 := hlt
        clear hz hz2 hs hlt
        have hCl := Cls.of hst
        refine hK.out (Cls w3) (fun _ h => h) hCl ?_
        clear hK K'
        refine wpAnyH_each (fuel := 8) [1] (by kernel_rfl) (by simp) (by kernel_rfl) ?_
        refine Each.cons _ rfl (fun K' hK => ?_) Each.nil
        go_simp
        have hs := cls_alloc hCl (.cells MC 5)
        have F1 := cls_at hCl HZN.out
        have hlt : z9.heap.size < (z9.alloc (.cells MC 5)).heap.size := by simp
        replace F0 := F0.step hs
        replace F7 := F7.step hs
        have hst := below_step hCl.below hCl.below.size hs
        have lo_F1 := hCl.below.size
        obtain ⟨z10, hz⟩ : ∃ v, z9.alloc (.cells MC 5) = v := ⟨_, rfl⟩
        have hz2 : z9.alloc (.cells MC 5) = z10 := hz
        rw [hz] at ⊢
        rw [hz2] at hst hlt F0 F7 F1
        have sz_z10 := hlt
        clear hz hz2 hs hlt
        have hCl := Cls.of hst
        refine hK.out (Cls w3) (fun _ h => h) hCl ?_
        clear hK K'
        refine wpAnyH_each (fuel := 7) [2] (by kernel_rfl) (by simp) (by kernel_rfl) ?_
        refine Each.cons _ rfl (fun K' hK => ?_) Each.nil
        go_simp
        refine (HC.out.1 _ _ _ _ _ _ F0.v F1.v).mono ?_
        rintro e z11 ⟨b2, u2, x2, y2, rfl, hm⟩
        have hs := hm.below
        obtain ⟨ab_t, cb_t, rfl, -, -, -, -⟩ := hm.store.v.1.1
        obtain ⟨au_t, cu_t, rfl, -, -, -, -⟩ := hm.store.v.1.2
        obtain ⟨ax_t, cx_t, rfl, -, -⟩ := hm.store.v.2.1.form rfl
        obtain ⟨ay_t, cy_t, rfl, -, -⟩ := hm.store.v.2.2.form rfl
        replace F0 := F0.step hs
        replace F7 := F7.step hs
        replace F1 := F1.step hs
        have F2 := LP.of hm
        have sz_z11 : z10.heap.size ≤ z11.heap.size := hs.size
        have hst := below_step hCl.below hCl.below.size hs
        clear hs
        have hCl := Cls.of hst
        refine hK.out (Cls w3) (fun _ h => h) hCl ?_
        clear hK K'
        refine wpAnyH_seg (fuel := 3) (by kernel_rfl) (fun _ d _ _ _ h => by cases d <;> exact h) hCl [3, 4, 5, 6] _ _ _ (by kernel_rfl) (by kernel_rfl) ?_
        simp only [opsOf_cons, opsOf_nil, consOp_some, List.getElem?_toArray, List.getElem?_cons_succ, List.getElem?_cons_zero]
        repeat (first | go_big_quiet_step (fail) | quiet_step (fail))
        refine wpQuiet_nil ?_
        refine wpAnyH_each (fuel := 2) [8] (by kernel_rfl) (by simp) (by kernel_rfl) ?_
        refine Each.cons _ rfl (fun K' hK => ?_) Each.nil
        have hcb := LK.blk F7
        have r0 := LK.cell F7 0
        have r1 := LK.cell F7 1
        have r2 := LK.cell F7 2
        have r3 := LK.cell F7 3
        simp at r0 r1 r2 r3
        have s0 := LK.frozen F7 0
        have s1 := LK.frozen F7 1
        have s2 := LK.frozen F7 2
        have s3 := LK.frozen F7 3
        go_simp
        have F8 : LK (z1.heap.size) (.cells #[.slice ab_t T.disk.blocks.length cb_t, .slice au_t T.disk.waits.length cu_t, .slice ax_t T.now.length cx_t, .slice ay_t T.last.length cy_t] 28) ((((z11.setCell ⟨z1.heap.size, 0, none⟩ (.slice ab_t T.disk.blocks.length cb_t)).setCell ⟨z1.heap.size, 1, none⟩ (.slice au_t T.disk.waits.length cu_t)).setCell ⟨z1.heap.size, 2, none⟩ (.slice ax_t T.now.length cx_t)).setCell ⟨z1.heap.size, 3, none⟩ (.slice ay_t T.last.length cy_t)) := LK.of (set_block (set_block (set_block (set_block hcb 0 _) 1 _) 2 _) 3 _)
        have hst := Below.trans hCl.below (below_four z11 (.slice ab_t T.disk.blocks.length cb_t) (.slice au_t T.disk.waits.length cu_t) (.slice ax_t T.now.length cx_t) (.slice ay_t T.last.length cy_t) lo_F7)
        have hfr : ∀ x, x < z11.heap.size → (x < z1.heap.size ∨ z1.heap.size + 1 ≤ x) → ((((z11.setCell ⟨z1.heap.size, 0, none⟩ (.slice ab_t T.disk.blocks.length cb_t)).setCell ⟨z1.heap.size, 1, none⟩ (.slice au_t T.disk.waits.length cu_t)).setCell ⟨z1.heap.size, 2, none⟩ (.slice ax_t T.now.length cx_t)).setCell ⟨z1.heap.size, 3, none⟩ (.slice ay_t T.last.length cy_t)).heap[x]? = z11.heap[x]? := fun x _ h => (set_other _ _ _ _ _ (by omega)).trans ((set_other _ _ _ _ _ (by omega)).trans ((set_other _ _ _ _ _ (by omega)).trans (set_other _ _ _ _ _ (by omega))))
        have F9 := F2.o.out (V' := ((((z11.setCell ⟨z1.heap.size, 0, none⟩ (.slice ab_t T.disk.blocks.length cb_t)).setCell ⟨z1.heap.size, 1, none⟩ (.slice au_t T.disk.waits.length cu_t)).setCell ⟨z1.heap.size, 2, none⟩ (.slice ax_t T.now.length cx_t)).setCell ⟨z1.heap.size, 3, none⟩ (.slice ay_t T.last.length cy_t))) (by simp only [World.size_setCell]; omega) hfr (by omega)
        have hCl := Cls.of hst
        refine hK.out (Cls w3) (fun _ h => h) hCl ?_
        clear hK K'
        refine wpAnyH_seg (fuel := 0) (by kernel_rfl) (fun _ d _ _ _ h => by cases d <;> exact h) hCl [9, 10] _ _ _ (by kernel_rfl) (by kernel_rfl) ?_
        simp only [opsOf_cons, opsOf_nil, consOp_some, List.getElem?_toArray, List.getElem?_cons_succ, List.getElem?_cons_zero]
        repeat (first | go_big_quiet_step (fail) | quiet_step (fail))
        refine wpQuiet_nil ?_
        refine wpAnyH_done (by kernel_rfl) ?_ _
        go_wp2
        go_meet
        exact ⟨_, _, _, _, _, _, _, rfl, rfl, rfl, F8, F9, hst⟩
      exact Each.nil
    refine Each.cons _ rfl (fun K' hK => ?_) ?_
    · go_simp
      have hs := cls_alloc hCl (.cells MC 5)
      have F1 := cls_at hCl HZN.out
      have hlt : w3.drew.heap.size < (w3.drew.alloc (.cells MC 5)).heap.size := by simp
      have hst := below_step hCl.below hCl.below.size hs
      have lo_F1 := hCl.below.size
      obtain ⟨z13, hz⟩ : ∃ v, (w3.alloc (.cells MC 5)).drew = v := ⟨_, rfl⟩
      have hz2 : w3.drew.alloc (.cells MC 5) = z13 := hz
      rw [hz] at ⊢
      rw [hz2] at hst hlt F1
      have sz_z13 := hlt
      clear hz hz2 hs hlt
      have hCl := Cls.of hst
      refine hK.out (Cls w3) (fun _ h => h) hCl ?_
      clear hK K'
      refine wpAnyH_each (fuel := 9) [0, 7] (by kernel_rfl) (by simp) (by kernel_rfl) ?_
      refine Each.cons _ rfl (fun K' hK => ?_) ?_
      · go_simp
        refine (HC.out.2.1 _).mono ?_
        rintro e z14 ⟨b0, u0, x0, y0, rfl, hm⟩
        have hs := hm.below
        replace F1 := F1.step hs
        have F0 := (LP.of hm).o
        have sz_z14 : z13.heap.size ≤ z14.heap.size := hs.size
        have hst := below_step hCl.below hCl.below.size hs
        clear hs
        have hCl := Cls.of hst
        refine hK.out (Cls w3) (fun _ h => h) hCl ?_
        clear hK K'
        refine wpAnyH_each (fuel := 8) [2, 7] (by kernel_rfl) (by simp) (by kernel_rfl) ?_
        refine Each.cons _ rfl (fun K' hK => ?_) ?_
        · go_simp
          refine (HC.out.1 _ _ _ _ _ _ F0.v F1.v).mono ?_
          rintro e z15 ⟨b2, u2, x2, y2, rfl, hm⟩
          have hs := hm.below
          obtain ⟨ab_t, cb_t, rfl, -, -, -, -⟩ := hm.store.v.1.1
          obtain ⟨au_t, cu_t, rfl, -, -, -, -⟩ := hm.store.v.1.2
          obtain ⟨ax_t, cx_t, rfl, -, -⟩ := hm.store.v.2.1.form rfl
          obtain ⟨ay_t, cy_t, rfl, -, -⟩ := hm.store.v.2.2.form rfl
          replace F1 := F1.step hs
          replace F0 := F0.step hs
          have F2 := LP.of hm
          have sz_z15 : z14.heap.size ≤ z15.heap.size := hs.size
          have hst := below_step hCl.below hCl.below.size hs
          clear hs
          have hCl := Cls.of hst
          refine hK.out (Cls w3) (fun _ h => h) hCl ?_
          clear hK K'
          refine wpAnyH_seg (fuel := 4) (by kernel_rfl) (fun _ d _ _ _ h => by cases d <;> exact h) hCl [3, 4, 5, 6] _ _ _ (by kernel_rfl) (by kernel_rfl) ?_
          simp only [opsOf_cons, opsOf_nil, consOp_some, List.getElem?_toArray, List.getElem?_cons_succ, List.getElem?_cons_zero]
          repeat (first | go_big_quiet_step (fail) | quiet_step (fail))
          refine wpQuiet_nil ?_
          refine wpAnyH_each (fuel := 3) [7] (by kernel_rfl) (by simp) (by kernel_rfl) ?_
          refine Each.cons _ rfl (fun K' hK => ?_) Each.nil
          go_simp
          have hs := cls_alloc hCl (.cells #[.slice none 0 0, .slice none 0 0, .slice none 0 0, .slice none 0 0] 28)
          have F7 : LK z15.heap.size (.cells #[.slice none 0 0, .slice none 0 0, .slice none 0 0, .slice none 0 0] 28) _ := cls_new hCl (.cells #[.slice none 0 0, .slice none 0 0, .slice none 0 0, .slice none 0 0] 28)
          have hlt : z15.heap.size < (z15.alloc (.cells #[.slice none 0 0, .slice none 0 0, .slice none 0 0, .slice none 0 0] 28)).heap.size := by simp
          replace F1 := F1.step hs
          replace F0 := F0.step hs
          replace F2 := F2.step hs
          have hst := below_step hCl.below hCl.below.size hs
          have lo_F7 := hCl.below.size
          obtain ⟨z16, hz⟩ : ∃ v, z15.alloc (.cells #[.slice none 0 0, .slice none 0 0, .slice none 0 0, .slice none 0 0] 28) = v := ⟨_, rfl⟩
          have hz2 : z15.alloc (.cells #[.slice none 0 0, .slice none 0 0, .slice none 0 0, .slice none 0 0] 28) = z16 := hz
          rw [hz] at ⊢
          rw [hz2] at hst hlt F1 F0 F2 F7
          have sz_z16 := hlt
          clear hz hz2 hs hlt
          have hCl := Cls.of hst
          refine hK.out (Cls w3) (fun _ h => h) hCl ?_
          clear hK K'
          refine wpAnyH_each (fuel := 2) [8] (by kernel_rfl) (by simp) (by kernel_rfl) ?_
          refine Each.cons _ rfl (fun K' hK => ?_) Each.nil
          have hcb := LK.blk F7
          have r0 := LK.cell F7 0
          have r1 := LK.cell F7 1
          have r2 := LK.cell F7 2
          have r3 := LK.cell F7 3
          simp at r0 r1 r2 r3
          have s0 := LK.frozen F7 0
          have s1 := LK.frozen F7 1
          have s2 := LK.frozen F7 2
          have s3 := LK.frozen F7 3
          go_simp
          have F8 : LK (z15.heap.size) (.cells #[.slice ab_t T.disk.blocks.length cb_t, .slice au_t T.disk.waits.length cu_t, .slice ax_t T.now.length cx_t, .slice ay_t T.last.length cy_t] 28) ((((z16.setCell ⟨z15.heap.size, 0, none⟩ (.slice ab_t T.disk.blocks.length cb_t)).setCell ⟨z15.heap.size, 1, none⟩ (.slice au_t T.disk.waits.length cu_t)).setCell ⟨z15.heap.size, 2, none⟩ (.slice ax_t T.now.length cx_t)).setCell ⟨z15.heap.size, 3, none⟩ (.slice ay_t T.last.length cy_t)) := LK.of (set_block (set_block (set_block (set_block hcb 0 _) 1 _) 2 _) 3 _)
          have hst := Below.trans hCl.below (below_four z16 (.slice ab_t T.disk.blocks.length cb_t) (.slice au_t T.disk.waits.length cu_t) (.slice ax_t T.now.length cx_t) (.slice ay_t T.last.length cy_t) lo_F7)
          have hfr : ∀ x, x < z16.heap.size → (x < z15.heap.size ∨ z15.heap.size + 1 ≤ x) → ((((z16.setCell ⟨z15.heap.size, 0, none⟩ (.slice ab_t T.disk.blocks.length cb_t)).setCell ⟨z15.heap.size, 1, none⟩ (.slice au_t T.disk.waits.length cu_t)).setCell ⟨z15.heap.size, 2, none⟩ (.slice ax_t T.now.length cx_t)).setCell ⟨z15.heap.size, 3, none⟩ (.slice ay_t T.last.length cy_t)).heap[x]? = z16.heap[x]? := fun x _ h => (set_other _ _ _ _ _ (by omega)).trans ((set_other _ _ _ _ _ (by omega)).trans ((set_other _ _ _ _ _ (by omega)).trans (set_other _ _ _ _ _ (by omega))))
          have F9 := F2.o.out (V' := ((((z16.setCell ⟨z15.heap.size, 0, none⟩ (.slice ab_t T.disk.blocks.length cb_t)).setCell ⟨z15.heap.size, 1, none⟩ (.slice au_t T.disk.waits.length cu_t)).setCell ⟨z15.heap.size, 2, none⟩ (.slice ax_t T.now.length cx_t)).setCell ⟨z15.heap.size, 3, none⟩ (.slice ay_t T.last.length cy_t))) (by simp only [World.size_setCell]; omega) hfr (by omega)
          have hCl := Cls.of hst
          refine hK.out (Cls w3) (fun _ h => h) hCl ?_
          clear hK K'
          refine wpAnyH_seg (fuel := 0) (by kernel_rfl) (fun _ d _ _ _ h => by cases d <;> exact h) hCl [9, 10] _ _ _ (by kernel_rfl) (by kernel_rfl) ?_
          simp only [opsOf_cons, opsOf_nil, consOp_some, List.getElem?_toArray, List.getElem?_cons_succ, List.getElem?_cons_zero]
          repeat (first | go_big_quiet_step (fail) | quiet_step (fail))
          refine wpQuiet_nil ?_
          refine wpAnyH_done (by kernel_rfl) ?_ _
          go_wp2
          go_meet
          exact ⟨_, _, _, _, _, _, _, rfl, rfl, rfl, F8, F9, hst⟩
        refine Each.cons _ rfl (fun K' hK => ?_) ?_
        · go_simp
          have hs := cls_alloc hCl (.cells #[.slice none 0 0, .slice none 0 0, .slice none 0 0, .slice none 0 0] 28)
          have F7 : LK z14.heap.size (.cells #[.slice none 0 0, .slice none 0 0, .slice none 0 0, .slice none 0 0] 28) _ := cls_new hCl (.cells #[.slice none 0 0, .slice none 0 0, .slice none 0 0, .slice none 0 0] 28)
          have hlt : z14.heap.size < (z14.alloc (.cells #[.slice none 0 0, .slice none 0 0, .slice none 0 0, .slice none 0 0] 28)).heap.size := by simp
          replace F1 := F1.step hs
          replace F0 := F0.step hs
          have hst := below_step hCl.below hCl.below.size hs
          have lo_F7 := hCl.below.size
          obtain ⟨z18, hz⟩ : ∃ v, z14.alloc (.cells #[.slice none 0 0, .slice none 0 0, .slice none 0 0, .slice none 0 0] 28) = v := ⟨_, rfl⟩
          have hz2 : z14.alloc (.cells #[.slice none 0 0, .slice none 0 0, .slice none 0 0, .slice none 0 0] 28) = z18 := hz
          rw [hz] at ⊢
          rw [hz2] at hst hlt F1 F0 F7
          have sz_z18 := hlt
          clear hz hz2 hs hlt
          have hCl := Cls.of hst
          refine hK.out (Cls w3) (fun _ h => h) hCl ?_
          clear hK K'
          refine wpAnyH_each (fuel := 7) [2] (by kernel_rfl) (by simp) (by kernel_rfl) ?_
          refine Each.cons _ rfl (fun K' hK => ?_) Each.nil
          go_simp
          refine (HC.out.1 _ _ _ _ _ _ F0.v F1.v).mono ?_
          rintro e z19 ⟨b2, u2, x2, y2, rfl, hm⟩
          have hs := hm.below
          obtain ⟨ab_t, cb_t, rfl, -, -, -, -⟩ := hm.store.v.1.1
          obtain ⟨au_t, cu_t, rfl, -, -, -, -⟩ := hm.store.v.1.2
          obtain ⟨ax_t, cx_t, rfl, -, -⟩ := hm.store.v.2.1.form rfl
          obtain ⟨ay_t, cy_t, rfl, -, -⟩ := hm.store.v.2.2.form rfl
          replace F1 := F1.step hs
          replace F0 := F0.step hs
          replace F7 := F7.step hs
          have F2 := LP.of hm
          have sz_z19 : z18.heap.size ≤ z19.heap.size := hs.size
          have hst := below_step hCl.below hCl.below.size hs
          clear hs
          have hCl := Cls.of hst
          refine hK.out (Cls w3) (fun _ h => h) hCl ?_
          clear hK K'
          refine wpAnyH_seg (fuel := 3) (by kernel_rfl) (fun _ d _ _ _ h => by cases d <;> exact h) hCl [3, 4, 5, 6] _ _ _ (by kernel_rfl) (by kernel_rfl) ?_
          simp only [opsOf_cons, opsOf_nil, consOp_some, List.getElem?_toArray, List.getElem?_cons_succ, List.getElem?_cons_zero]
          repeat (first | go_big_quiet_step (fail) | quiet_step (fail))
          refine wpQuiet_nil ?_
          refine wpAnyH_each (fuel := 2) [8] (by kernel_rfl) (by simp) (by kernel_rfl) ?_
          refine Each.cons _ rfl (fun K' hK => ?_) Each.nil
          have hcb := LK.blk F7
          have r0 := LK.cell F7 0
          have r1 := LK.cell F7 1
          have r2 := LK.cell F7 2
          have r3 := LK.cell F7 3
          simp at r0 r1 r2 r3
          have s0 := LK.frozen F7 0
          have s1 := LK.frozen F7 1
          have s2 := LK.frozen F7 2
          have s3 := LK.frozen F7 3
          go_simp
          have F8 : LK (z14.heap.size) (.cells #[.slice ab_t T.disk.blocks.length cb_t, .slice au_t T.disk.waits.length cu_t, .slice ax_t T.now.length cx_t, .slice ay_t T.last.length cy_t] 28) ((((z19.setCell ⟨z14.heap.size, 0, none⟩ (.slice ab_t T.disk.blocks.length cb_t)).setCell ⟨z14.heap.size, 1, none⟩ (.slice au_t T.disk.waits.length cu_t)).setCell ⟨z14.heap.size, 2, none⟩ (.slice ax_t T.now.length cx_t)).setCell ⟨z14.heap.size, 3, none⟩ (.slice ay_t T.last.length cy_t)) := LK.of (set_block (set_block (set_block (set_block hcb 0 _) 1 _) 2 _) 3 _)
          have hst := Below.trans hCl.below (below_four z19 (.slice ab_t T.disk.blocks.length cb_t) (.slice au_t T.disk.waits.length cu_t) (.slice ax_t T.now.length cx_t) (.slice ay_t T.last.length cy_t) lo_F7)
          have hfr : ∀ x, x < z19.heap.size → (x < z14.heap.size ∨ z14.heap.size + 1 ≤ x) → ((((z19.setCell ⟨z14.heap.size, 0, none⟩ (.slice ab_t T.disk.blocks.length cb_t)).setCell ⟨z14.heap.size, 1, none⟩ (.slice au_t T.disk.waits.length cu_t)).setCell ⟨z14.heap.size, 2, none⟩ (.slice ax_t T.now.length cx_t)).setCell ⟨z14.heap.size, 3, none⟩ (.slice ay_t T.last.length cy_t)).heap[x]? = z19.heap[x]? := fun x _ h => (set_other _ _ _ _ _ (by omega)).trans ((set_other _ _ _ _ _ (by omega)).trans ((set_other _ _ _ _ _ (by omega)).trans (set_other _ _ _ _ _ (by omega))))
          have F9 := F2.o.out (V' := ((((z19.setCell ⟨z14.heap.size, 0, none⟩ (.slice ab_t T.disk.blocks.length cb_t)).setCell ⟨z14.heap.size, 1, none⟩ (.slice au_t T.disk.waits.length cu_t)).setCell ⟨z14.heap.size, 2, none⟩ (.slice ax_t T.now.length cx_t)).setCell ⟨z14.heap.size, 3, none⟩ (.slice ay_t T.last.length cy_t))) (by simp only [World.size_setCell]; omega) hfr (by omega)
          have hCl := Cls.of hst
          refine hK.out (Cls w3) (fun _ h => h) hCl ?_
          clear hK K'
          refine wpAnyH_seg (fuel := 0) (by kernel_rfl) (fun _ d _ _ _ h => by cases d <;> exact h) hCl [9, 10] _ _ _ (by kernel_rfl) (by kernel_rfl) ?_
          simp only [opsOf_cons, opsOf_nil, consOp_some, List.getElem?_toArray, List.getElem?_cons_succ, List.getElem?_cons_zero]
          repeat (first | go_big_quiet_step (fail) | quiet_step (fail))
          refine wpQuiet_nil ?_
          refine wpAnyH_done (by kernel_rfl) ?_ _
          go_wp2
          go_meet
          exact ⟨_, _, _, _, _, _, _, rfl, rfl, rfl, F8, F9, hst⟩
        exact Each.nil
      refine Each.cons _ rfl (fun K' hK => ?_) ?_
      · go_simp
        have hs := cls_alloc hCl (.cells #[.slice none 0 0, .slice none 0 0, .slice none 0 0, .slice none 0 0] 28)
        have F7 : LK z13.heap.size (.cells #[.slice none 0 0, .slice none 0 0, .slice none 0 0, .slice none 0 0] 28) _ := cls_new hCl (.cells #[.slice none 0 0, .slice none 0 0, .slice none 0 0, .slice none 0 0] 28)
        have hlt : z13.heap.size < (z13.alloc (.cells #[.slice none 0 0, .slice none 0 0, .slice none 0 0, .slice none 0 0] 28)).heap.size := by simp
        replace F1 := F1.step hs
        have hst := below_step hCl.below hCl.below.size hs
        have lo_F7 := hCl.below.size
        obtain ⟨z21, hz⟩ : ∃ v, z13.alloc (.cells #[.slice none 0 0, .slice none 0 0, .slice none 0 0, .slice none 0 0] 28) = v := ⟨_, rfl⟩
        have hz2 : z13.alloc (.cells #[.slice none 0 0, .slice none 0 0, .slice none 0 0, .slice none 0 0] 28) = z21 := hz
        rw [hz] at ⊢
        rw [hz2] at hst hlt F1 F7
        have sz_z21 := hlt
        clear hz hz2 hs hlt
        have hCl := Cls.of hst
        refine hK.out (Cls w3) (fun _ h => h) hCl ?_
        clear hK K'
        refine wpAnyH_each (fuel := 8) [0] (by kernel_rfl) (by simp) (by kernel_rfl) ?_
        refine Each.cons _ rfl (fun K' hK => ?_) Each.nil
        go_simp
        refine (HC.out.2.1 _).mono ?_
        rintro e z22 ⟨b0, u0, x0, y0, rfl, hm⟩
        have hs := hm.below
        replace F1 := F1.step hs
        replace F7 := F7.step hs
        have F0 := (LP.of hm).o
        have sz_z22 : z21.heap.size ≤ z22.heap.size := hs.size
        have hst := below_step hCl.below hCl.below.size hs
        clear hs
        have hCl := Cls.of hst
        refine hK.out (Cls w3) (fun _ h => h) hCl ?_
        clear hK K'
        refine wpAnyH_each (fuel := 7) [2] (by kernel_rfl) (by simp) (by kernel_rfl) ?_
        refine Each.cons _ rfl (fun K' hK => ?_) Each.nil
        go_simp
        refine (HC.out.1 _ _ _ _ _ _ F0.v F1.v).mono ?_
        rintro e z23 ⟨b2, u2, x2, y2, rfl, hm⟩
        have hs := hm.below
        obtain ⟨ab_t, cb_t, rfl, -, -, -, -⟩ := hm.store.v.1.1
        obtain ⟨au_t, cu_t, rfl, -, -, -, -⟩ := hm.store.v.1.2
        obtain ⟨ax_t, cx_t, rfl, -, -⟩ := hm.store.v.2.1.form rfl
        obtain ⟨ay_t, cy_t, rfl, -, -⟩ := hm.store.v.2.2.form rfl
        replace F1 := F1.step hs
        replace F7 := F7.step hs
        replace F0 := F0.step hs
        have F2 := LP.of hm
        have sz_z23 : z22.heap.size ≤ z23.heap.size := hs.size
        have hst := below_step hCl.below hCl.below.size hs
        clear hs
        have hCl := Cls.of hst
        refine hK.out (Cls w3) (fun _ h => h) hCl ?_
        clear hK K'
        refine wpAnyH_seg (fuel := 3) (by kernel_rfl) (fun _ d _ _ _ h => by cases d <;> exact h) hCl [3, 4, 5, 6] _ _ _ (by kernel_rfl) (by kernel_rfl) ?_
        simp only [opsOf_cons, opsOf_nil, consOp_some, List.getElem?_toArray, List.getElem?_cons_succ, List.getElem?_cons_zero]
        repeat (first | go_big_quiet_step (fail) | quiet_step (fail))
        refine wpQuiet_nil ?_
        refine wpAnyH_each (fuel := 2) [8] (by kernel_rfl) (by simp) (by kernel_rfl) ?_
        refine Each.cons _ rfl (fun K' hK => ?_) Each.nil
        have hcb := LK.blk F7
        have r0 := LK.cell F7 0
        have r1 := LK.cell F7 1
        have r2 := LK.cell F7 2
        have r3 := LK.cell F7 3
        simp at r0 r1 r2 r3
        have s0 := LK.frozen F7 0
        have s1 := LK.frozen F7 1
        have s2 := LK.frozen F7 2
        have s3 := LK.frozen F7 3
        go_simp
        have F8 : LK (z13.heap.size) (.cells #[.slice ab_t T.disk.blocks.length cb_t, .slice au_t T.disk.waits.length cu_t, .slice ax_t T.now.length cx_t, .slice ay_t T.last.length cy_t] 28) ((((z23.setCell ⟨z13.heap.size, 0, none⟩ (.slice ab_t T.disk.blocks.length cb_t)).setCell ⟨z13.heap.size, 1, none⟩ (.slice au_t T.disk.waits.length cu_t)).setCell ⟨z13.heap.size, 2, none⟩ (.slice ax_t T.now.length cx_t)).setCell ⟨z13.heap.size, 3, none⟩ (.slice ay_t T.last.length cy_t)) := LK.of (set_block (set_block (set_block (set_block hcb 0 _) 1 _) 2 _) 3 _)
        have hst := Below.trans hCl.below (below_four z23 (.slice ab_t T.disk.blocks.length cb_t) (.slice au_t T.disk.waits.length cu_t) (.slice ax_t T.now.length cx_t) (.slice ay_t T.last.length cy_t) lo_F7)
        have hfr : ∀ x, x < z23.heap.size → (x < z13.heap.size ∨ z13.heap.size + 1 ≤ x) → ((((z23.setCell ⟨z13.heap.size, 0, none⟩ (.slice ab_t T.disk.blocks.length cb_t)).setCell ⟨z13.heap.size, 1, none⟩ (.slice au_t T.disk.waits.length cu_t)).setCell ⟨z13.heap.size, 2, none⟩ (.slice ax_t T.now.length cx_t)).setCell ⟨z13.heap.size, 3, none⟩ (.slice ay_t T.last.length cy_t)).heap[x]? = z23.heap[x]? := fun x _ h => (set_other _ _ _ _ _ (by omega)).trans ((set_other _ _ _ _ _ (by omega)).trans ((set_other _ _ _ _ _ (by omega)).trans (set_other _ _ _ _ _ (by omega))))
        have F9 := F2.o.out (V' := ((((z23.setCell ⟨z13.heap.size, 0, none⟩ (.slice ab_t T.disk.blocks.length cb_t)).setCell ⟨z13.heap.size, 1, none⟩ (.slice au_t T.disk.waits.length cu_t)).setCell ⟨z13.heap.size, 2, none⟩ (.slice ax_t T.now.length cx_t)).setCell ⟨z13.heap.size, 3, none⟩ (.slice ay_t T.last.length cy_t))) (by simp only [World.size_setCell]; omega) hfr (by omega)
        have hCl := Cls.of hst
        refine hK.out (Cls w3) (fun _ h => h) hCl ?_
        clear hK K'
        refine wpAnyH_seg (fuel := 0) (by kernel_rfl) (fun _ d _ _ _ h => by cases d <;> exact h) hCl [9, 10] _ _ _ (by kernel_rfl) (by kernel_rfl) ?_
        simp only [opsOf_cons, opsOf_nil, consOp_some, List.getElem?_toArray, List.getElem?_cons_succ, List.getElem?_cons_zero]
        repeat (first | go_big_quiet_step (fail) | quiet_step (fail))
        refine wpQuiet_nil ?_
        refine wpAnyH_done (by kernel_rfl) ?_ _
        go_wp2
        go_meet
        exact ⟨_, _, _, _, _, _, _, rfl, rfl, rfl, F8, F9, hst⟩
      exact Each.nil
    refine Each.cons _ rfl (fun K' hK => ?_) ?_
    · go_simp
      have hs := cls_alloc hCl (.cells #[.slice none 0 0, .slice none 0 0, .slice none 0 0, .slice none 0 0] 28)
      have F7 : LK w3.heap.size (.cells #[.slice none 0 0, .slice none 0 0, .slice none 0 0, .slice none 0 0] 28) _ := cls_new hCl (.cells #[.slice none 0 0, .slice none 0 0, .slice none 0 0, .slice none 0 0] 28)
      have hlt : w3.drew.heap.size < (w3.drew.alloc (.cells #[.slice none 0 0, .slice none 0 0, .slice none 0 0, .slice none 0 0] 28)).heap.size := by simp
      have hst := below_step hCl.below hCl.below.size hs
      have lo_F7 := hCl.below.size
      obtain ⟨z25, hz⟩ : ∃ v, (w3.alloc (.cells #[.slice none 0 0, .slice none 0 0, .slice none 0 0, .slice none 0 0] 28)).drew = v := ⟨_, rfl⟩
      have hz2 : w3.drew.alloc (.cells #[.slice none 0 0, .slice none 0 0, .slice none 0 0, .slice none 0 0] 28) = z25 := hz
      rw [hz] at ⊢
      rw [hz2] at hst hlt F7
      have sz_z25 := hlt
      clear hz hz2 hs hlt
      have hCl := Cls.of hst
      refine hK.out (Cls w3) (fun _ h => h) hCl ?_
      clear hK K'
      refine wpAnyH_each (fuel := 9) [0, 1] (by kernel_rfl) (by simp) (by kernel_rfl) ?_
      refine Each.cons _ rfl (fun K' hK => ?_) ?_
      · go_simp
        refine (HC.out.2.1 _).mono ?_
        rintro e z26 ⟨b0, u0, x0, y0, rfl, hm⟩
        have hs := hm.below
        replace F7 := F7.step hs
        have F0 := (LP.of hm).o
        have sz_z26 : z25.heap.size ≤ z26.heap.size := hs.size
        have hst := below_step hCl.below hCl.below.size hs
        clear hs
        have hCl := Cls.of hst
        refine hK.out (Cls w3) (fun _ h => h) hCl ?_
        clear hK K'
        refine wpAnyH_each (fuel := 8) [1] (by kernel_rfl) (by simp) (by kernel_rfl) ?_
        refine Each.cons _ rfl (fun K' hK => ?_) Each.nil
        go_simp
        have hs := cls_alloc hCl (.cells MC 5)
        have F1 := cls_at hCl HZN.out
        have hlt : z26.heap.size < (z26.alloc (.cells MC 5)).heap.size := by simp
        replace F7 := F7.step hs
        replace F0 := F0.step hs
        have hst := below_step hCl.below hCl.below.size hs
        have lo_F1 := hCl.below.size
        obtain ⟨z27, hz⟩ : ∃ v, z26.alloc (.cells MC 5) = v := ⟨_, rfl⟩
        have hz2 : z26.alloc (.cells MC 5) = z27 := hz
        rw [hz] at ⊢
        rw [hz2] at hst hlt F7 F0 F1
        have sz_z27 := hlt
        clear hz hz2 hs hlt
        have hCl := Cls.of hst
        refine hK.out (Cls w3) (fun _ h => h) hCl ?_
        clear hK K'
        refine wpAnyH_each (fuel := 7) [2] (by kernel_rfl) (by simp) (by kernel_rfl) ?_
        refine Each.cons _ rfl (fun K' hK => ?_) Each.nil
        go_simp
        refine (HC.out.1 _ _ _ _ _ _ F0.v F1.v).mono ?_
        rintro e z28 ⟨b2, u2, x2, y2, rfl, hm⟩
        have hs := hm.below
        obtain ⟨ab_t, cb_t, rfl, -, -, -, -⟩ := hm.store.v.1.1
        obtain ⟨au_t, cu_t, rfl, -, -, -, -⟩ := hm.store.v.1.2
        obtain ⟨ax_t, cx_t, rfl, -, -⟩ := hm.store.v.2.1.form rfl
        obtain ⟨ay_t, cy_t, rfl, -, -⟩ := hm.store.v.2.2.form rfl
        replace F7 := F7.step hs
        replace F0 := F0.step hs
        replace F1 := F1.step hs
        have F2 := LP.of hm
        have sz_z28 : z27.heap.size ≤ z28.heap.size := hs.size
        have hst := below_step hCl.below hCl.below.size hs
        clear hs
        have hCl := Cls.of hst
        refine hK.out (Cls w3) (fun _ h => h) hCl ?_
        clear hK K'
        refine wpAnyH_seg (fuel := 3) (by kernel_rfl) (fun _ d _ _ _ h => by cases d <;> exact h) hCl [3, 4, 5, 6] _ _ _ (by kernel_rfl) (by kernel_rfl) ?_
        simp only [opsOf_cons, opsOf_nil, consOp_some, List.getElem?_toArray, List.getElem?_cons_succ, List.getElem?_cons_zero]
        repeat (first | go_big_quiet_step (fail) | quiet_step (fail))
        refine wpQuiet_nil ?_
        refine wpAnyH_each (fuel := 2) [8] (by kernel_rfl) (by simp) (by kernel_rfl) ?_
        refine Each.cons _ rfl (fun K' hK => ?_) Each.nil
        have hcb := LK.blk F7
        have r0 := LK.cell F7 0
        have r1 := LK.cell F7 1
        have r2 := LK.cell F7 2
        have r3 := LK.cell F7 3
        simp at r0 r1 r2 r3
        have s0 := LK.frozen F7 0
        have s1 := LK.frozen F7 1
        have s2 := LK.frozen F7 2
        have s3 := LK.frozen F7 3
        go_simp
        have F8 : LK (w3.heap.size) (.cells #[.slice ab_t T.disk.blocks.length cb_t, .slice au_t T.disk.waits.length cu_t, .slice ax_t T.now.length cx_t, .slice ay_t T.last.length cy_t] 28) ((((z28.setCell ⟨w3.heap.size, 0, none⟩ (.slice ab_t T.disk.blocks.length cb_t)).setCell ⟨w3.heap.size, 1, none⟩ (.slice au_t T.disk.waits.length cu_t)).setCell ⟨w3.heap.size, 2, none⟩ (.slice ax_t T.now.length cx_t)).setCell ⟨w3.heap.size, 3, none⟩ (.slice ay_t T.last.length cy_t)) := LK.of (set_block (set_block (set_block (set_block hcb 0 _) 1 _) 2 _) 3 _)
        have hst := Below.trans hCl.below (below_four z28 (.slice ab_t T.disk.blocks.length cb_t) (.slice au_t T.disk.waits.length cu_t) (.slice ax_t T.now.length cx_t) (.slice ay_t T.last.length cy_t) lo_F7)
        have hfr : ∀ x, x < z28.heap.size → (x < w3.heap.size ∨ w3.heap.size + 1 ≤ x) → ((((z28.setCell ⟨w3.heap.size, 0, none⟩ (.slice ab_t T.disk.blocks.length cb_t)).setCell ⟨w3.heap.size, 1, none⟩ (.slice au_t T.disk.waits.length cu_t)).setCell ⟨w3.heap.size, 2, none⟩ (.slice ax_t T.now.length cx_t)).setCell ⟨w3.heap.size, 3, none⟩ (.slice ay_t T.last.length cy_t)).heap[x]? = z28.heap[x]? := fun x _ h => (set_other _ _ _ _ _ (by omega)).trans ((set_other _ _ _ _ _ (by omega)).trans ((set_other _ _ _ _ _ (by omega)).trans (set_other _ _ _ _ _ (by omega))))
        have F9 := F2.o.out (V' := ((((z28.setCell ⟨w3.heap.size, 0, none⟩ (.slice ab_t T.disk.blocks.length cb_t)).setCell ⟨w3.heap.size, 1, none⟩ (.slice au_t T.disk.waits.length cu_t)).setCell ⟨w3.heap.size, 2, none⟩ (.slice ax_t T.now.length cx_t)).setCell ⟨w3.heap.size, 3, none⟩ (.slice ay_t T.last.length cy_t))) (by simp only [World.size_setCell]; omega) hfr (by omega)
        have hCl := Cls.of hst
        refine hK.out (Cls w3) (fun _ h => h) hCl ?_
        clear hK K'
        refine wpAnyH_seg (fuel := 0) (by kernel_rfl) (fun _ d _ _ _ h => by cases d <;> exact h) hCl [9, 10] _ _ _ (by kernel_rfl) (by kernel_rfl) ?_
        simp only [opsOf_cons, opsOf_nil, consOp_some, List.getElem?_toArray, List.getElem?_cons_succ, List.getElem?_cons_zero]
        repeat (first | go_big_quiet_step (fail) | quiet_step (fail))
        refine wpQuiet_nil ?_
        refine wpAnyH_done (by kernel_rfl) ?_ _
        go_wp2
        go_meet
        exact ⟨_, _, _, _, _, _, _, rfl, rfl, rfl, F8, F9, hst⟩
      refine Each.cons _ rfl (fun K' hK => ?_) ?_
      · go_simp
        have hs := cls_alloc hCl (.cells MC 5)
        have F1 := cls_at hCl HZN.out
        have hlt : z25.heap.size < (z25.alloc (.cells MC 5)).heap.size := by simp
        replace F7 := F7.step hs
        have hst := below_step hCl.below hCl.below.size hs
        have lo_F1 := hCl.below.size
        obtain ⟨z30, hz⟩ : ∃ v, z25.alloc (.cells MC 5) = v := ⟨_, rfl⟩
        have hz2 : z25.alloc (.cells MC 5) = z30 := hz
        rw [hz] at ⊢
        rw [hz2] at hst hlt F7 F1
        have sz_z30 := hlt
        clear hz hz2 hs hlt
        have hCl := Cls.of hst
        refine hK.out (Cls w3) (fun _ h => h) hCl ?_
        clear hK K'
        refine wpAnyH_each (fuel := 8) [0] (by kernel_rfl) (by simp) (by kernel_rfl) ?_
        refine Each.cons _ rfl (fun K' hK => ?_) Each.nil
        go_simp
        refine (HC.out.2.1 _).mono ?_
        rintro e z31 ⟨b0, u0, x0, y0, rfl, hm⟩
        have hs := hm.below
        replace F7 := F7.step hs
        replace F1 := F1.step hs
        have F0 := (LP.of hm).o
        have sz_z31 : z30.heap.size ≤ z31.heap.size := hs.size
        have hst := below_step hCl.below hCl.below.size hs
        clear hs
        have hCl := Cls.of hst
        refine hK.out (Cls w3) (fun _ h => h) hCl ?_
        clear hK K'
        refine wpAnyH_each (fuel := 7) [2] (by kernel_rfl) (by simp) (by kernel_rfl) ?_
        refine Each.cons _ rfl (fun K' hK => ?_) Each.nil
        go_simp
        refine (HC.out.1 _ _ _ _ _ _ F0.v F1.v).mono ?_
        rintro e z32 ⟨b2, u2, x2, y2, rfl, hm⟩
        have hs := hm.below
        obtain ⟨ab_t, cb_t, rfl, -, -, -, -⟩ := hm.store.v.1.1
        obtain ⟨au_t, cu_t, rfl, -, -, -, -⟩ := hm.store.v.1.2
        obtain ⟨ax_t, cx_t, rfl, -, -⟩ := hm.store.v.2.1.form rfl
        obtain ⟨ay_t, cy_t, rfl, -, -⟩ := hm.store.v.2.2.form rfl
        replace F7 := F7.step hs
        replace F1 := F1.step hs
        replace F0 := F0.step hs
        have F2 := LP.of hm
        have sz_z32 : z31.heap.size ≤ z32.heap.size := hs.size
        have hst := below_step hCl.below hCl.below.size hs
        clear hs
        have hCl := Cls.of hst
        refine hK.out (Cls w3) (fun _ h => h) hCl ?_
        clear hK K'
        refine wpAnyH_seg (fuel := 3) (by kernel_rfl) (fun _ d _ _ _ h => by cases d <;> exact h) hCl [3, 4, 5, 6] _ _ _ (by kernel_rfl) (by kernel_rfl) ?_
        simp only [opsOf_cons, opsOf_nil, consOp_some, List.getElem?_toArray, List.getElem?_cons_succ, List.getElem?_cons_zero]
        repeat (first | go_big_quiet_step (fail) | quiet_step (fail))
        refine wpQuiet_nil ?_
        refine wpAnyH_each (fuel := 2) [8] (by kernel_rfl) (by simp) (by kernel_rfl) ?_
        refine Each.cons _ rfl (fun K' hK => ?_) Each.nil
        have hcb := LK.blk F7
        have r0 := LK.cell F7 0
        have r1 := LK.cell F7 1
        have r2 := LK.cell F7 2
        have r3 := LK.cell F7 3
        simp at r0 r1 r2 r3
        have s0 := LK.frozen F7 0
        have s1 := LK.frozen F7 1
        have s2 := LK.frozen F7 2
        have s3 := LK.frozen F7 3
        go_simp
        have F8 : LK (w3.heap.size) (.cells #[.slice ab_t T.disk.blocks.length cb_t, .slice au_t T.disk.waits.length cu_t, .slice ax_t T.now.length cx_t, .slice ay_t T.last.length cy_t] 28) ((((z32.setCell ⟨w3.heap.size, 0, none⟩ (.slice ab_t T.disk.blocks.length cb_t)).setCell ⟨w3.heap.size, 1, none⟩ (.slice au_t T.disk.waits.length cu_t)).setCell ⟨w3.heap.size, 2, none⟩ (.slice ax_t T.now.length cx_t)).setCell ⟨w3.heap.size, 3, none⟩ (.slice ay_t T.last.length cy_t)) := LK.of (set_block (set_block (set_block (set_block hcb 0 _) 1 _) 2 _) 3 _)
        have hst := Below.trans hCl.below (below_four z32 (.slice ab_t T.disk.blocks.length cb_t) (.slice au_t T.disk.waits.length cu_t) (.slice ax_t T.now.length cx_t) (.slice ay_t T.last.length cy_t) lo_F7)
        have hfr : ∀ x, x < z32.heap.size → (x < w3.heap.size ∨ w3.heap.size + 1 ≤ x) → ((((z32.setCell ⟨w3.heap.size, 0, none⟩ (.slice ab_t T.disk.blocks.length cb_t)).setCell ⟨w3.heap.size, 1, none⟩ (.slice au_t T.disk.waits.length cu_t)).setCell ⟨w3.heap.size, 2, none⟩ (.slice ax_t T.now.length cx_t)).setCell ⟨w3.heap.size, 3, none⟩ (.slice ay_t T.last.length cy_t)).heap[x]? = z32.heap[x]? := fun x _ h => (set_other _ _ _ _ _ (by omega)).trans ((set_other _ _ _ _ _ (by omega)).trans ((set_other _ _ _ _ _ (by omega)).trans (set_other _ _ _ _ _ (by omega))))
        have F9 := F2.o.out (V' := ((((z32.setCell ⟨w3.heap.size, 0, none⟩ (.slice ab_t T.disk.blocks.length cb_t)).setCell ⟨w3.heap.size, 1, none⟩ (.slice au_t T.disk.waits.length cu_t)).setCell ⟨w3.heap.size, 2, none⟩ (.slice ax_t T.now.length cx_t)).setCell ⟨w3.heap.size, 3, none⟩ (.slice ay_t T.last.length cy_t))) (by simp only [World.size_setCell]; omega) hfr (by omega)
        have hCl := Cls.of hst
        refine hK.out (Cls w3) (fun _ h => h) hCl ?_
        clear hK K'
        refine wpAnyH_seg (fuel := 0) (by kernel_rfl) (fun _ d _ _ _ h => by cases d <;> exact h) hCl [9, 10] _ _ _ (by kernel_rfl) (by kernel_rfl) ?_
        simp only [opsOf_cons, opsOf_nil, consOp_some, List.getElem?_toArray, List.getElem?_cons_succ, List.getElem?_cons_zero]
        repeat (first | go_big_quiet_step (fail) | quiet_step (fail))
        refine wpQuiet_nil ?_
        refine wpAnyH_done (by kernel_rfl) ?_ _
        go_wp2
        go_meet
        exact ⟨_, _, _, _, _, _, _, rfl, rfl, rfl, F8, F9, hst⟩
      exact Each.nil
    exact Each.nil
  case rest =>
  obtain ⟨gT, lo, hi, bT, uT, xT, yT, rfl, rfl, rfl, q_T, O_T, hst⟩ := hcut
  obtain ⟨S_f, hB⟩ := HQ.out
  clear HQ
  replace S_f := S_f.step hst
  replace hB := hB.step hst
  obtain ⟨wc, hwc⟩ := named_w hst
  subst hwc
  clear hst
  have HQ := Lib.hid (And.intro S_f (And.intro q_T (And.intro O_T hB)))
  clear S_f q_T O_T hB
  have c_q_T0 := LK.cell HQ.out.2.1 0
  have c_q_T1 := LK.cell HQ.out.2.1 1
  have c_q_T2 := LK.cell HQ.out.2.1 2
  have c_q_T3 := LK.cell HQ.out.2.1 3
  simp at c_q_T0 c_q_T1 c_q_T2 c_q_T3
  go_wp2_with fail
  refine (HC.out.2.2.2.1 _ _ _ _ _ HQ.out.2.2.1.v).mono ?_
  rintro e w4 ⟨v_g, rfl, hS, hst⟩
  clear c_q_T0 c_q_T1 c_q_T2 c_q_T3
  obtain ⟨S_f, q_T, O_T, hB⟩ := HQ.out
  clear HQ
  have S_g := LS.of hS (Nat.le_refl _)
  obtain ⟨a_g, c_g, rfl, -, -, -, -⟩ := hS
  rw [HL.out.2.2.1] at S_g ⊢
  clear O_T q_T
  have sz_w4 : wc.heap.size ≤ w4.heap.size := hst.size
  replace S_f := S_f.step hst
  replace hB := hB.step hst
  clear hst
  have HQ := Lib.hid (And.intro S_f (And.intro S_g hB))
  clear S_f S_g hB
  go_wp2_with fail
  refine (HC.out.2.1 _).mono ?_
  rintro e w5 ⟨b_2, u_2, x_2, y_2, rfl, hm⟩
  obtain ⟨S_f, S_g, hB⟩ := HQ.out
  clear HQ
  have P_2 := LP.of hm
  have hst := hm.below
  clear hm
  have sz_w5 : w4.heap.size ≤ w5.heap.size := hst.size
  replace S_f := S_f.step hst
  replace S_g := S_g.step hst
  replace hB := hB.step hst
  clear hst
  have HQ := Lib.hid (And.intro S_f (And.intro S_g (And.intro P_2 hB)))
  clear S_f S_g P_2 hB
  go_wp2_with fail
  refine (HC.out.2.2.2.2.1 _ _ _ _ _ HQ.out.2.2.1.v).mono ?_
  rintro e w6 ⟨b1, u1, x1, y1, rfl, hm⟩
  obtain ⟨S_f, S_g, P_2, hB⟩ := HQ.out
  clear HQ
  have P_v2 := LP.of hm
  have hst := hm.below
  obtain ⟨ab_v2, cb_v2, rfl, -, -, -, -⟩ := hm.store.v.1.1
  obtain ⟨au_v2, cu_v2, rfl, -, -, -, -⟩ := hm.store.v.1.2
  obtain ⟨ax_v2, cx_v2, rfl, -, -⟩ := hm.store.v.2.1.form rfl
  obtain ⟨ay_v2, cy_v2, rfl, -, -⟩ := hm.store.v.2.2.form rfl
  clear hm
  clear P_2
  have sz_w6 : w5.heap.size ≤ w6.heap.size := hst.size
  replace S_f := S_f.step hst
  replace S_g := S_g.step hst
  replace hB := hB.step hst
  clear hst
  have HQ := Lib.hid (And.intro S_f (And.intro S_g (And.intro P_v2 hB)))
  clear S_f S_g P_v2 hB
  go_upto_region 7 with (fail)
  obtain ⟨S_f, S_g, P_v2, hB⟩ := HQ.out
  clear HQ
  have hst := (Below.refl w6.heap.size w6).alloc (Nat.le_refl _) (.cells #[.slice ab_v2 noS.disk.blocks.length cb_v2, .slice au_v2 noS.disk.waits.length cu_v2, .slice ax_v2 noS.now.length cx_v2, .slice ay_v2 noS.last.length cy_v2] 28)
  have hlt : w6.heap.size < (w6.alloc (.cells #[.slice ab_v2 noS.disk.blocks.length cb_v2, .slice au_v2 noS.disk.waits.length cu_v2, .slice ax_v2 noS.now.length cx_v2, .slice ay_v2 noS.last.length cy_v2] 28)).heap.size := by simp
  have q_v2 := LK.new w6 (.cells #[.slice ab_v2 noS.disk.blocks.length cb_v2, .slice au_v2 noS.disk.waits.length cu_v2, .slice ax_v2 noS.now.length cx_v2, .slice ay_v2 noS.last.length cy_v2] 28)
  replace S_f := S_f.step hst
  replace S_g := S_g.step hst
  replace P_v2 := P_v2.step hst
  replace hB := hB.step hst
  obtain ⟨w7, hw⟩ : ∃ v, w6.alloc (.cells #[.slice ab_v2 noS.disk.blocks.length cb_v2, .slice au_v2 noS.disk.waits.length cu_v2, .slice ax_v2 noS.now.length cx_v2, .slice ay_v2 noS.last.length cy_v2] 28) = v := ⟨_, rfl⟩
  rw [hw] at hlt q_v2 S_f S_g P_v2 hB ⊢
  clear hw hst
  have sz_w7 := hlt
  clear hlt
  have HQ := Lib.hid (And.intro S_f (And.intro S_g (And.intro P_v2 (And.intro q_v2 hB))))
  clear S_f S_g P_v2 q_v2 hB
  go_wp2_with fail
  refine (HC.out.2.1 _).mono ?_
  rintro e w8 ⟨b_3, u_3, x_3, y_3, rfl, hm⟩
  obtain ⟨S_f, S_g, P_v2, q_v2, hB⟩ := HQ.out
  clear HQ
  have P_3 := LP.of hm
  have hst := hm.below
  clear hm
  have sz_w8 : w7.heap.size ≤ w8.heap.size := hst.size
  replace S_f := S_f.step hst
  replace S_g := S_g.step hst
  replace P_v2 := P_v2.step hst
  replace q_v2 := q_v2.step hst
  replace hB := hB.step hst
  clear hst
  have HQ := Lib.hid (And.intro S_f (And.intro S_g (And.intro P_v2 (And.intro q_v2 (And.intro P_3 hB)))))
  clear S_f S_g P_v2 q_v2 P_3 hB
  go_wp2_with fail
  refine (HC.out.2.2.2.2.2.2.1 _ _ _ _ _ HQ.out.2.2.2.2.1.v).mono ?_
  rintro e w9 ⟨rfl, hst⟩
  obtain ⟨S_f, S_g, P_v2, q_v2, P_3, hB⟩ := HQ.out
  clear HQ
  clear P_3
  have sz_w9 : w8.heap.size ≤ w9.heap.size := hst.size
  replace S_f := S_f.step hst
  replace S_g := S_g.step hst
  replace P_v2 := P_v2.step hst
  replace q_v2 := q_v2.step hst
  replace hB := hB.step hst
  clear hst
  have HQ := Lib.hid (And.intro S_f (And.intro S_g (And.intro P_v2 (And.intro q_v2 hB))))
  clear S_f S_g P_v2 q_v2 hB
  go_upto_region 8 with (fail)
  obtain ⟨S_f, S_g, P_v2, q_v2, hB⟩ := HQ.out
  clear HQ
  have hst := (Below.refl w9.heap.size w9).alloc (Nat.le_refl _) (.cells #[.int .i64 0, .slice none 0 0] 50)
  have hlt : w9.heap.size < (w9.alloc (.cells #[.int .i64 0, .slice none 0 0] 50)).heap.size := by simp
  have q_n := LK.new w9 (.cells #[.int .i64 0, .slice none 0 0] 50)
  replace S_f := S_f.step hst
  replace S_g := S_g.step hst
  replace P_v2 := P_v2.step hst
  replace q_v2 := q_v2.step hst
  replace hB := hB.step hst
  obtain ⟨w10, hw⟩ : ∃ v, w9.alloc (.cells #[.int .i64 0, .slice none 0 0] 50) = v := ⟨_, rfl⟩
  rw [hw] at hlt q_n S_f S_g P_v2 q_v2 hB ⊢
  clear hw hst
  have sz_w10 := hlt
  clear hlt
  have HQ := Lib.hid (And.intro S_f (And.intro S_g (And.intro P_v2 (And.intro q_v2 (And.intro q_n hB)))))
  clear S_f S_g P_v2 q_v2 q_n hB
  go_wp2_with fail
  refine (HC.out.2.1 _).mono ?_
  rintro e w11 ⟨b_4, u_4, x_4, y_4, rfl, hm⟩
  obtain ⟨S_f, S_g, P_v2, q_v2, q_n, hB⟩ := HQ.out
  clear HQ
  have P_4 := LP.of hm
  have hst := hm.below
  clear hm
  have sz_w11 : w10.heap.size ≤ w11.heap.size := hst.size
  replace S_f := S_f.step hst
  replace S_g := S_g.step hst
  replace P_v2 := P_v2.step hst
  replace q_v2 := q_v2.step hst
  replace q_n := q_n.step hst
  replace hB := hB.step hst
  clear hst
  have HQ := Lib.hid (And.intro S_f (And.intro S_g (And.intro P_v2 (And.intro q_v2 (And.intro q_n (And.intro P_4 hB))))))
  clear S_f S_g P_v2 q_v2 q_n P_4 hB
  go_wp2_with fail
  refine (HC.out.2.2.2.2.2.1 _ _ _ _ _ HQ.out.2.2.2.2.2.1.v).mono ?_
  rintro e w12 ⟨b2, u2, x2, y2, rfl, hm⟩
  obtain ⟨S_f, S_g, P_v2, q_v2, q_n, P_4, hB⟩ := HQ.out
  clear HQ
  have P_v4 := LP.of hm
  have hst := hm.below
  obtain ⟨ab_v4, cb_v4, rfl, -, -, -, -⟩ := hm.store.v.1.1
  obtain ⟨au_v4, cu_v4, rfl, -, -, -, -⟩ := hm.store.v.1.2
  obtain ⟨ax_v4, cx_v4, rfl, -, -⟩ := hm.store.v.2.1.form rfl
  obtain ⟨ay_v4, cy_v4, rfl, -, -⟩ := hm.store.v.2.2.form rfl
  clear hm
  clear P_4
  have sz_w12 : w11.heap.size ≤ w12.heap.size := hst.size
  replace S_f := S_f.step hst
  replace S_g := S_g.step hst
  replace P_v2 := P_v2.step hst
  replace q_v2 := q_v2.step hst
  replace q_n := q_n.step hst
  replace hB := hB.step hst
  clear hst
  have HQ := Lib.hid (And.intro S_f (And.intro S_g (And.intro P_v2 (And.intro q_v2 (And.intro q_n (And.intro P_v4 hB))))))
  clear S_f S_g P_v2 q_v2 q_n P_v4 hB
  go_upto_region 9 with (fail)
  obtain ⟨S_f, S_g, P_v2, q_v2, q_n, P_v4, hB⟩ := HQ.out
  clear HQ
  have hst := (Below.refl w12.heap.size w12).alloc (Nat.le_refl _) (.cells #[.slice ab_v4 noS.disk.blocks.length cb_v4, .slice au_v4 noS.disk.waits.length cu_v4, .slice ax_v4 noS.now.length cx_v4, .slice ay_v4 noS.last.length cy_v4] 28)
  have hlt : w12.heap.size < (w12.alloc (.cells #[.slice ab_v4 noS.disk.blocks.length cb_v4, .slice au_v4 noS.disk.waits.length cu_v4, .slice ax_v4 noS.now.length cx_v4, .slice ay_v4 noS.last.length cy_v4] 28)).heap.size := by simp
  have q_v4 := LK.new w12 (.cells #[.slice ab_v4 noS.disk.blocks.length cb_v4, .slice au_v4 noS.disk.waits.length cu_v4, .slice ax_v4 noS.now.length cx_v4, .slice ay_v4 noS.last.length cy_v4] 28)
  replace S_f := S_f.step hst
  replace S_g := S_g.step hst
  replace P_v2 := P_v2.step hst
  replace q_v2 := q_v2.step hst
  replace q_n := q_n.step hst
  replace P_v4 := P_v4.step hst
  replace hB := hB.step hst
  obtain ⟨w13, hw⟩ : ∃ v, w12.alloc (.cells #[.slice ab_v4 noS.disk.blocks.length cb_v4, .slice au_v4 noS.disk.waits.length cu_v4, .slice ax_v4 noS.now.length cx_v4, .slice ay_v4 noS.last.length cy_v4] 28) = v := ⟨_, rfl⟩
  rw [hw] at hlt q_v4 S_f S_g P_v2 q_v2 q_n P_v4 hB ⊢
  clear hw hst
  have sz_w13 := hlt
  clear hlt
  have HQ := Lib.hid (And.intro S_f (And.intro S_g (And.intro P_v2 (And.intro q_v2 (And.intro q_n (And.intro P_v4 (And.intro q_v4 hB)))))))
  clear S_f S_g P_v2 q_v2 q_n P_v4 q_v4 hB
  go_wp2_with fail
  refine (HC.out.2.1 _).mono ?_
  rintro e w14 ⟨b_5, u_5, x_5, y_5, rfl, hm⟩
  obtain ⟨S_f, S_g, P_v2, q_v2, q_n, P_v4, q_v4, hB⟩ := HQ.out
  clear HQ
  have P_5 := LP.of hm
  have hst := hm.below
  clear hm
  have sz_w14 : w13.heap.size ≤ w14.heap.size := hst.size
  replace S_f := S_f.step hst
  replace S_g := S_g.step hst
  replace P_v2 := P_v2.step hst
  replace q_v2 := q_v2.step hst
  replace q_n := q_n.step hst
  replace P_v4 := P_v4.step hst
  replace q_v4 := q_v4.step hst
  replace hB := hB.step hst
  clear hst
  have HQ := Lib.hid (And.intro S_f (And.intro S_g (And.intro P_v2 (And.intro q_v2 (And.intro q_n (And.intro P_v4 (And.intro q_v4 (And.intro P_5 hB))))))))
  clear S_f S_g P_v2 q_v2 q_n P_v4 q_v4 P_5 hB
  go_wp2_with fail
  refine (HC.out.2.2.2.2.2.2.2 _ _ _ _ _ HQ.out.2.2.2.2.2.2.2.1.v).mono ?_
  rintro e w15 ⟨b3, u3, x3, y3, rfl, hm⟩
  obtain ⟨S_f, S_g, P_v2, q_v2, q_n, P_v4, q_v4, P_5, hB⟩ := HQ.out
  clear HQ
  have P_v5 := LP.of hm
  have hst := hm.below
  obtain ⟨ab_v5, cb_v5, rfl, -, -, -, -⟩ := hm.store.v.1.1
  obtain ⟨au_v5, cu_v5, rfl, -, -, -, -⟩ := hm.store.v.1.2
  obtain ⟨ax_v5, cx_v5, rfl, -, -⟩ := hm.store.v.2.1.form rfl
  obtain ⟨ay_v5, cy_v5, rfl, -, -⟩ := hm.store.v.2.2.form rfl
  clear hm
  clear P_5
  have sz_w15 : w14.heap.size ≤ w15.heap.size := hst.size
  replace S_f := S_f.step hst
  replace S_g := S_g.step hst
  replace P_v2 := P_v2.step hst
  replace q_v2 := q_v2.step hst
  replace q_n := q_n.step hst
  replace P_v4 := P_v4.step hst
  replace q_v4 := q_v4.step hst
  replace hB := hB.step hst
  clear hst
  have HQ := Lib.hid (And.intro S_f (And.intro S_g (And.intro P_v2 (And.intro q_v2 (And.intro q_n (And.intro P_v4 (And.intro q_v4 (And.intro P_v5 hB))))))))
  clear S_f S_g P_v2 q_v2 q_n P_v4 q_v4 P_v5 hB
  go_upto_region 10 with (fail)
  obtain ⟨S_f, S_g, P_v2, q_v2, q_n, P_v4, q_v4, P_v5, hB⟩ := HQ.out
  clear HQ
  have hst := (Below.refl w15.heap.size w15).alloc (Nat.le_refl _) (.cells #[.slice ab_v5 noS.disk.blocks.length cb_v5, .slice au_v5 noS.disk.waits.length cu_v5, .slice ax_v5 noS.now.length cx_v5, .slice ay_v5 noS.last.length cy_v5] 28)
  have hlt : w15.heap.size < (w15.alloc (.cells #[.slice ab_v5 noS.disk.blocks.length cb_v5, .slice au_v5 noS.disk.waits.length cu_v5, .slice ax_v5 noS.now.length cx_v5, .slice ay_v5 noS.last.length cy_v5] 28)).heap.size := by simp
  have q_v5 := LK.new w15 (.cells #[.slice ab_v5 noS.disk.blocks.length cb_v5, .slice au_v5 noS.disk.waits.length cu_v5, .slice ax_v5 noS.now.length cx_v5, .slice ay_v5 noS.last.length cy_v5] 28)
  replace S_f := S_f.step hst
  replace S_g := S_g.step hst
  replace P_v2 := P_v2.step hst
  replace q_v2 := q_v2.step hst
  replace q_n := q_n.step hst
  replace P_v4 := P_v4.step hst
  replace q_v4 := q_v4.step hst
  replace P_v5 := P_v5.step hst
  replace hB := hB.step hst
  obtain ⟨w16, hw⟩ : ∃ v, w15.alloc (.cells #[.slice ab_v5 noS.disk.blocks.length cb_v5, .slice au_v5 noS.disk.waits.length cu_v5, .slice ax_v5 noS.now.length cx_v5, .slice ay_v5 noS.last.length cy_v5] 28) = v := ⟨_, rfl⟩
  rw [hw] at hlt q_v5 S_f S_g P_v2 q_v2 q_n P_v4 q_v4 P_v5 hB ⊢
  clear hw hst
  have sz_w16 := hlt
  clear hlt
  have HQ := Lib.hid (And.intro S_f (And.intro S_g (And.intro P_v2 (And.intro q_v2 (And.intro q_n (And.intro P_v4 (And.intro q_v4 (And.intro P_v5 (And.intro q_v5 hB)))))))))
  clear S_f S_g P_v2 q_v2 q_n P_v4 q_v4 P_v5 q_v5 hB
  obtain ⟨fb, ff, fc, e1, -, zf, yf, xf, hcf⟩ := HQ.out.1.v.at_ (by have := HL.out.1; omega)
  injection e1 with e1 el e2
  subst e1 e2
  clear el
  have n1 := (hcf 0 8 HL.out.2.1).1
  obtain ⟨gb, gf, gc, e1, -, zg, yg, xg, hcg⟩ := HQ.out.2.1.v.at_ (by have := HL.out.2.2.1; omega)
  injection e1 with e1 el e2
  subst e1 e2
  clear el
  have n2 := (hcg 0 9 HL.out.2.2.2).1
  simp [rInt] at n1 n2
  unfold maxLen at xf xg
  have hl1 := HL.out.1
  have hl2 := HL.out.2.2.1
  rw [hl1] at yf
  rw [hl2] at yg
  clear hcf hcg hl1 hl2
  go_wp2
  go_ret
  exact ⟨rfl, HQ.out.2.2.2.2.2.2.2.2.2⟩

end Go.Proofs.Ytbddbadmfhplmaa

