/- CountTables: the words and contracts, part 17. -/
import Derived.Test.YthealkfpflkipaaCountTablesQ1
import Derived.Test.YthealkfpflkipaaCountTablesQ2
import Derived.Test.YthealkfpflkipaaCountTablesQ3
import Derived.Test.YthealkfpflkipaaCountTablesQ4
import Derived.Test.YthealkfpflkipaaCountTablesQ5
import Derived.Test.YthealkfpflkipaaCountTablesQ6
import Derived.Test.YthealkfpflkipaaCountTablesQ7
import Derived.Test.YthealkfpflkipaaCountTablesQ8
import Derived.Test.YthealkfpflkipaaCountTablesQ9
import Derived.Test.YthealkfpflkipaaCountTablesQ10
import Derived.Test.YthealkfpflkipaaCountTablesQ11
import Derived.Test.YthealkfpflkipaaCountTablesQ12
import Derived.Test.YthealkfpflkipaaCountTablesQ13
import Derived.Test.YthealkfpflkipaaCountTablesQ14
import Derived.Test.YthealkfpflkipaaCountTablesQ15
import Derived.Test.YthealkfpflkipaaCountTablesQ16
import Derived.WalkKit
import Derived.WalkLawsBesides
import Derived.WalkSpells
import Derived.Lib.Hide
import Derived.Laws.Rows
import Derived.Laws.AppendOwnNone
import Derived.Maps.AppendAt
import Derived.ProofKit
import Derived.Deep.Slices
import Derived.WideShapes
import Derived.RangeFuncNested
import Derived.RangeFuncBound
import Derived.RangeFuncCalls
import Derived.RangeFuncLeaves
import Derived.RangeFuncBox
import Derived.Shelf.Abstract
import Derived.Shelf.RegionOpen
import Derived.OwnWalkIn
import Derived.TacticsInMore
import Derived.LoopNIn
import Derived.LoopIn
import Derived.Lib.AppendZerosOnto
import Derived.Lib.SliceRun
import Derived.Lib.Walk
import Derived.Deep.LoopGhost
import Derived.Laws.CopyOwn
import Derived.OrdersHeld
import Derived.Deep.QuietTactic
import Derived.BigQuiet
import Derived.StillTailTactics
import Derived.OpenShut
import Derived.Deep.DeepCutAuto
import Derived.Laws.CopyRow
import Derived.Laws.MakeOwn
import Derived.Deep.RegionHeld
import Derived.KernelRfl
import Derived.BigFrameIn
namespace Go.Proofs.Ythealkfpflkipaa
open Go.RowKit

set_option linter.unusedSimpArgs false
theorem LT.spC {V : World} {lo hi : Nat} {b u : Value} {d : DiskL} (h : LT lo hi b u d V) : SpS 1 0 V lo hi b d.blocks.length ∧ SpS 2 1 V lo hi u d.waits.length := ⟨SpS.of_b h.t.1, SpS.of_w h.t.2⟩
set_option maxRecDepth 100000 in
set_option maxHeartbeats 3000000 in
theorem countTables_walk (v_t : Value) (t : List UInt8) (p : Int) (d : DiskL) (b_d u_d : Value) (s : Int) (w : World) (h_t : Bytes w 0 w.heap.size v_t t) (_wp : (Lit.int .i64 p).wf = true) (h_d : DiskV w 0 w.heap.size b_d u_d d) (_ws : (Lit.int .i64 s).wf = true) :
    Calls Try.prog 3 #[v_t, .int .i64 p, .agg #[b_d, u_d], .int .i64 s] w fun e w' => e = .returned (.bool true) ∧ Below w.heap.size w w' := by
  obtain ⟨a_t, c_t, rfl, g_t, gm_t⟩ := h_t.form rfl
  unfold maxLen at gm_t
  obtain ⟨ab_d, cb_d, rfl, gb_d, gc_d, -, -⟩ := h_d.1
  obtain ⟨au_d, cu_d, rfl, gu_d, gv_d, -, -⟩ := h_d.2
  unfold maxLen at gc_d gv_d
  have hst := ((Below.refl w.heap.size w).alloc (Nat.le_refl _) (.cells #[.slice ab_d d.blocks.length cb_d, .slice au_d d.waits.length cu_d] 26))
  have q_d := LK.new w (.cells #[.slice ab_d d.blocks.length cb_d, .slice au_d d.waits.length cu_d] 26)
  have hB : LW w _ := hst
  have B_t := (LB.of h_t (Nat.le_refl _)).step hst
  have D_d := (LD.of h_d (Nat.le_refl _)).step hst
  have sz_V : w.heap.size + 0 < (w.alloc (.cells #[.slice ab_d d.blocks.length cb_d, .slice au_d d.waits.length cu_d] 26)).heap.size := by simp
  obtain ⟨V, hV⟩ : ∃ V, (w.alloc (.cells #[.slice ab_d d.blocks.length cb_d, .slice au_d d.waits.length cu_d] 26)) = V := ⟨_, rfl⟩
  rw [hV] at sz_V q_d B_t D_d hB
  clear hst h_t h_d
  have HQ := Lib.hid (And.intro q_d (And.intro B_t (And.intro D_d hB)))
  clear q_d B_t D_d hB
  have c_q_d0 := LK.cell HQ.out.1 0
  have c_q_d1 := LK.cell HQ.out.1 1
  simp at c_q_d0 c_q_d1
  have k_g := fun V b u hh => great_any b u d V hh
  have k_tw := fun V b u hh h1 h2 h3 => rdtwin_new b u d V hh h1 h2 h3
  have k_u1 := fun V v hh => cup_any v t p V hh
  have k_u2 := fun V v hh => rupt_any v t p V hh
  have k_n1 := fun V v hh => cdown_any v t p V hh
  have k_n2 := fun V v hh => rdownt_any v t p V hh
  have k_s1 := fun V v hh => csum_any v t V hh
  have k_s2 := fun V v hh => rsumt_any v t V hh
  have k_w1 := fun V b u v hh h2 => cwrite_any b u d s v t V hh h2
  have k_w2 := fun V b u v hh h2 => rcwrite_any d b u s v t V hh h2
  have k_r1 := fun V b u hh => cread_any b u d s V hh
  have k_r2 := fun V b u hh => rcread_any d b u s V hh
  have k_c1 := fun V v hh => ccheck_any v t V hh
  have k_c2 := fun V v hh => rcheckt_any v t V hh
  have k_x := fun V b u b2 u2 h1 h2 => rdsame_any b u b2 u2 (outX d s t) (outX d s t) V h1 h2
  have k_o := fun V b u b2 u2 h1 h2 => rdsame_any b u b2 u2 d d V h1 h2
  have k_1 := fun V => cnew_any V
  have k_2 := fun V => rnewt_any V
  simp only [decide_true] at k_x k_o
  have hck : (if mayT t then (0 : Int) else 8) = errU t := rfl
  rw [hck] at k_c1
  clear hck
  generalize outT t p 1 255 = A at *
  generalize errT t p 255 = ea at *
  generalize outT t p 255 0 = G at *
  generalize errT t p 0 = eg at *
  unfold u32v at k_s1 k_s2
  generalize ((sumT t).toNat : Int) = S at *
  generalize errU t = eu at *
  generalize outX d s t = WD at *
  generalize errX d s t = ex at *
  generalize readT d s = RT at *
  generalize errR d s = er at *
  generalize List.replicate 256 (0 : UInt8) = Z at *
  have HC := Lib.hid (And.intro k_g (And.intro k_tw (And.intro k_u1 (And.intro k_u2 (And.intro k_n1 (And.intro k_n2 (And.intro k_s1 (And.intro k_s2 (And.intro k_w1 (And.intro k_w2 (And.intro k_r1 (And.intro k_r2 (And.intro k_c1 (And.intro k_c2 (And.intro k_x (And.intro k_o (And.intro k_1 k_2)))))))))))))))))
  clear k_g k_tw k_u1 k_u2 k_n1 k_n2 k_s1 k_s2 k_w1 k_w2 k_r1 k_r2 k_c1 k_c2 k_x k_o k_1 k_2
  go_enter Try.func3, Try.ntmps3
  go_upto_region 1 with (fail)
  clear hV
  by_cases hl : 10000 < t.length
  · have i1 : (10000 : Int) < t.length := by omega
    go_wp2
    go_ret
    exact ⟨rfl, HQ.out.2.2.2⟩
  have i1 : ¬ (10000 : Int) < t.length := by omega
  go_wp2_with fail
  refine (HC.out.1 _ _ _ HQ.out.2.2.1.v).mono ?_
  rintro e w1 ⟨g, rfl, hst, hg1⟩
  clear c_q_d0 c_q_d1
  obtain ⟨q_d, B_t, D_d, hB⟩ := HQ.out
  clear HQ
  have sz_w1 : V.heap.size ≤ w1.heap.size := hst.size
  replace q_d := q_d.step hst
  replace B_t := B_t.step hst
  replace D_d := D_d.step hst
  replace hB := hB.step hst
  clear hst
  have HQ := Lib.hid (And.intro q_d (And.intro B_t (And.intro D_d hB)))
  clear q_d B_t D_d hB
  have c_q_d0 := LK.cell HQ.out.1 0
  have c_q_d1 := LK.cell HQ.out.1 1
  simp at c_q_d0 c_q_d1
  cases g
  case true =>
    go_wp2
    go_ret
    exact ⟨rfl, HQ.out.2.2.2⟩
  obtain ⟨hn1, hn2, hn3⟩ := hg1 rfl
  clear hg1
  go_upto_region 3 with (fail)
  go_cut [9, 10] (fun t1 t2 wx => ∃ (g l1 h1 l2 h2 : Nat) (a0 a1 a2 : Option Addr) (c0 c1 c2 : Nat), t1 = .slice a0 t.length c0 ∧ t2 = .pointer (some ⟨g, 0, none⟩) ∧ LK g (.cells #[.slice a1 d.blocks.length c1, .slice a2 d.waits.length c2] 26) wx ∧ LB l1 h1 (.slice a0 t.length c0) t wx ∧ LD l2 h2 (.slice a1 d.blocks.length c1) (.slice a2 d.waits.length c2) d wx ∧ Below w1.heap.size w1 wx)
  case first =>
    clear c_q_d0 c_q_d1
    have x_d0 := fun X => LK.cell (HQ.out.1.step (aft_below w1 X)) 0
    have x_d1 := fun X => LK.cell (HQ.out.1.step (aft_below w1 X)) 1
    simp at x_d0 x_d1
    refine wp_region_held_drew (S := Cls w1) (by kernel_rfl) (Cls.drew w1) (fun hCl => ?_)
    refine wpAnyH_seg (fuel := 5) (by kernel_rfl) (fun _ d _ _ _ h => by cases d <;> exact h) hCl [0, 2] _ _ _ (by kernel_rfl) (by kernel_rfl) ?_
    simp only [opsOf_cons, opsOf_nil, consOp_some, List.getElem?_toArray, List.getElem?_cons_succ, List.getElem?_cons_zero]
    repeat (first | go_big_quiet_step (fail) | quiet_step (fail))
    refine wpQuiet_nil ?_
    refine wpAnyH_each (fuel := 4) [1, 4] (by kernel_rfl) (by simp) (by kernel_rfl) ?_
    refine Each.cons _ rfl (fun K' hK => ?_) ?_
    · refine if_yes (by kernel_rfl) ?_
      refine wp_appB (.const (.slice none 0 0)) (.tmp 42) 22 rfl 5 Try.underlying22 info_u8 (w1.drew).heap.size (.slice none 0 0) [] rfl (OwnB.nil_ _ _ _) 0 (w1.drew).heap.size _ t rfl (HQ.out.2.1.step hCl.below).v (by show 0 + t.length ≤ _; omega) (Nat.le_refl _) ?_
      intro v1 z1 hown hs _hf
      rw [List.nil_append] at hown
      have hm := OwnB.made hown hs
      obtain ⟨a0, c0, rfl, -, -⟩ := hm.bytes.form rfl
      have F1 := (LM.of hm).b
      have sz_z1 : (w1.drew).heap.size ≤ z1.heap.size := hs.size
      have hst := below_step hCl.below hCl.below.size hs
      clear hs hm hown _hf
      have hCl := Cls.of hst
      refine hK.out (Cls w1) (fun _ h => h) hCl ?_
      clear hK K'
      refine wpAnyH_each (fuel := 3) [3, 4] (by kernel_rfl) (by simp) (by kernel_rfl) ?_
      refine Each.cons _ rfl (fun K' hK => ?_) ?_
      · go_simp
        refine (HC.out.2.1 _ _ _ (HQ.out.2.2.1.step hCl.below).v (by omega) (by omega) (by omega)).mono ?_
        rintro e z2 ⟨b1, u1, rfl, hdv, hs⟩
        replace F1 := F1.step hs
        have F3 := LD.of hdv (Nat.le_refl _)
        obtain ⟨a1, c1, rfl, -, -, -, -⟩ := id hdv.1
        obtain ⟨a2, c2, rfl, -, -, -, -⟩ := id hdv.2
        have sz_z2 : (z1).heap.size ≤ z2.heap.size := hs.size
        have hst := below_step hCl.below hCl.below.size hs
        clear hs hdv
        have hCl := Cls.of hst
        refine hK.out (Cls w1) (fun _ h => h) hCl ?_
        clear hK K'
        refine wpAnyH_each (fuel := 2) [4] (by kernel_rfl) (by simp) (by kernel_rfl) ?_
        refine Each.cons _ rfl (fun K' hK => ?_) Each.nil
        go_simp
        have hs := cls_allocT hCl (.cells #[.slice none 0 0, .slice none 0 0] 26)
        have F4 : LK z2.heap.size (.cells #[.slice none 0 0, .slice none 0 0] 26) _ := cls_newT hCl (.cells #[.slice none 0 0, .slice none 0 0] 26)
        have hlt : z2.heap.size < (z2.alloc (.cells #[.slice none 0 0, .slice none 0 0] 26)).heap.size := by simp
        replace F1 := F1.step hs
        replace F3 := F3.step hs
        have hst := below_step hCl.below hCl.below.size hs
        have lo_F4 := hCl.below.size
        obtain ⟨z3, hz⟩ : ∃ v, z2.alloc (.cells #[.slice none 0 0, .slice none 0 0] 26) = v := ⟨_, rfl⟩
        have hz2 : z2.alloc (.cells #[.slice none 0 0, .slice none 0 0] 26) = z3 := hz
        rw [hz] at ⊢
        rw [hz2] at hst hlt F1 F3 F4
        have sz_z3 := hlt
        clear hz hz2 hs hlt
        have hCl := Cls.of hst
        refine hK.out (Cls w1) (fun _ h => h) hCl ?_
        clear hK K'
        refine wpAnyH_seg (fuel := 1) (by kernel_rfl) (fun _ d _ _ _ h => by cases d <;> exact h) hCl [5] _ _ _ (by kernel_rfl) (by kernel_rfl) ?_
        simp only [opsOf_cons, opsOf_nil, consOp_some, List.getElem?_toArray, List.getElem?_cons_succ, List.getElem?_cons_zero]
        repeat (first | go_big_quiet_step (fail) | quiet_step (fail))
        refine wpQuiet_nil ?_
        refine wpAnyH_each (fuel := 0) [6] (by kernel_rfl) (by simp) (by kernel_rfl) ?_
        refine Each.cons _ rfl (fun K' hK => ?_) Each.nil
        have hcb := LK.blk F4
        have r0 := LK.cell F4 0
        have r1 := LK.cell F4 1
        simp at r0 r1
        have s0_ := LK.frozen F4 0
        have s1_ := LK.frozen F4 1
        go_simp
        have F6 : LK (z2.heap.size) (.cells #[.slice a1 d.blocks.length c1, .slice a2 d.waits.length c2] 26) ((z3.setCell ⟨z2.heap.size, 0, none⟩ (.slice a1 d.blocks.length c1)).setCell ⟨z2.heap.size, 1, none⟩ (.slice a2 d.waits.length c2)) := LK.of (set_block (set_block hcb 0 _) 1 _)
        have hfr : ∀ x, x < z3.heap.size → (x < z2.heap.size ∨ z2.heap.size + 1 ≤ x) → ((z3.setCell ⟨z2.heap.size, 0, none⟩ (.slice a1 d.blocks.length c1)).setCell ⟨z2.heap.size, 1, none⟩ (.slice a2 d.waits.length c2)).heap[x]? = z3.heap[x]? := fun x _ h => (set_other _ _ _ _ _ (by omega)).trans (set_other _ _ _ _ _ (by omega))
        have F7 := LB.out (V' := ((z3.setCell ⟨z2.heap.size, 0, none⟩ (.slice a1 d.blocks.length c1)).setCell ⟨z2.heap.size, 1, none⟩ (.slice a2 d.waits.length c2))) F1 (by simp only [World.size_setCell]; omega) hfr (by omega)
        have F8 := LD.out (V' := ((z3.setCell ⟨z2.heap.size, 0, none⟩ (.slice a1 d.blocks.length c1)).setCell ⟨z2.heap.size, 1, none⟩ (.slice a2 d.waits.length c2))) F3 (by simp only [World.size_setCell]; omega) hfr (by omega)
        have hst := Below.trans hCl.below (((Below.refl (z2.heap.size) z3).setCell (p := ⟨z2.heap.size, 0, none⟩) (Nat.le_refl _) (.slice a1 d.blocks.length c1)).setCell (p := ⟨z2.heap.size, 1, none⟩) (Nat.le_refl _) (.slice a2 d.waits.length c2) |>.mono lo_F4)
        have hCl := Cls.of hst
        refine hK.out (Cls w1) (fun _ h => h) hCl ?_
        clear hK K'
        refine wpAnyH_done (by kernel_rfl) ?_ _
        go_wp2
        go_meet
        exact ⟨_, _, _, _, _, _, _, _, _, _, _, rfl, rfl, F6, F7, F8, hst⟩
      refine Each.cons _ rfl (fun K' hK => ?_) ?_
      · go_simp
        have hs := cls_allocT hCl (.cells #[.slice none 0 0, .slice none 0 0] 26)
        have F4 : LK z1.heap.size (.cells #[.slice none 0 0, .slice none 0 0] 26) _ := cls_newT hCl (.cells #[.slice none 0 0, .slice none 0 0] 26)
        have hlt : z1.heap.size < (z1.alloc (.cells #[.slice none 0 0, .slice none 0 0] 26)).heap.size := by simp
        replace F1 := F1.step hs
        have hst := below_step hCl.below hCl.below.size hs
        have lo_F4 := hCl.below.size
        obtain ⟨z5, hz⟩ : ∃ v, z1.alloc (.cells #[.slice none 0 0, .slice none 0 0] 26) = v := ⟨_, rfl⟩
        have hz2 : z1.alloc (.cells #[.slice none 0 0, .slice none 0 0] 26) = z5 := hz
        rw [hz] at ⊢
        rw [hz2] at hst hlt F1 F4
        have sz_z5 := hlt
        clear hz hz2 hs hlt
        have hCl := Cls.of hst
        refine hK.out (Cls w1) (fun _ h => h) hCl ?_
        clear hK K'
        refine wpAnyH_each (fuel := 2) [3] (by kernel_rfl) (by simp) (by kernel_rfl) ?_
        refine Each.cons _ rfl (fun K' hK => ?_) Each.nil
        go_simp
        refine (HC.out.2.1 _ _ _ (HQ.out.2.2.1.step hCl.below).v (by omega) (by omega) (by omega)).mono ?_
        rintro e z6 ⟨b1, u1, rfl, hdv, hs⟩
        replace F1 := F1.step hs
        replace F4 := F4.step hs
        have F3 := LD.of hdv (Nat.le_refl _)
        obtain ⟨a1, c1, rfl, -, -, -, -⟩ := id hdv.1
        obtain ⟨a2, c2, rfl, -, -, -, -⟩ := id hdv.2
        have sz_z6 : (z5).heap.size ≤ z6.heap.size := hs.size
        have hst := below_step hCl.below hCl.below.size hs
        clear hs hdv
        have hCl := Cls.of hst
        refine hK.out (Cls w1) (fun _ h => h) hCl ?_
        clear hK K'
        refine wpAnyH_seg (fuel := 1) (by kernel_rfl) (fun _ d _ _ _ h => by cases d <;> exact h) hCl [5] _ _ _ (by kernel_rfl) (by kernel_rfl) ?_
        simp only [opsOf_cons, opsOf_nil, consOp_some, List.getElem?_toArray, List.getElem?_cons_succ, List.getElem?_cons_zero]
        repeat (first | go_big_quiet_step (fail) | quiet_step (fail))
        refine wpQuiet_nil ?_
        refine wpAnyH_each (fuel := 0) [6] (by kernel_rfl) (by simp) (by kernel_rfl) ?_
        refine Each.cons _ rfl (fun K' hK => ?_) Each.nil
        have hcb := LK.blk F4
        have r0 := LK.cell F4 0
        have r1 := LK.cell F4 1
        simp at r0 r1
        have s0_ := LK.frozen F4 0
        have s1_ := LK.frozen F4 1
        go_simp
        have F6 : LK (z1.heap.size) (.cells #[.slice a1 d.blocks.length c1, .slice a2 d.waits.length c2] 26) ((z6.setCell ⟨z1.heap.size, 0, none⟩ (.slice a1 d.blocks.length c1)).setCell ⟨z1.heap.size, 1, none⟩ (.slice a2 d.waits.length c2)) := LK.of (set_block (set_block hcb 0 _) 1 _)
        have hfr : ∀ x, x < z6.heap.size → (x < z1.heap.size ∨ z1.heap.size + 1 ≤ x) → ((z6.setCell ⟨z1.heap.size, 0, none⟩ (.slice a1 d.blocks.length c1)).setCell ⟨z1.heap.size, 1, none⟩ (.slice a2 d.waits.length c2)).heap[x]? = z6.heap[x]? := fun x _ h => (set_other _ _ _ _ _ (by omega)).trans (set_other _ _ _ _ _ (by omega))
        have F7 := LB.out (V' := ((z6.setCell ⟨z1.heap.size, 0, none⟩ (.slice a1 d.blocks.length c1)).setCell ⟨z1.heap.size, 1, none⟩ (.slice a2 d.waits.length c2))) F1 (by simp only [World.size_setCell]; omega) hfr (by omega)
        have F8 := LD.out (V' := ((z6.setCell ⟨z1.heap.size, 0, none⟩ (.slice a1 d.blocks.length c1)).setCell ⟨z1.heap.size, 1, none⟩ (.slice a2 d.waits.length c2))) F3 (by simp only [World.size_setCell]; omega) hfr (by omega)
        have hst := Below.trans hCl.below (((Below.refl (z1.heap.size) z6).setCell (p := ⟨z1.heap.size, 0, none⟩) (Nat.le_refl _) (.slice a1 d.blocks.length c1)).setCell (p := ⟨z1.heap.size, 1, none⟩) (Nat.le_refl _) (.slice a2 d.waits.length c2) |>.mono lo_F4)
        have hCl := Cls.of hst
        refine hK.out (Cls w1) (fun _ h => h) hCl ?_
        clear hK K'
        refine wpAnyH_done (by kernel_rfl) ?_ _
        go_wp2
        go_meet
        exact ⟨_, _, _, _, _, _, _, _, _, _, _, rfl, rfl, F6, F7, F8, hst⟩
      exact Each.nil
    refine Each.cons _ rfl (fun K' hK => ?_) ?_
    · go_simp
      have hs := cls_allocT hCl (.cells #[.slice none 0 0, .slice none 0 0] 26)
      have F4 : LK w1.heap.size (.cells #[.slice none 0 0, .slice none 0 0] 26) _ := cls_newT hCl (.cells #[.slice none 0 0, .slice none 0 0] 26)
      have hlt : w1.drew.heap.size < (w1.drew.alloc (.cells #[.slice none 0 0, .slice none 0 0] 26)).heap.size := by simp
      have hst := below_step hCl.below hCl.below.size hs
      have lo_F4 := hCl.below.size
      obtain ⟨z8, hz⟩ : ∃ v, (w1.alloc (.cells #[.slice none 0 0, .slice none 0 0] 26)).drew = v := ⟨_, rfl⟩
      have hz2 : w1.drew.alloc (.cells #[.slice none 0 0, .slice none 0 0] 26) = z8 := hz
      rw [hz] at ⊢
      rw [hz2] at hst hlt F4
      have sz_z8 := hlt
      clear hz hz2 hs hlt
      have hCl := Cls.of hst
      refine hK.out (Cls w1) (fun _ h => h) hCl ?_
      clear hK K'
      refine wpAnyH_each (fuel := 3) [1] (by kernel_rfl) (by simp) (by kernel_rfl) ?_
      refine Each.cons _ rfl (fun K' hK => ?_) Each.nil
      refine if_yes (by kernel_rfl) ?_
      refine wp_appB (.const (.slice none 0 0)) (.tmp 42) 22 rfl 5 Try.underlying22 info_u8 (z8).heap.size (.slice none 0 0) [] rfl (OwnB.nil_ _ _ _) 0 (z8).heap.size _ t rfl (HQ.out.2.1.step hCl.below).v (by show 0 + t.length ≤ _; omega) (Nat.le_refl _) ?_
      intro v1 z9 hown hs _hf
      rw [List.nil_append] at hown
      have hm := OwnB.made hown hs
      obtain ⟨a0, c0, rfl, -, -⟩ := hm.bytes.form rfl
      replace F4 := F4.step hs
      have F1 := (LM.of hm).b
      have sz_z9 : (z8).heap.size ≤ z9.heap.size := hs.size
      have hst := below_step hCl.below hCl.below.size hs
      clear hs hm hown _hf
      have hCl := Cls.of hst
      refine hK.out (Cls w1) (fun _ h => h) hCl ?_
      clear hK K'
      refine wpAnyH_each (fuel := 2) [3] (by kernel_rfl) (by simp) (by kernel_rfl) ?_
      refine Each.cons _ rfl (fun K' hK => ?_) Each.nil
      go_simp
      refine (HC.out.2.1 _ _ _ (HQ.out.2.2.1.step hCl.below).v (by omega) (by omega) (by omega)).mono ?_
      rintro e z10 ⟨b1, u1, rfl, hdv, hs⟩
      replace F4 := F4.step hs
      replace F1 := F1.step hs
      have F3 := LD.of hdv (Nat.le_refl _)
      obtain ⟨a1, c1, rfl, -, -, -, -⟩ := id hdv.1
      obtain ⟨a2, c2, rfl, -, -, -, -⟩ := id hdv.2
      have sz_z10 : (z9).heap.size ≤ z10.heap.size := hs.size
      have hst := below_step hCl.below hCl.below.size hs
      clear hs hdv
      have hCl := Cls.of hst
      refine hK.out (Cls w1) (fun _ h => h) hCl ?_
      clear hK K'
      refine wpAnyH_seg (fuel := 1) (by kernel_rfl) (fun _ d _ _ _ h => by cases d <;> exact h) hCl [5] _ _ _ (by kernel_rfl) (by kernel_rfl) ?_
      simp only [opsOf_cons, opsOf_nil, consOp_some, List.getElem?_toArray, List.getElem?_cons_succ, List.getElem?_cons_zero]
      repeat (first | go_big_quiet_step (fail) | quiet_step (fail))
      refine wpQuiet_nil ?_
      refine wpAnyH_each (fuel := 0) [6] (by kernel_rfl) (by simp) (by kernel_rfl) ?_
      refine Each.cons _ rfl (fun K' hK => ?_) Each.nil
      have hcb := LK.blk F4
      have r0 := LK.cell F4 0
      have r1 := LK.cell F4 1
      simp at r0 r1
      have s0_ := LK.frozen F4 0
      have s1_ := LK.frozen F4 1
      go_simp
      have F6 : LK (w1.heap.size) (.cells #[.slice a1 d.blocks.length c1, .slice a2 d.waits.length c2] 26) ((z10.setCell ⟨w1.heap.size, 0, none⟩ (.slice a1 d.blocks.length c1)).setCell ⟨w1.heap.size, 1, none⟩ (.slice a2 d.waits.length c2)) := LK.of (set_block (set_block hcb 0 _) 1 _)
      have hfr : ∀ x, x < z10.heap.size → (x < w1.heap.size ∨ w1.heap.size + 1 ≤ x) → ((z10.setCell ⟨w1.heap.size, 0, none⟩ (.slice a1 d.blocks.length c1)).setCell ⟨w1.heap.size, 1, none⟩ (.slice a2 d.waits.length c2)).heap[x]? = z10.heap[x]? := fun x _ h => (set_other _ _ _ _ _ (by omega)).trans (set_other _ _ _ _ _ (by omega))
      have F7 := LB.out (V' := ((z10.setCell ⟨w1.heap.size, 0, none⟩ (.slice a1 d.blocks.length c1)).setCell ⟨w1.heap.size, 1, none⟩ (.slice a2 d.waits.length c2))) F1 (by simp only [World.size_setCell]; omega) hfr (by omega)
      have F8 := LD.out (V' := ((z10.setCell ⟨w1.heap.size, 0, none⟩ (.slice a1 d.blocks.length c1)).setCell ⟨w1.heap.size, 1, none⟩ (.slice a2 d.waits.length c2))) F3 (by simp only [World.size_setCell]; omega) hfr (by omega)
      have hst := Below.trans hCl.below (((Below.refl (w1.heap.size) z10).setCell (p := ⟨w1.heap.size, 0, none⟩) (Nat.le_refl _) (.slice a1 d.blocks.length c1)).setCell (p := ⟨w1.heap.size, 1, none⟩) (Nat.le_refl _) (.slice a2 d.waits.length c2) |>.mono lo_F4)
      have hCl := Cls.of hst
      refine hK.out (Cls w1) (fun _ h => h) hCl ?_
      clear hK K'
      refine wpAnyH_done (by kernel_rfl) ?_ _
      go_wp2
      go_meet
      exact ⟨_, _, _, _, _, _, _, _, _, _, _, rfl, rfl, F6, F7, F8, hst⟩
    exact Each.nil
  case rest =>
  obtain ⟨go, l1, h1, l2, h2, a_own, ab_o, au_o, c_own, cb_o, cu_o, rfl, rfl, q_o, B_o, D_o, hst⟩ := hcut
  obtain ⟨wn, hwn⟩ := named_w hst
  subst hwn
  obtain ⟨wq, hwn⟩ : ∃ v, v = wn := ⟨_, rfl⟩
  subst hwn
  clear c_q_d0 c_q_d1
  obtain ⟨q_d, B_t, D_d, hB⟩ := HQ.out
  clear HQ
  have sz_wq : w1.heap.size ≤ wq.heap.size := hst.size
  have hh1 := Lv.hi_le B_o
  have hh2 := Lv.hi_le D_o
  have hgo := LK.lt q_o
  replace q_d := q_d.step hst
  replace B_t := B_t.step hst
  replace D_d := D_d.step hst
  replace hB := hB.step hst
  clear hst hn1 hn2 hn3
  have HQ := Lib.hid (And.intro q_d (And.intro B_t (And.intro D_d (And.intro q_o (And.intro B_o (And.intro D_o hB))))))
  clear q_d B_t D_d q_o B_o D_o hB
  have c_q_d0 := LK.cell HQ.out.1 0
  have c_q_d1 := LK.cell HQ.out.1 1
  have c_q_o0 := LK.cell HQ.out.2.2.2.1 0
  have c_q_o1 := LK.cell HQ.out.2.2.2.1 1
  simp at c_q_d0 c_q_d1 c_q_o0 c_q_o1
  go_wp2_with fail
  refine (HC.out.2.2.1 _ _ HQ.out.2.2.2.2.1.v).mono ?_
  rintro e w2 ⟨v_a, rfl, hm⟩
  clear c_q_d0 c_q_d1 c_q_o0 c_q_o1
  obtain ⟨q_d, B_t, D_d, q_o, B_o, D_o, hB⟩ := HQ.out
  clear HQ
  have B_a := LM.of hm
  have hst := hm.below
  obtain ⟨ar_a, cr_a, rfl, -, -⟩ := hm.bytes.form rfl
  clear hm
  have sz_w2 : wq.heap.size ≤ w2.heap.size := hst.size
  replace q_d := q_d.step hst
  replace B_t := B_t.step hst
  replace D_d := D_d.step hst
  replace q_o := q_o.step hst
  replace B_o := B_o.step hst
  replace D_o := D_o.step hst
  replace hB := hB.step hst
  clear hst
  have HQ := Lib.hid (And.intro q_d (And.intro B_t (And.intro D_d (And.intro q_o (And.intro B_o (And.intro D_o (And.intro B_a hB)))))))
  clear q_d B_t D_d q_o B_o D_o B_a hB
  have c_q_d0 := LK.cell HQ.out.1 0
  have c_q_d1 := LK.cell HQ.out.1 1
  have c_q_o0 := LK.cell HQ.out.2.2.2.1 0
  have c_q_o1 := LK.cell HQ.out.2.2.2.1 1
  simp at c_q_d0 c_q_d1 c_q_o0 c_q_o1
  go_wp2_with fail
  refine (HC.out.2.2.2.1 _ _ HQ.out.2.1.v).mono ?_
  rintro e w3 ⟨v_b, rfl, hm⟩
  clear c_q_d0 c_q_d1 c_q_o0 c_q_o1
  obtain ⟨q_d, B_t, D_d, q_o, B_o, D_o, B_a, hB⟩ := HQ.out
  clear HQ
  have B_b := LM.of hm
  have hst := hm.below
  obtain ⟨ar_b, cr_b, rfl, -, -⟩ := hm.bytes.form rfl
  clear hm
  have sz_w3 : w2.heap.size ≤ w3.heap.size := hst.size
  replace q_d := q_d.step hst
  replace B_t := B_t.step hst
  replace D_d := D_d.step hst
  replace q_o := q_o.step hst
  replace B_o := B_o.step hst
  replace D_o := D_o.step hst
  replace B_a := B_a.step hst
  replace hB := hB.step hst
  clear hst
  have HQ := Lib.hid (And.intro q_d (And.intro B_t (And.intro D_d (And.intro q_o (And.intro B_o (And.intro D_o (And.intro B_a (And.intro B_b hB))))))))
  clear q_d B_t D_d q_o B_o D_o B_a B_b hB
  have c_q_d0 := LK.cell HQ.out.1 0
  have c_q_d1 := LK.cell HQ.out.1 1
  have c_q_o0 := LK.cell HQ.out.2.2.2.1 0
  have c_q_o1 := LK.cell HQ.out.2.2.2.1 1
  simp at c_q_d0 c_q_d1 c_q_o0 c_q_o1
  go_wp2_with fail
  refine (HC.out.2.2.2.2.1 _ _ HQ.out.2.2.2.2.1.v).mono ?_
  rintro e w4 ⟨v_c, rfl, hm⟩
  clear c_q_d0 c_q_d1 c_q_o0 c_q_o1
  obtain ⟨q_d, B_t, D_d, q_o, B_o, D_o, B_a, B_b, hB⟩ := HQ.out
  clear HQ
  have B_c := LM.of hm
  have hst := hm.below
  obtain ⟨ar_c, cr_c, rfl, -, -⟩ := hm.bytes.form rfl
  clear hm
  have sz_w4 : w3.heap.size ≤ w4.heap.size := hst.size
  replace q_d := q_d.step hst
  replace B_t := B_t.step hst
  replace D_d := D_d.step hst
  replace q_o := q_o.step hst
  replace B_o := B_o.step hst
  replace D_o := D_o.step hst
  replace B_a := B_a.step hst
  replace B_b := B_b.step hst
  replace hB := hB.step hst
  clear hst
  have HQ := Lib.hid (And.intro q_d (And.intro B_t (And.intro D_d (And.intro q_o (And.intro B_o (And.intro D_o (And.intro B_a (And.intro B_b (And.intro B_c hB)))))))))
  clear q_d B_t D_d q_o B_o D_o B_a B_b B_c hB
  have c_q_d0 := LK.cell HQ.out.1 0
  have c_q_d1 := LK.cell HQ.out.1 1
  have c_q_o0 := LK.cell HQ.out.2.2.2.1 0
  have c_q_o1 := LK.cell HQ.out.2.2.2.1 1
  simp at c_q_d0 c_q_d1 c_q_o0 c_q_o1
  go_wp2_with fail
  refine (HC.out.2.2.2.2.2.1 _ _ HQ.out.2.1.v).mono ?_
  rintro e w5 ⟨v_g, rfl, hm⟩
  clear c_q_d0 c_q_d1 c_q_o0 c_q_o1
  obtain ⟨q_d, B_t, D_d, q_o, B_o, D_o, B_a, B_b, B_c, hB⟩ := HQ.out
  clear HQ
  have B_g := LM.of hm
  have hst := hm.below
  obtain ⟨ar_g, cr_g, rfl, -, -⟩ := hm.bytes.form rfl
  clear hm
  have sz_w5 : w4.heap.size ≤ w5.heap.size := hst.size
  replace q_d := q_d.step hst
  replace B_t := B_t.step hst
  replace D_d := D_d.step hst
  replace q_o := q_o.step hst
  replace B_o := B_o.step hst
  replace D_o := D_o.step hst
  replace B_a := B_a.step hst
  replace B_b := B_b.step hst
  replace B_c := B_c.step hst
  replace hB := hB.step hst
  clear hst
  have HQ := Lib.hid (And.intro q_d (And.intro B_t (And.intro D_d (And.intro q_o (And.intro B_o (And.intro D_o (And.intro B_a (And.intro B_b (And.intro B_c (And.intro B_g hB))))))))))
  clear q_d B_t D_d q_o B_o D_o B_a B_b B_c B_g hB
  have c_q_d0 := LK.cell HQ.out.1 0
  have c_q_d1 := LK.cell HQ.out.1 1
  have c_q_o0 := LK.cell HQ.out.2.2.2.1 0
  have c_q_o1 := LK.cell HQ.out.2.2.2.1 1
  simp at c_q_d0 c_q_d1 c_q_o0 c_q_o1
  go_wp2_with fail
  refine (HC.out.2.2.2.2.2.2.1 _ _ HQ.out.2.2.2.2.1.v).mono ?_
  rintro e w6 ⟨rfl, hst⟩
  clear c_q_d0 c_q_d1 c_q_o0 c_q_o1
  obtain ⟨q_d, B_t, D_d, q_o, B_o, D_o, B_a, B_b, B_c, B_g, hB⟩ := HQ.out
  clear HQ
  have sz_w6 : w5.heap.size ≤ w6.heap.size := hst.size
  replace q_d := q_d.step hst
  replace B_t := B_t.step hst
  replace D_d := D_d.step hst
  replace q_o := q_o.step hst
  replace B_o := B_o.step hst
  replace D_o := D_o.step hst
  replace B_a := B_a.step hst
  replace B_b := B_b.step hst
  replace B_c := B_c.step hst
  replace B_g := B_g.step hst
  replace hB := hB.step hst
  clear hst
  have HQ := Lib.hid (And.intro q_d (And.intro B_t (And.intro D_d (And.intro q_o (And.intro B_o (And.intro D_o (And.intro B_a (And.intro B_b (And.intro B_c (And.intro B_g hB))))))))))
  clear q_d B_t D_d q_o B_o D_o B_a B_b B_c B_g hB
  have c_q_d0 := LK.cell HQ.out.1 0
  have c_q_d1 := LK.cell HQ.out.1 1
  have c_q_o0 := LK.cell HQ.out.2.2.2.1 0
  have c_q_o1 := LK.cell HQ.out.2.2.2.1 1
  simp at c_q_d0 c_q_d1 c_q_o0 c_q_o1
  go_wp2_with fail
  refine (HC.out.2.2.2.2.2.2.2.1 _ _ HQ.out.2.1.v).mono ?_
  rintro e w7 ⟨rfl, hst⟩
  clear c_q_d0 c_q_d1 c_q_o0 c_q_o1
  obtain ⟨q_d, B_t, D_d, q_o, B_o, D_o, B_a, B_b, B_c, B_g, hB⟩ := HQ.out
  clear HQ
  have sz_w7 : w6.heap.size ≤ w7.heap.size := hst.size
  replace q_d := q_d.step hst
  replace B_t := B_t.step hst
  replace D_d := D_d.step hst
  replace q_o := q_o.step hst
  replace B_o := B_o.step hst
  replace D_o := D_o.step hst
  replace B_a := B_a.step hst
  replace B_b := B_b.step hst
  replace B_c := B_c.step hst
  replace B_g := B_g.step hst
  replace hB := hB.step hst
  clear hst
  have HQ := Lib.hid (And.intro q_d (And.intro B_t (And.intro D_d (And.intro q_o (And.intro B_o (And.intro D_o (And.intro B_a (And.intro B_b (And.intro B_c (And.intro B_g hB))))))))))
  clear q_d B_t D_d q_o B_o D_o B_a B_b B_c B_g hB
  have c_q_d0 := LK.cell HQ.out.1 0
  have c_q_d1 := LK.cell HQ.out.1 1
  have c_q_o0 := LK.cell HQ.out.2.2.2.1 0
  have c_q_o1 := LK.cell HQ.out.2.2.2.1 1
  simp at c_q_d0 c_q_d1 c_q_o0 c_q_o1
  go_wp2_with fail
  refine (HC.out.2.2.2.2.2.2.2.2.1 _ _ _ _ HQ.out.2.2.2.2.2.1.v HQ.out.2.2.2.2.1.v).mono ?_
  rintro e w8 ⟨b3, u3, rfl, hm⟩
  clear c_q_d0 c_q_d1 c_q_o0 c_q_o1
  obtain ⟨q_d, B_t, D_d, q_o, B_o, D_o, B_a, B_b, B_c, B_g, hB⟩ := HQ.out
  clear HQ
  have D_w := LT.of hm
  have hst := hm.below
  obtain ⟨ab_w, cb_w, rfl, -, -, -, -⟩ := hm.v0.1
  obtain ⟨au_w, cu_w, rfl, -, -, -, -⟩ := hm.v0.2
  clear hm
  have sz_w8 : w7.heap.size ≤ w8.heap.size := hst.size
  replace q_d := q_d.step hst
  replace B_t := B_t.step hst
  replace D_d := D_d.step hst
  replace q_o := q_o.step hst
  replace B_o := B_o.step hst
  replace D_o := D_o.step hst
  replace B_a := B_a.step hst
  replace B_b := B_b.step hst
  replace B_c := B_c.step hst
  replace B_g := B_g.step hst
  replace hB := hB.step hst
  clear hst
  have HQ := Lib.hid (And.intro q_d (And.intro B_t (And.intro D_d (And.intro q_o (And.intro B_o (And.intro D_o (And.intro B_a (And.intro B_b (And.intro B_c (And.intro B_g (And.intro D_w hB)))))))))))
  clear q_d B_t D_d q_o B_o D_o B_a B_b B_c B_g D_w hB
  have c_q_d0 := LK.cell HQ.out.1 0
  have c_q_d1 := LK.cell HQ.out.1 1
  have c_q_o0 := LK.cell HQ.out.2.2.2.1 0
  have c_q_o1 := LK.cell HQ.out.2.2.2.1 1
  simp at c_q_d0 c_q_d1 c_q_o0 c_q_o1
  go_upto_region 11 with (fail)
  clear c_q_d0 c_q_d1 c_q_o0 c_q_o1
  obtain ⟨q_d, B_t, D_d, q_o, B_o, D_o, B_a, B_b, B_c, B_g, D_w, hB⟩ := HQ.out
  clear HQ
  have hst := (Below.refl w8.heap.size w8).alloc (Nat.le_refl _) (.cells #[.slice ab_w WD.blocks.length cb_w, .slice au_w WD.waits.length cu_w] 26)
  have hlt : w8.heap.size < (w8.alloc (.cells #[.slice ab_w WD.blocks.length cb_w, .slice au_w WD.waits.length cu_w] 26)).heap.size := by simp
  have q_w := LK.new w8 (.cells #[.slice ab_w WD.blocks.length cb_w, .slice au_w WD.waits.length cu_w] 26)
  replace q_d := q_d.step hst
  replace B_t := B_t.step hst
  replace D_d := D_d.step hst
  replace q_o := q_o.step hst
  replace B_o := B_o.step hst
  replace D_o := D_o.step hst
  replace B_a := B_a.step hst
  replace B_b := B_b.step hst
  replace B_c := B_c.step hst
  replace B_g := B_g.step hst
  replace D_w := D_w.step hst
  replace hB := hB.step hst
  obtain ⟨w9, hw⟩ : ∃ v, w8.alloc (.cells #[.slice ab_w WD.blocks.length cb_w, .slice au_w WD.waits.length cu_w] 26) = v := ⟨_, rfl⟩
  rw [hw] at hlt q_w q_d B_t D_d q_o B_o D_o B_a B_b B_c B_g D_w hB ⊢
  clear hw hst
  have sz_w9 := hlt
  clear hlt
  have HQ := Lib.hid (And.intro q_d (And.intro B_t (And.intro D_d (And.intro q_o (And.intro B_o (And.intro D_o (And.intro B_a (And.intro B_b (And.intro B_c (And.intro B_g (And.intro D_w (And.intro q_w hB))))))))))))
  clear q_d B_t D_d q_o B_o D_o B_a B_b B_c B_g D_w q_w hB
  have c_q_d0 := LK.cell HQ.out.1 0
  have c_q_d1 := LK.cell HQ.out.1 1
  have c_q_o0 := LK.cell HQ.out.2.2.2.1 0
  have c_q_o1 := LK.cell HQ.out.2.2.2.1 1
  have c_q_w0 := LK.cell HQ.out.2.2.2.2.2.2.2.2.2.2.2.1 0
  have c_q_w1 := LK.cell HQ.out.2.2.2.2.2.2.2.2.2.2.2.1 1
  simp at c_q_d0 c_q_d1 c_q_o0 c_q_o1 c_q_w0 c_q_w1
  go_wp2_with fail
  refine (HC.out.2.2.2.2.2.2.2.2.2.1 _ _ _ _ HQ.out.2.2.1.v HQ.out.2.1.v).mono ?_
  rintro e w10 ⟨b4, u4, rfl, hm⟩
  clear c_q_d0 c_q_d1 c_q_o0 c_q_o1 c_q_w0 c_q_w1
  obtain ⟨q_d, B_t, D_d, q_o, B_o, D_o, B_a, B_b, B_c, B_g, D_w, q_w, hB⟩ := HQ.out
  clear HQ
  have D_x := LD.of hm.disk (Nat.le_refl _)
  have hst := hm.below
  obtain ⟨ab_x, cb_x, rfl, -, -, -, -⟩ := hm.disk.1
  obtain ⟨au_x, cu_x, rfl, -, -, -, -⟩ := hm.disk.2
  clear hm
  have sz_w10 : w9.heap.size ≤ w10.heap.size := hst.size
  replace q_d := q_d.step hst
  replace B_t := B_t.step hst
  replace D_d := D_d.step hst
  replace q_o := q_o.step hst
  replace B_o := B_o.step hst
  replace D_o := D_o.step hst
  replace B_a := B_a.step hst
  replace B_b := B_b.step hst
  replace B_c := B_c.step hst
  replace B_g := B_g.step hst
  replace D_w := D_w.step hst
  replace q_w := q_w.step hst
  replace hB := hB.step hst
  clear hst
  have HQ := Lib.hid (And.intro q_d (And.intro B_t (And.intro D_d (And.intro q_o (And.intro B_o (And.intro D_o (And.intro B_a (And.intro B_b (And.intro B_c (And.intro B_g (And.intro D_w (And.intro q_w (And.intro D_x hB)))))))))))))
  clear q_d B_t D_d q_o B_o D_o B_a B_b B_c B_g D_w q_w D_x hB
  have c_q_d0 := LK.cell HQ.out.1 0
  have c_q_d1 := LK.cell HQ.out.1 1
  have c_q_o0 := LK.cell HQ.out.2.2.2.1 0
  have c_q_o1 := LK.cell HQ.out.2.2.2.1 1
  have c_q_w0 := LK.cell HQ.out.2.2.2.2.2.2.2.2.2.2.2.1 0
  have c_q_w1 := LK.cell HQ.out.2.2.2.2.2.2.2.2.2.2.2.1 1
  simp at c_q_d0 c_q_d1 c_q_o0 c_q_o1 c_q_w0 c_q_w1
  go_upto_region 12 with (fail)
  clear c_q_d0 c_q_d1 c_q_o0 c_q_o1 c_q_w0 c_q_w1
  obtain ⟨q_d, B_t, D_d, q_o, B_o, D_o, B_a, B_b, B_c, B_g, D_w, q_w, D_x, hB⟩ := HQ.out
  clear HQ
  have hst := (Below.refl w10.heap.size w10).alloc (Nat.le_refl _) (.cells #[.slice ab_x WD.blocks.length cb_x, .slice au_x WD.waits.length cu_x] 26)
  have hlt : w10.heap.size < (w10.alloc (.cells #[.slice ab_x WD.blocks.length cb_x, .slice au_x WD.waits.length cu_x] 26)).heap.size := by simp
  have q_x := LK.new w10 (.cells #[.slice ab_x WD.blocks.length cb_x, .slice au_x WD.waits.length cu_x] 26)
  replace q_d := q_d.step hst
  replace B_t := B_t.step hst
  replace D_d := D_d.step hst
  replace q_o := q_o.step hst
  replace B_o := B_o.step hst
  replace D_o := D_o.step hst
  replace B_a := B_a.step hst
  replace B_b := B_b.step hst
  replace B_c := B_c.step hst
  replace B_g := B_g.step hst
  replace D_w := D_w.step hst
  replace q_w := q_w.step hst
  replace D_x := D_x.step hst
  replace hB := hB.step hst
  obtain ⟨w11, hw⟩ : ∃ v, w10.alloc (.cells #[.slice ab_x WD.blocks.length cb_x, .slice au_x WD.waits.length cu_x] 26) = v := ⟨_, rfl⟩
  rw [hw] at hlt q_x q_d B_t D_d q_o B_o D_o B_a B_b B_c B_g D_w q_w D_x hB ⊢
  clear hw hst
  have sz_w11 := hlt
  clear hlt
  have HQ := Lib.hid (And.intro q_d (And.intro B_t (And.intro D_d (And.intro q_o (And.intro B_o (And.intro D_o (And.intro B_a (And.intro B_b (And.intro B_c (And.intro B_g (And.intro D_w (And.intro q_w (And.intro D_x (And.intro q_x hB))))))))))))))
  clear q_d B_t D_d q_o B_o D_o B_a B_b B_c B_g D_w q_w D_x q_x hB
  have c_q_d0 := LK.cell HQ.out.1 0
  have c_q_d1 := LK.cell HQ.out.1 1
  have c_q_o0 := LK.cell HQ.out.2.2.2.1 0
  have c_q_o1 := LK.cell HQ.out.2.2.2.1 1
  have c_q_w0 := LK.cell HQ.out.2.2.2.2.2.2.2.2.2.2.2.1 0
  have c_q_w1 := LK.cell HQ.out.2.2.2.2.2.2.2.2.2.2.2.1 1
  have c_q_x0 := LK.cell HQ.out.2.2.2.2.2.2.2.2.2.2.2.2.2.1 0
  have c_q_x1 := LK.cell HQ.out.2.2.2.2.2.2.2.2.2.2.2.2.2.1 1
  simp at c_q_d0 c_q_d1 c_q_o0 c_q_o1 c_q_w0 c_q_w1 c_q_x0 c_q_x1
  go_wp2_with fail
  refine (HC.out.2.2.2.2.2.2.2.2.2.2.1 _ _ _ HQ.out.2.2.2.2.2.1.v).mono ?_
  rintro e w12 ⟨v_r, rfl, hm⟩
  clear c_q_d0 c_q_d1 c_q_o0 c_q_o1 c_q_w0 c_q_w1 c_q_x0 c_q_x1
  obtain ⟨q_d, B_t, D_d, q_o, B_o, D_o, B_a, B_b, B_c, B_g, D_w, q_w, D_x, q_x, hB⟩ := HQ.out
  clear HQ
  have B_r := LM.of hm
  have hst := hm.below
  obtain ⟨ar_r, cr_r, rfl, -, -⟩ := hm.bytes.form rfl
  clear hm
  have sz_w12 : w11.heap.size ≤ w12.heap.size := hst.size
  replace q_d := q_d.step hst
  replace B_t := B_t.step hst
  replace D_d := D_d.step hst
  replace q_o := q_o.step hst
  replace B_o := B_o.step hst
  replace D_o := D_o.step hst
  replace B_a := B_a.step hst
  replace B_b := B_b.step hst
  replace B_c := B_c.step hst
  replace B_g := B_g.step hst
  replace D_w := D_w.step hst
  replace q_w := q_w.step hst
  replace D_x := D_x.step hst
  replace q_x := q_x.step hst
  replace hB := hB.step hst
  clear hst
  have HQ := Lib.hid (And.intro q_d (And.intro B_t (And.intro D_d (And.intro q_o (And.intro B_o (And.intro D_o (And.intro B_a (And.intro B_b (And.intro B_c (And.intro B_g (And.intro D_w (And.intro q_w (And.intro D_x (And.intro q_x (And.intro B_r hB)))))))))))))))
  clear q_d B_t D_d q_o B_o D_o B_a B_b B_c B_g D_w q_w D_x q_x B_r hB
  have c_q_d0 := LK.cell HQ.out.1 0
  have c_q_d1 := LK.cell HQ.out.1 1
  have c_q_o0 := LK.cell HQ.out.2.2.2.1 0
  have c_q_o1 := LK.cell HQ.out.2.2.2.1 1
  have c_q_w0 := LK.cell HQ.out.2.2.2.2.2.2.2.2.2.2.2.1 0
  have c_q_w1 := LK.cell HQ.out.2.2.2.2.2.2.2.2.2.2.2.1 1
  have c_q_x0 := LK.cell HQ.out.2.2.2.2.2.2.2.2.2.2.2.2.2.1 0
  have c_q_x1 := LK.cell HQ.out.2.2.2.2.2.2.2.2.2.2.2.2.2.1 1
  simp at c_q_d0 c_q_d1 c_q_o0 c_q_o1 c_q_w0 c_q_w1 c_q_x0 c_q_x1
  go_wp2_with fail
  refine (HC.out.2.2.2.2.2.2.2.2.2.2.2.1 _ _ _ HQ.out.2.2.1.v).mono ?_
  rintro e w13 ⟨v_q, rfl, hm⟩
  clear c_q_d0 c_q_d1 c_q_o0 c_q_o1 c_q_w0 c_q_w1 c_q_x0 c_q_x1
  obtain ⟨q_d, B_t, D_d, q_o, B_o, D_o, B_a, B_b, B_c, B_g, D_w, q_w, D_x, q_x, B_r, hB⟩ := HQ.out
  clear HQ
  have B_q := LM.of hm
  have hst := hm.below
  obtain ⟨ar_q, cr_q, rfl, -, -⟩ := hm.bytes.form rfl
  clear hm
  have sz_w13 : w12.heap.size ≤ w13.heap.size := hst.size
  replace q_d := q_d.step hst
  replace B_t := B_t.step hst
  replace D_d := D_d.step hst
  replace q_o := q_o.step hst
  replace B_o := B_o.step hst
  replace D_o := D_o.step hst
  replace B_a := B_a.step hst
  replace B_b := B_b.step hst
  replace B_c := B_c.step hst
  replace B_g := B_g.step hst
  replace D_w := D_w.step hst
  replace q_w := q_w.step hst
  replace D_x := D_x.step hst
  replace q_x := q_x.step hst
  replace B_r := B_r.step hst
  replace hB := hB.step hst
  clear hst
  have HQ := Lib.hid (And.intro q_d (And.intro B_t (And.intro D_d (And.intro q_o (And.intro B_o (And.intro D_o (And.intro B_a (And.intro B_b (And.intro B_c (And.intro B_g (And.intro D_w (And.intro q_w (And.intro D_x (And.intro q_x (And.intro B_r (And.intro B_q hB))))))))))))))))
  clear q_d B_t D_d q_o B_o D_o B_a B_b B_c B_g D_w q_w D_x q_x B_r B_q hB
  have c_q_d0 := LK.cell HQ.out.1 0
  have c_q_d1 := LK.cell HQ.out.1 1
  have c_q_o0 := LK.cell HQ.out.2.2.2.1 0
  have c_q_o1 := LK.cell HQ.out.2.2.2.1 1
  have c_q_w0 := LK.cell HQ.out.2.2.2.2.2.2.2.2.2.2.2.1 0
  have c_q_w1 := LK.cell HQ.out.2.2.2.2.2.2.2.2.2.2.2.1 1
  have c_q_x0 := LK.cell HQ.out.2.2.2.2.2.2.2.2.2.2.2.2.2.1 0
  have c_q_x1 := LK.cell HQ.out.2.2.2.2.2.2.2.2.2.2.2.2.2.1 1
  simp at c_q_d0 c_q_d1 c_q_o0 c_q_o1 c_q_w0 c_q_w1 c_q_x0 c_q_x1
  have t_a := cv_of HQ.out.2.2.2.2.2.2.1.v
  have t_b := cv_of HQ.out.2.2.2.2.2.2.2.1.v
  have t_c := cv_of HQ.out.2.2.2.2.2.2.2.2.1.v
  have t_g := cv_of HQ.out.2.2.2.2.2.2.2.2.2.1.v
  go_wp2_with fail
  clear t_a t_b t_c t_g
  refine (HC.out.2.2.2.2.2.2.2.2.2.2.2.2.2.2.1 _ _ _ _ _ HQ.out.2.2.2.2.2.2.2.2.2.2.1.v HQ.out.2.2.2.2.2.2.2.2.2.2.2.2.1.v).mono ?_
  rintro e w14 ⟨rfl, hst⟩
  clear c_q_d0 c_q_d1 c_q_o0 c_q_o1 c_q_w0 c_q_w1 c_q_x0 c_q_x1
  obtain ⟨q_d, B_t, D_d, q_o, B_o, D_o, B_a, B_b, B_c, B_g, D_w, q_w, D_x, q_x, B_r, B_q, hB⟩ := HQ.out
  clear HQ
  clear D_x q_x B_b B_c B_g
  have sz_w14 : w13.heap.size ≤ w14.heap.size := hst.size
  replace q_d := q_d.step hst
  replace B_t := B_t.step hst
  replace D_d := D_d.step hst
  replace q_o := q_o.step hst
  replace B_o := B_o.step hst
  replace D_o := D_o.step hst
  replace B_a := B_a.step hst
  replace D_w := D_w.step hst
  replace q_w := q_w.step hst
  replace B_r := B_r.step hst
  replace B_q := B_q.step hst
  replace hB := hB.step hst
  clear hst
  have HQ := Lib.hid (And.intro q_d (And.intro B_t (And.intro D_d (And.intro q_o (And.intro B_o (And.intro D_o (And.intro B_a (And.intro D_w (And.intro q_w (And.intro B_r (And.intro B_q hB)))))))))))
  clear q_d B_t D_d q_o B_o D_o B_a D_w q_w B_r B_q hB
  have c_q_d0 := LK.cell HQ.out.1 0
  have c_q_d1 := LK.cell HQ.out.1 1
  have c_q_o0 := LK.cell HQ.out.2.2.2.1 0
  have c_q_o1 := LK.cell HQ.out.2.2.2.1 1
  have c_q_w0 := LK.cell HQ.out.2.2.2.2.2.2.2.2.1 0
  have c_q_w1 := LK.cell HQ.out.2.2.2.2.2.2.2.2.1 1
  simp at c_q_d0 c_q_d1 c_q_o0 c_q_o1 c_q_w0 c_q_w1
  have t_r := cv_of HQ.out.2.2.2.2.2.2.2.2.2.1.v
  have t_q := cv_of HQ.out.2.2.2.2.2.2.2.2.2.2.1.v
  go_upto_region 16 with (fail)
  clear t_r t_q
  clear c_q_d0 c_q_d1 c_q_o0 c_q_o1 c_q_w0 c_q_w1
  refine wp_region_held_drew (S := Cls w14) (by kernel_rfl) (Cls.drew w14) (fun hCl => ?_)
  refine wpAnyH_seg (fuel := 10) (by kernel_rfl) (fun _ d _ _ _ h => by cases d <;> exact h) hCl [0, 2] _ _ _ (by kernel_rfl) (by kernel_rfl) ?_
  simp only [opsOf_cons, opsOf_nil, consOp_some, List.getElem?_toArray, List.getElem?_cons_succ, List.getElem?_cons_zero]
  repeat (first | go_big_quiet_step (fail) | quiet_step (fail))
  refine wpQuiet_nil ?_
  refine wpAnyH_each (fuel := 9) [1] (by kernel_rfl) (by simp) (by kernel_rfl) ?_
  refine Each.cons _ rfl (fun K' hK => ?_) Each.nil
  go_simp
  refine (HC.out.2.2.2.2.2.2.2.2.2.2.2.2.1 _ _ (HQ.out.2.2.2.2.1.step hCl.below).v).mono ?_
  rintro e z1 ⟨rfl, hw0⟩
  rw [hw0]
  clear hw0
  have hst := hCl.below
  have hCl := Cls.of hst
  refine hK.out (Cls w14) (fun _ h => h) hCl ?_
  clear hK K'
  refine wpAnyH_each (fuel := 8) [3] (by kernel_rfl) (by simp) (by kernel_rfl) ?_
  refine Each.cons _ rfl (fun K' hK => ?_) Each.nil
  go_simp
  refine (HC.out.2.2.2.2.2.2.2.2.2.2.2.2.2.1 _ _ (HQ.out.2.1.step hCl.below).v).mono ?_
  rintro e z2 ⟨rfl, hw0⟩
  rw [hw0]
  clear hw0
  have hst := hCl.below
  have hCl := Cls.of hst
  refine hK.out (Cls w14) (fun _ h => h) hCl ?_
  clear hK K'
  refine wpAnyH_seg (fuel := 6) (by kernel_rfl) (fun _ d _ _ _ h => by cases d <;> exact h) hCl [4, 5] _ _ _ (by kernel_rfl) (by kernel_rfl) ?_
  simp only [opsOf_cons, opsOf_nil, consOp_some, List.getElem?_toArray, List.getElem?_cons_succ, List.getElem?_cons_zero]
  repeat (first | go_big_quiet_step (fail) | quiet_step (fail))
  refine wpQuiet_nil ?_
  refine wpAnyH_each (fuel := 5) [6] (by kernel_rfl) (by simp) (by kernel_rfl) ?_
  refine Each.cons _ rfl (fun K' hK => ?_) Each.nil
  go_simp
  refine (HC.out.2.2.2.2.2.2.2.2.2.2.2.2.2.2.2.2.1 _).mono ?_
  rintro e z3 ⟨v_1, rfl, hm⟩
  have hst := below_step hCl.below hCl.below.size hm.below
  obtain ⟨n_1, m_1, rfl, -, -⟩ := hm.bytes.form rfl
  have B_1 := LM.of hm
  have x_1 := fun X => cv_of (B_1.step (aft_below z3 X)).v
  have HS6 := Lib.hid hst
  clear hm
  refine hK.out (Cls z3) (Cls.sub hst) (Cls.refl z3) ?_
  have hCl := Cls.refl z3
  clear hK K'
  refine wpAnyH_seg (fuel := 4) (by kernel_rfl) (fun _ d _ _ _ h => by cases d <;> exact h) hCl [7] _ _ _ (by kernel_rfl) (by kernel_rfl) ?_
  simp only [opsOf_cons, opsOf_nil, consOp_some, List.getElem?_toArray, List.getElem?_cons_succ, List.getElem?_cons_zero]
  repeat (first | go_big_quiet_step (fail) | quiet_step (fail))
  refine wpQuiet_nil ?_
  refine wpAnyH_each (fuel := 3) [8] (by kernel_rfl) (by simp) (by kernel_rfl) ?_
  refine Each.cons _ rfl (fun K' hK => ?_) Each.nil
  go_simp
  refine (HC.out.2.2.2.2.2.2.2.2.2.2.2.2.2.2.2.2.2 _).mono ?_
  rintro e z4 ⟨v_2, rfl, hm⟩
  have hst := below_step hCl.below hCl.below.size hm.below
  obtain ⟨n_2, m_2, rfl, -, -⟩ := hm.bytes.form rfl
  have B_2 := LM.of hm
  clear x_1
  have x_2 := fun X => cv_of (B_2.step (aft_below z4 X)).v
  have HS8 := Lib.hid hst
  clear hm
  refine hK.out (Cls z4) (Cls.sub hst) (Cls.refl z4) ?_
  have hCl := Cls.refl z4
  clear hK K'
  refine wpAnyH_seg (fuel := 0) (by kernel_rfl) (fun _ d _ _ _ h => by cases d <;> exact h) hCl [9, 10, 11] _ _ _ (by kernel_rfl) (by kernel_rfl) ?_
  simp only [opsOf_cons, opsOf_nil, consOp_some, List.getElem?_toArray, List.getElem?_cons_succ, List.getElem?_cons_zero]
  repeat (first | go_big_quiet_step (fail) | quiet_step (fail))
  refine wpQuiet_nil ?_
  refine wpAnyH_done (by kernel_rfl) ?_ _
  clear x_2 B_1 B_2
  have hst := HS6.out.trans (HS8.out.mono HS6.out.size)
  clear HS6 HS8 hCl
  obtain ⟨q_d, B_t, D_d, q_o, B_o, D_o, B_a, D_w, q_w, B_r, B_q, hB⟩ := HQ.out
  clear HQ
  have sz_z4 : w14.heap.size ≤ z4.heap.size := hst.size
  replace q_d := q_d.step hst
  replace B_t := B_t.step hst
  replace D_d := D_d.step hst
  replace q_o := q_o.step hst
  replace B_o := B_o.step hst
  replace D_o := D_o.step hst
  replace B_a := B_a.step hst
  replace D_w := D_w.step hst
  replace q_w := q_w.step hst
  replace B_r := B_r.step hst
  replace B_q := B_q.step hst
  replace hB := hB.step hst
  clear hst
  have HQ := Lib.hid (And.intro q_d (And.intro B_t (And.intro D_d (And.intro q_o (And.intro B_o (And.intro D_o (And.intro B_a (And.intro D_w (And.intro q_w (And.intro B_r (And.intro B_q hB)))))))))))
  clear q_d B_t D_d q_o B_o D_o B_a D_w q_w B_r B_q hB
  have hrl : A.length ≤ 9223372036854775807 := by have := HQ.out.2.2.2.2.2.2.1.v.len_le; unfold maxLen at this; omega
  go_wp2_with fail
  go_loopw [31] (fun i wr => ∃ (j : Nat) (L : List UInt8), j ≤ A.length ∧ i = .int .i64 j ∧ L.length = A.length ∧ LM wq.heap.size w2.heap.size (.slice ar_a A.length cr_a) L wr ∧ (Below wq.heap.size z4 wr ∧ ∀ x, x < z4.heap.size → (x < wq.heap.size ∨ w2.heap.size ≤ x) → wr.heap[x]? = z4.heap[x]?)) (fun i _ => A.length - (intOf i).toNat)
  case atStart => exact ⟨0, A, Nat.zero_le _, rfl, rfl, HQ.out.2.2.2.2.2.2.1, Below.refl _ _, fun _ _ _ => rfl⟩
  case round =>
  obtain ⟨j, L, hj, rfl, hL, hm, hF⟩ := hrel
  by_cases hlt : j < A.length
  · obtain ⟨xb, xo, xc2, he, y1, y2, y3, y4, y5⟩ := hm.m.1.at_n hL (by omega)
    cases he
    obtain ⟨z, hz⟩ : ∃ z, L[j]? = some z := ⟨L[j]'(by omega), by simp⟩
    have hcell := y5 j z hz
    have hfz := hm.m.2 _ _ _ _ rfl j hlt
    simp only [bV] at hcell
    have HP := Lib.hid (And.intro hm (And.intro hF hL))
    unfold maxLen at y4
    clear hm hF hL y5 hz
    go_wp2
    go_roundw
    case rel =>
      obtain ⟨hm, hF, hL⟩ := HP.out
      exact ⟨j + 1, L.set j 9, by omega, by go_num, by rw [List.length_set]; exact hL, LM.set (V := wr) hm j 9 (by omega), hF.1.setCell (p := ⟨xb, xo + j, none⟩) y1 _, fun x h1 h2 => (set_other wr xb (xo + j) _ x (by omega)).trans (hF.2 x h1 h2)⟩
    case measure => simp [intOf]; omega
  obtain rfl : j = A.length := by omega
  obtain ⟨hbel, hfr⟩ := hF
  clear hm hL hj hlt
  obtain ⟨wa, hnm⟩ : ∃ v, v = wr := ⟨_, rfl⟩
  subst hnm
  have sz_wa : z4.heap.size ≤ wa.heap.size := hbel.size
  obtain ⟨q_d, B_t, D_d, q_o, B_o, D_o, B_a, D_w, q_w, B_r, B_q, hB⟩ := HQ.out
  clear HQ
  clear B_a
  replace q_d := q_d.out hbel.size hfr (by omega)
  replace B_t := B_t.out hbel.size hfr (by omega)
  replace D_d := D_d.out hbel.size hfr (by omega)
  replace q_o := q_o.out hbel.size hfr (by omega)
  replace B_o := B_o.out hbel.size hfr (by omega)
  replace D_o := D_o.out hbel.size hfr (by omega)
  replace D_w := D_w.out hbel.size hfr (by omega)
  replace q_w := q_w.out hbel.size hfr (by omega)
  replace B_r := B_r.out hbel.size hfr (by omega)
  replace B_q := B_q.out hbel.size hfr (by omega)
  replace hB := hB.outB hbel (by omega)
  have HQ := Lib.hid (And.intro q_d (And.intro B_t (And.intro D_d (And.intro q_o (And.intro B_o (And.intro D_o (And.intro D_w (And.intro q_w (And.intro B_r (And.intro B_q hB))))))))))
  clear q_d B_t D_d q_o B_o D_o D_w q_w B_r B_q hB
  clear hbel hfr hrl
  have hrl : RT.length ≤ 9223372036854775807 := by have := HQ.out.2.2.2.2.2.2.2.2.1.v.len_le; unfold maxLen at this; omega
  go_wp2_with fail
  go_loopw [32] (fun i wr => ∃ (j : Nat) (L : List UInt8), j ≤ RT.length ∧ i = .int .i64 j ∧ L.length = RT.length ∧ LM w11.heap.size w12.heap.size (.slice ar_r RT.length cr_r) L wr ∧ (Below w11.heap.size wa wr ∧ ∀ x, x < wa.heap.size → (x < w11.heap.size ∨ w12.heap.size ≤ x) → wr.heap[x]? = wa.heap[x]?)) (fun i _ => RT.length - (intOf i).toNat)
  case atStart => exact ⟨0, RT, Nat.zero_le _, rfl, rfl, HQ.out.2.2.2.2.2.2.2.2.1, Below.refl _ _, fun _ _ _ => rfl⟩
  case round =>
  obtain ⟨j, L, hj, rfl, hL, hm, hF⟩ := hrel
  by_cases hlt : j < RT.length
  · obtain ⟨xb, xo, xc2, he, y1, y2, y3, y4, y5⟩ := hm.m.1.at_n hL (by omega)
    cases he
    obtain ⟨z, hz⟩ : ∃ z, L[j]? = some z := ⟨L[j]'(by omega), by simp⟩
    have hcell := y5 j z hz
    have hfz := hm.m.2 _ _ _ _ rfl j hlt
    simp only [bV] at hcell
    have HP := Lib.hid (And.intro hm (And.intro hF hL))
    unfold maxLen at y4
    clear hm hF hL y5 hz
    go_wp2
    go_roundw
    case rel =>
      obtain ⟨hm, hF, hL⟩ := HP.out
      exact ⟨j + 1, L.set j 9, by omega, by go_num, by rw [List.length_set]; exact hL, LM.set (V := wr) hm j 9 (by omega), hF.1.setCell (p := ⟨xb, xo + j, none⟩) y1 _, fun x h1 h2 => (set_other wr xb (xo + j) _ x (by omega)).trans (hF.2 x h1 h2)⟩
    case measure => simp [intOf]; omega
  obtain rfl : j = RT.length := by omega
  obtain ⟨hbel, hfr⟩ := hF
  clear hm hL hj hlt
  obtain ⟨wb, hnm⟩ : ∃ v, v = wr := ⟨_, rfl⟩
  subst hnm
  have sz_wb : wa.heap.size ≤ wb.heap.size := hbel.size
  obtain ⟨q_d, B_t, D_d, q_o, B_o, D_o, D_w, q_w, B_r, B_q, hB⟩ := HQ.out
  clear HQ
  clear B_r
  replace q_d := q_d.out hbel.size hfr (by omega)
  replace B_t := B_t.out hbel.size hfr (by omega)
  replace D_d := D_d.out hbel.size hfr (by omega)
  replace q_o := q_o.out hbel.size hfr (by omega)
  replace B_o := B_o.out hbel.size hfr (by omega)
  replace D_o := D_o.out hbel.size hfr (by omega)
  replace D_w := D_w.out hbel.size hfr (by omega)
  replace q_w := q_w.out hbel.size hfr (by omega)
  replace B_q := B_q.out hbel.size hfr (by omega)
  replace hB := hB.outB hbel (by omega)
  have HQ := Lib.hid (And.intro q_d (And.intro B_t (And.intro D_d (And.intro q_o (And.intro B_o (And.intro D_o (And.intro D_w (And.intro q_w (And.intro B_q hB)))))))))
  clear q_d B_t D_d q_o B_o D_o D_w q_w B_q hB
  clear hbel hfr hrl
  have c_q_w0 := LK.cell HQ.out.2.2.2.2.2.2.2.1 0
  have c_q_w1 := LK.cell HQ.out.2.2.2.2.2.2.2.1 1
  simp at c_q_w0 c_q_w1
  have hsp := (LT.spC HQ.out.2.2.2.2.2.2.1).2
  have hqw := HQ.out.2.2.2.2.2.2.2.1
  have HW0 := Lib.hid (And.intro hsp hqw)
  clear hsp hqw
  have hgm : WD.waits.length ≤ cu_w ∧ cu_w ≤ maxLen := by
    obtain ⟨e9a, e9b, e9, g9, gm9, -⟩ := HW0.out.1
    injection e9 with e1 e2 e3
    subst e3
    exact ⟨g9, gm9⟩
  obtain ⟨g9, gm9⟩ := hgm
  unfold maxLen at gm9
  go_wp2_with fail
  go_loopw [33] (fun i wr => ∃ j : Nat, j ≤ WD.waits.length ∧ i = .int .i64 j ∧ SpS 2 1 wr w7.heap.size w8.heap.size (.slice au_w WD.waits.length cu_w) WD.waits.length ∧ (Below w7.heap.size wb wr ∧ ∀ x, x < wb.heap.size → (x < w7.heap.size ∨ w8.heap.size ≤ x) → wr.heap[x]? = wb.heap[x]?)) (fun i _ => WD.waits.length - (intOf i).toNat)
  case atStart => exact ⟨0, Nat.zero_le _, rfl, HW0.out.1, Below.refl _ _, fun _ _ _ => rfl⟩
  case round =>
  obtain ⟨j, hj, rfl, hs2, hF⟩ := hrel
  clear c_q_w0 c_q_w1
  have hqb : wr.heap[w8.heap.size]? = some (.cells #[.slice ab_w WD.blocks.length cb_w, .slice au_w WD.waits.length cu_w] 26 (0, 0)) := (hF.2 w8.heap.size (LK.lt HW0.out.2) (.inr (Nat.le_refl _))).trans HW0.out.2.blk
  have qb1 := blk_cell hqb 1
  simp at qb1
  have hsw := hF.1.size
  by_cases hlt : j < WD.waits.length
  case pos =>
    obtain ⟨a', c', e', -, z2, z3⟩ := id hs2
    obtain ⟨bb, bo, ea, zl, zh, zc⟩ := z3 (by omega)
    cases e'
    subst ea
    obtain ⟨sa, sc, m, hcell, hspb⟩ := zc j hlt
    obtain ⟨pa, pc, e2, y1, y2, y3⟩ := id hspb
    cases e2
    unfold maxLen at z2 y2
    have HK := Lib.hid (And.intro hs2 (And.intro hF (And.intro hspb (And.intro hcell hqb))))
    clear hs2 hF hspb z3 zc y3 hqb
    obtain ⟨wo, hwo⟩ : ∃ wo, wo = wr := ⟨_, rfl⟩
    subst hwo
    go_wp2_with fail
    go_loopw [34] (fun i wx => ∃ q : Nat, q ≤ m ∧ i = .int .i64 q ∧ SpS 2 1 wx w7.heap.size w8.heap.size (.slice (some ⟨bb, bo, none⟩) WD.waits.length cu_w) WD.waits.length ∧ (Below w7.heap.size wb wx ∧ ∀ x, x < wb.heap.size → (x < w7.heap.size ∨ w8.heap.size ≤ x) → wx.heap[x]? = wb.heap[x]?) ∧ SpoB wx w7.heap.size w8.heap.size (.slice sa m sc) m ∧ wx.cell? ⟨bb, bo + j * 2 + 1, none⟩ = some (.slice sa m sc)) (fun i _ => m - (intOf i).toNat)
    case atStart => exact ⟨0, Nat.zero_le _, rfl, HK.out.1, HK.out.2.1, HK.out.2.2.1, HK.out.2.2.2.1⟩
    case round =>
    obtain ⟨q, hq, rfl, hs2, hF, hspb, hcell⟩ := hrel
    clear qb1
    have hqb : wr.heap[w8.heap.size]? = some (.cells #[.slice ab_w WD.blocks.length cb_w, .slice (some ⟨bb, bo, none⟩) WD.waits.length cu_w] 26 (0, 0)) := (hF.2 w8.heap.size (LK.lt HW0.out.2) (.inr (Nat.le_refl _))).trans HW0.out.2.blk
    have qb1 := blk_cell hqb 1
    simp at qb1
    by_cases hqm : q < m
    case pos =>
      obtain ⟨pa, pc, e2, y1, y2, y3⟩ := id hspb
      cases e2
      obtain ⟨sb, so, ea, t1, t2, t3⟩ := y3 (by omega)
      subst ea
      obtain ⟨x, hx, hxf⟩ := t3 q hqm
      have hx0 : wr.cell? ⟨sb, so + q, none⟩ = some (.int .u8 (x.toNat : Int)) := hx
      have HJ := Lib.hid (And.intro hs2 (And.intro hF (And.intro hspb (And.intro hcell hx))))
      unfold maxLen at y2
      clear hs2 hF hspb hx y3 t3 hqb
      go_wp2
      go_roundw
      case rel =>
        obtain ⟨hs2, hF, hspb, hcell, hx⟩ := HJ.out
        exact ⟨q + 1, by omega, by go_num, SpS.set (w := wr) hs2 _ _ 9 hx, ⟨hF.1.setCell (p := ⟨sb, so + q, none⟩) t1 _, fun x h1 h2 => (set_other wr sb (so + q) _ x (by omega)).trans (hF.2 x h1 h2)⟩, SpoB.set (w := wr) hspb _ _ 9 hx, spo_other (w := wr) (y := 9) hx hcell (fun z e => by cases e)⟩
      case measure => simp [intOf]; omega
    obtain rfl : q = m := by omega
    have HJ := Lib.hid (And.intro hs2 hF)
    clear hs2 hF hspb hqb
    go_wp2
    go_roundw
    case rel => exact ⟨j + 1, by omega, by go_num, HJ.out.1, HJ.out.2⟩
    case measure => simp [intOf]; omega
  obtain rfl : j = WD.waits.length := by omega
  obtain ⟨hbel, hfr⟩ := hF
  clear hs2 hqb
  obtain ⟨wc, hnm⟩ : ∃ v, v = wr := ⟨_, rfl⟩
  subst hnm
  have sz_wc : wb.heap.size ≤ wc.heap.size := hbel.size
  obtain ⟨q_d, B_t, D_d, q_o, B_o, D_o, D_w, q_w, B_q, hB⟩ := HQ.out
  clear HQ
  clear D_w
  replace q_d := q_d.out hbel.size hfr (by omega)
  replace B_t := B_t.out hbel.size hfr (by omega)
  replace D_d := D_d.out hbel.size hfr (by omega)
  replace q_o := q_o.out hbel.size hfr (by omega)
  replace B_o := B_o.out hbel.size hfr (by omega)
  replace D_o := D_o.out hbel.size hfr (by omega)
  replace q_w := q_w.out hbel.size hfr (by omega)
  replace B_q := B_q.out hbel.size hfr (by omega)
  replace hB := hB.outB hbel (by omega)
  have HQ := Lib.hid (And.intro q_d (And.intro B_t (And.intro D_d (And.intro q_o (And.intro B_o (And.intro D_o (And.intro q_w (And.intro B_q hB))))))))
  clear q_d B_t D_d q_o B_o D_o q_w B_q hB
  clear hbel hfr
  have c_q_d0 := LK.cell HQ.out.1 0
  have c_q_d1 := LK.cell HQ.out.1 1
  have c_q_o0 := LK.cell HQ.out.2.2.2.1 0
  have c_q_o1 := LK.cell HQ.out.2.2.2.1 1
  have c_q_w0 := LK.cell HQ.out.2.2.2.2.2.2.1 0
  have c_q_w1 := LK.cell HQ.out.2.2.2.2.2.2.1 1
  simp at c_q_d0 c_q_d1 c_q_o0 c_q_o1 c_q_w0 c_q_w1
  have t_o := cv_of HQ.out.2.2.2.2.1.v
  have t_t := cv_of HQ.out.2.1.v
  go_wp2_with fail
  clear t_o t_t
  refine (HC.out.2.2.2.2.2.2.2.2.2.2.2.2.2.2.2.1 _ _ _ _ _ HQ.out.2.2.2.2.2.1.v HQ.out.2.2.1.v).mono ?_
  rintro e w15 ⟨rfl, hst⟩
  clear c_q_d0 c_q_d1 c_q_o0 c_q_o1 c_q_w0 c_q_w1
  obtain ⟨q_d, B_t, D_d, q_o, B_o, D_o, q_w, B_q, hB⟩ := HQ.out
  clear HQ
  have sz_w15 : wc.heap.size ≤ w15.heap.size := hst.size
  replace q_d := q_d.step hst
  replace B_t := B_t.step hst
  replace D_d := D_d.step hst
  replace q_o := q_o.step hst
  replace B_o := B_o.step hst
  replace D_o := D_o.step hst
  replace q_w := q_w.step hst
  replace B_q := B_q.step hst
  replace hB := hB.step hst
  clear hst
  have HQ := Lib.hid (And.intro q_d (And.intro B_t (And.intro D_d (And.intro q_o (And.intro B_o (And.intro D_o (And.intro q_w (And.intro B_q hB))))))))
  clear q_d B_t D_d q_o B_o D_o q_w B_q hB
  have c_q_d0 := LK.cell HQ.out.1 0
  have c_q_d1 := LK.cell HQ.out.1 1
  have c_q_o0 := LK.cell HQ.out.2.2.2.1 0
  have c_q_o1 := LK.cell HQ.out.2.2.2.1 1
  have c_q_w0 := LK.cell HQ.out.2.2.2.2.2.2.1 0
  have c_q_w1 := LK.cell HQ.out.2.2.2.2.2.2.1 1
  simp at c_q_d0 c_q_d1 c_q_o0 c_q_o1 c_q_w0 c_q_w1
  go_wp2
  go_ret
  exact ⟨rfl, HQ.out.2.2.2.2.2.2.2.2⟩

end Go.Proofs.Ythealkfpflkipaa

