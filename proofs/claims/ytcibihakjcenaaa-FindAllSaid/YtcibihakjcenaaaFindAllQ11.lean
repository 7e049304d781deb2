/- FindAll: the words and contracts, part 11. -/
import Derived.Test.YtcibihakjcenaaaFindAllQ1
import Derived.Test.YtcibihakjcenaaaFindAllQ2
import Derived.Test.YtcibihakjcenaaaFindAllQ3
import Derived.Test.YtcibihakjcenaaaFindAllQ4
import Derived.Test.YtcibihakjcenaaaFindAllQ5
import Derived.Test.YtcibihakjcenaaaFindAllQ6
import Derived.Test.YtcibihakjcenaaaFindAllQ7
import Derived.Test.YtcibihakjcenaaaFindAllQ8
import Derived.Test.YtcibihakjcenaaaFindAllQ9
import Derived.Test.YtcibihakjcenaaaFindAllQ10
import Derived.WalkKit
import Derived.WalkLawsBesides
import Derived.WalkSpells
import Derived.Lib.Hide
import Derived.Laws.Rows
import Derived.Laws.AppendOwnNone
import Derived.Maps.AppendAt
import Derived.ProofKit
import Derived.Deep.Slices
import Derived.WideShapes
import Derived.RangeFuncNested
import Derived.RangeFuncBound
import Derived.RangeFuncCalls
import Derived.RangeFuncLeaves
import Derived.RangeFuncBox
import Derived.Shelf.Abstract
import Derived.Shelf.RegionOpen
import Derived.OwnWalkIn
import Derived.TacticsInMore
import Derived.LoopNIn
import Derived.LoopIn
import Derived.Lib.AppendZerosOnto
import Derived.Lib.SliceRun
import Derived.Lib.Walk
import Derived.Deep.LoopGhost
import Derived.Laws.CopyOwn
import Derived.Laws.CopyRow
import Derived.OrdersHeld
import Derived.Deep.QuietTactic
import Derived.BigQuiet
import Derived.StillTailTactics
import Derived.OpenShut
import Derived.Deep.DeepCutAuto
import Derived.Laws.MakeOwn
import Derived.Deep.RegionHeld
import Derived.KernelRfl
import Derived.BigFrameIn
import Derived.OrdersIn
namespace Go.Proofs.Ytcibihakjcenaaa
open Go.RowKit Go.Shelf
attribute [local go_sem] Oper.semAt_some

/-- A region that cannot panic, where what follows is not known. -/
def noPanic (Q : Exit → Act → World → Prop) : Exit → Act → World → Prop
  | .panic _, _, _ => False
  | e, a, w => Q e a w
theorem wp_noPanic {P : Program} {c : Code} {Q : Exit → Act → World → Prop} {a : Act} {w : World} (h : c.wp P (noPanic Q) a w) : c.wp P Q a w :=
  Code.wp_mono (fun e a w q => by cases e <;> first | exact q | exact q.elim) h
theorem noPanic_normal {K : Act → World → Prop} {Q : Exit → Act → World → Prop} {a : Act} {w : World} (h : K a w) : noPanic (Exit.then K Q) .normal a w := h

theorem wpIn_cutB {F : Fence} {n l : Nat} {P : Program} {c : Code} {K : Act → World → Prop} {Q' : Exit → Act → World → Prop} {a : Act} {w : World} (R : Act → World → Prop) (rest : ∀ a' w', R a' w' → K a' w')
    (first : c.wpIn F n P (Exit.inBlock l (fun e a' w' => e = .normal ∧ R a' w')) a w) : c.wpIn F n P (Exit.inBlock l (Exit.then K Q')) a w := by
  have hm : ∀ e a' w', (e = Exit.normal ∧ R a' w') → Exit.then K Q' e a' w' := by rintro _ a' w' ⟨rfl, h⟩; exact rest _ _ h
  refine wpIn_mono first fun e a' w' q => ?_
  cases e with
  | exit id =>
    by_cases h : id = l
    · simp only [Exit.inBlock, h, if_true] at q ⊢
      exact hm _ _ _ ⟨rfl, q.2⟩
    · simp only [Exit.inBlock, h, if_false] at q ⊢
      first | exact hm _ _ _ q | exact q.elim | exact q.1.elim
  | _ => exact hm _ _ _ q

def errBn (s : StoreL) (p : Nat) : Int := if s.now.getD p 0 = 0 then 8 else if errNd (seenD s.disk p) = 0 then 0 else 8
def nodeB (s : StoreL) (p : Nat) : NodeL := if errBn s p = 0 then readNd (seenD s.disk p) else ⟨0, []⟩

set_option maxRecDepth 100000 in
set_option maxHeartbeats 2000000 in
theorem bnode_any  (lo g nb no nc : Nat) (b u y : Value) (s : StoreL) (p : Nat) (w : World) (h : BenAt w lo g nb no nc b u y s) (hmd : mayD s.disk = true) (hp : p < 256)  :
    Calls Try.prog 73 #[.pointer (some ⟨g, 0, none⟩), .int .i64 p] w fun e w' => ∃ v, e = .returned (.tuple #[.agg #[.int .i64 (nodeB s p).level, v], .int .i64 (errBn s p)]) ∧ Sl rItemT w' w.heap.size w'.heap.size v (nodeB s p).items ∧ Below w.heap.size w w' := by
  obtain ⟨ab, cb, rfl, g1, g2, -, -⟩ := h.disk.1
  obtain ⟨au, cu, rfl, g3, g4, -, -⟩ := h.disk.2
  obtain ⟨ay, cy, rfl, g5, g6⟩ := h.last.form rfl
  have hst := (((Below.refl w.heap.size w).alloc (Nat.le_refl _) (.cells #[.int .i64 (p : Int)] 3)).alloc (by simp) (.cells #[.int .i64 0, .slice none 0 0] 119))
  have hq := two_new w (.cells #[.int .i64 (p : Int)] 3) (.cells #[.int .i64 0, .slice none 0 0] 119)
  have q_p := LK.of hq.1
  have q_r := LK.of hq.2
  have hB : LW w _ := hst
  have sz_V : w.heap.size + 1 < ((w.alloc (.cells #[.int .i64 (p : Int)] 3)).alloc (.cells #[.int .i64 0, .slice none 0 0] 119)).heap.size := by simp
  obtain ⟨V, hV⟩ : ∃ V, ((w.alloc (.cells #[.int .i64 (p : Int)] 3)).alloc (.cells #[.int .i64 0, .slice none 0 0] 119)) = V := ⟨_, rfl⟩
  rw [hV] at sz_V q_p q_r hB
  clear hst  hq
  have HB0 := Lib.hid h
  clear h
  have HQ := Lib.hid (And.intro q_p (And.intro q_r hB))
  clear q_p q_r hB
  have c_q_p0 := LK.cell HQ.out.1 0
  have c_q_r0 := LK.cell HQ.out.2.1 0
  have c_q_r1 := LK.cell HQ.out.2.1 1
  simp at c_q_p0 c_q_r0 c_q_r1
  have f1 := (HB0.out.step HQ.out.2.2).cell p hp
  simp only [bV] at f1
  have c_b := (HB0.out.step HQ.out.2.2).blk
  have c_b0 := blk_cell c_b 0
  have c_b1 := blk_cell c_b 1
  have c_b2 := blk_cell c_b 2
  have c_b3 := blk_cell c_b 3
  simp at c_b0 c_b1 c_b2 c_b3
  clear c_b
  obtain ⟨l1, l2, l3, l4⟩ := (HB0.out.step HQ.out.2.2).lo_
  have i1 : ¬ (256 : Int) ≤ p := by omega
  obtain ⟨x0, hx0⟩ : ∃ x, s.now.getD p 0 = x := ⟨_, rfl⟩
  rw [hx0] at f1
  refine (callsIn_wide (n := 5)).1 ?_
  refine callsIn_of_wp_marks Try.func73 rfl trivial ?_ rfl
  simp only [Try.ntmps73, List.size_toArray, List.length_cons, List.length_nil, Nat.reduceAdd, Nat.reduceSub, Array.replicate_succ, Array.replicate_zero, List.push_toArray, List.append_toArray, List.nil_append, List.cons_append]
  gi_wp2_with fail
  clear hV
  refine wpIn_wide.2 ?_
  go_quiet (fail)
  have F1 := Lib.hid f1
  clear F1 f1 c_b0 c_b1 c_b2 c_b3
  clear c_q_p0 c_q_r0 c_q_r1
  obtain ⟨q_p, q_r, hB⟩ := HQ.out
  clear HQ
  have hst := below_dn V.heap.size V nq
  obtain ⟨w1, hw⟩ : ∃ v, V.drewN nq = v := ⟨_, rfl⟩
  rw [hw] at hst ⊢
  clear hw
  have sz_w1 : V.heap.size ≤ w1.heap.size := hst.size
  replace q_p := q_p.step hst
  replace q_r := q_r.step hst
  replace hB := hB.step hst
  clear hst
  have HQ := Lib.hid (And.intro q_p (And.intro q_r hB))
  clear q_p q_r hB
  have c_q_p0 := LK.cell HQ.out.1 0
  have c_q_r0 := LK.cell HQ.out.2.1 0
  have c_q_r1 := LK.cell HQ.out.2.1 1
  simp at c_q_p0 c_q_r0 c_q_r1
  have f1 := (HB0.out.step HQ.out.2.2).cell p hp
  rw [hx0] at f1
  simp only [bV] at f1
  have c_b := (HB0.out.step HQ.out.2.2).blk
  have c_b0 := blk_cell c_b 0
  have c_b1 := blk_cell c_b 1
  have c_b2 := blk_cell c_b 2
  have c_b3 := blk_cell c_b 3
  simp at c_b0 c_b1 c_b2 c_b3
  clear c_b
  by_cases hz : x0 = 0
  · subst hz
    have e0 : ((0 : UInt8).toNat : Int) = 0 := rfl
    have hE : errBn s p = 8 := by unfold errBn; rw [if_pos hx0]
    have hN : nodeB s p = ⟨0, []⟩ := by unfold nodeB; rw [hE]; rfl
    have HE := Lib.hid (And.intro hE hN)
    clear hE hN
    rw [e0]
    clear c_q_p0 c_q_r0 c_q_r1
    have c_q_p0 := LK.cell HQ.out.1 0
    have c_q_r0 := LK.cell HQ.out.2.1 0
    have c_q_r1 := LK.cell HQ.out.2.1 1
    have z_q_r0 := LK.frozen HQ.out.2.1 0
    have z_q_r1 := LK.frozen HQ.out.2.1 1
    simp at c_q_p0 c_q_r0 c_q_r1
    gi_wp2
    clear z_q_r0 z_q_r1 c_q_p0 c_q_r0 c_q_r1
    obtain ⟨q_p, q_r, hB⟩ := HQ.out
    clear HQ
    have hcb := LK.blk q_r
    have hF : LK (w.heap.size + 1) (.cells #[.int .i64 0, .slice none 0 0] 119) ((w1.setCell ⟨w.heap.size + 1, 0, none⟩ (.int .i64 0)).setCell ⟨w.heap.size + 1, 1, none⟩ (.slice none 0 0)) := LK.of (set_block (set_block hcb 0 _) 1 _)
    have hbel : Below (w.heap.size + 1) w1 ((w1.setCell ⟨w.heap.size + 1, 0, none⟩ (.int .i64 0)).setCell ⟨w.heap.size + 1, 1, none⟩ (.slice none 0 0)) := ((Below.refl _ w1).setCell (p := ⟨w.heap.size + 1, 0, none⟩) (Nat.le_refl _) _).setCell (p := ⟨w.heap.size + 1, 1, none⟩) (Nat.le_refl _) _
    have hfr : ∀ x, x < w1.heap.size → (x < w.heap.size + 1 ∨ w.heap.size + 1 + 1 ≤ x) → ((w1.setCell ⟨w.heap.size + 1, 0, none⟩ (.int .i64 0)).setCell ⟨w.heap.size + 1, 1, none⟩ (.slice none 0 0)).heap[x]? = w1.heap[x]? := fun x _ h => (set_other _ _ _ _ _ (by omega)).trans ((set_other _ _ _ _ _ (by omega)))
    have hs4 : ((w1.setCell ⟨w.heap.size + 1, 0, none⟩ (.int .i64 0)).setCell ⟨w.heap.size + 1, 1, none⟩ (.slice none 0 0)).heap.size = w1.heap.size := by simp only [World.size_setCell]
    replace q_p := q_p.out (Nat.le_of_eq hs4.symm) hfr (by omega)
    replace hB := hB.outB hbel (by omega)
    replace q_r := hF
    obtain ⟨w2, hw⟩ : ∃ v, ((w1.setCell ⟨w.heap.size + 1, 0, none⟩ (.int .i64 0)).setCell ⟨w.heap.size + 1, 1, none⟩ (.slice none 0 0)) = v := ⟨_, rfl⟩
    rw [hw] at hs4 q_p q_r hB ⊢
    have sz_w2 := Nat.le_of_eq hs4
    have sy_w2 := Nat.le_of_eq hs4.symm
    clear hw hF hbel hfr hcb hs4
    have HQ := Lib.hid (And.intro q_p (And.intro q_r hB))
    clear q_p q_r hB
    have c_q_p0 := LK.cell HQ.out.1 0
    have c_q_r0 := LK.cell HQ.out.2.1 0
    have c_q_r1 := LK.cell HQ.out.2.1 1
    have z_q_r0 := LK.frozen HQ.out.2.1 0
    have z_q_r1 := LK.frozen HQ.out.2.1 1
    simp at c_q_p0 c_q_r0 c_q_r1
    gi_wp2
    refine ⟨.tuple #[.agg #[.int .i64 0, .slice none 0 0], .int .i64 8], by simp [results, Try.results73, go_sem, c_q_r0, c_q_r1], .slice none 0 0, by rw [HE.out.1, HE.out.2], ?_⟩
    rw [HE.out.2]
    exact ⟨Sl.nil_ _ _ _, HQ.out.2.2⟩
  have e0 := u8_nz hz
  have HD0 := Lib.hid (HB0.out.disk.ck (hideW_out w _))
  have HM := Lib.hid (may_len hmd)
  have hpl : p < s.disk.blocks.length := by have := HM.out.1; omega
  obtain ⟨bb, bo, cb2, e2, -, z1, z2, z3, hbe⟩ := HD0.out.1.at_ (by omega)
  injection e2 with ea _ ec
  subst ea ec
  obtain ⟨v, hv, hvb⟩ := hbe p (s.disk.blocks.getD p []) (get_l _ _ _ hpl)
  obtain ⟨dat, hdat⟩ : ∃ dat, s.disk.blocks.getD p [] = dat := ⟨_, rfl⟩
  rw [hdat] at hvb
  obtain ⟨xa, xc, rfl, -, -⟩ := hvb.form rfl
  have f2 : w1.cell? ⟨bb, bo + p, none⟩ = some (.slice xa dat.length xc) := (Below.cell (p := ⟨bb, bo + p, none⟩) HQ.out.2.2 z1).trans (by simpa [rBytes] using hv)
  have i2 : ¬ (s.disk.blocks.length : Int) ≤ p := by omega
  have i3 : (p : Int) < s.disk.blocks.length := by omega
  have hwsz : w.heap.size ≤ w1.heap.size := by omega
  have HDA := Lib.hid (And.intro hdat hvb)
  clear hdat hvb hv hbe
  unfold maxLen at g2 z3
  gi_wp2_with fail
  refine wpIn_wide.2 ?_
  have d1 : bb < w1.heap.size := by omega
  have d3 : g < w1.heap.size := (Array.getElem?_eq_some_iff.1 (HB0.out.step HQ.out.2.2).blk).1
  have x1 := fun X => ((aft_below w1 X).cell (p := ⟨g, 0, none⟩) (by show g < w1.heap.size; omega)).trans c_b0
  have x2 := fun X => ((aft_below w1 X).cell (p := ⟨w.heap.size, 0, none⟩) (by show w.heap.size < w1.heap.size; omega)).trans c_q_p0
  have x3 := fun X => ((aft_below w1 X).cell (p := ⟨bb, bo + p, none⟩) (by show bb < w1.heap.size; omega)).trans f2
  go_cut [6] from 21 to 29 (fun t6 wx => ∃ g6 : Nat, t6 = .pointer (some ⟨g6, 0, none⟩) ∧ LK g6 (.cells #[.slice xa dat.length xc] 26) wx ∧ w1.heap.size ≤ g6 ∧ Below w1.heap.size w1 wx)
  case first =>
    refine wp_noPanic ?_
    refine wp_region_held_drew (S := Cls w1) (by kernel_rfl) (Cls.drew w1) (fun hCl => ?_)
    refine wpAnyH_seg (fuel := 9) (by kernel_rfl) (fun _ d _ _ _ h => by cases d <;> exact h) hCl [0, 6] _ _ _ (by kernel_rfl) (by kernel_rfl) ?_
    simp only [opsOf_cons, opsOf_nil, consOp_some, List.getElem?_toArray, List.getElem?_cons_succ, List.getElem?_cons_zero]
    repeat (first | go_big_quiet_step (fail) | quiet_step (fail))
    refine wpQuiet_nil ?_
    refine wpAnyH_each (fuel := 8) [1, 9] (by kernel_rfl) (by simp) (by kernel_rfl) ?_
    refine Each.cons _ rfl (fun K' hK => ?_) ?_
    · go_simp
      have hst := hCl.below
      have hCl := Cls.of hst
      refine hK.out (Cls w1) (fun _ h => h) hCl ?_
      clear hK K'
      refine wpAnyH_seg (fuel := 2) (by kernel_rfl) (fun _ d _ _ _ h => by cases d <;> exact h) hCl [2, 3, 4, 5, 7, 8] _ _ _ (by kernel_rfl) (by kernel_rfl) ?_
      simp only [opsOf_cons, opsOf_nil, consOp_some, List.getElem?_toArray, List.getElem?_cons_succ, List.getElem?_cons_zero]
      repeat (first | go_big_quiet_step (fail) | quiet_step (fail))
      refine wpQuiet_nil ?_
      refine wpAnyH_each (fuel := 1) [9] (by kernel_rfl) (by simp) (by kernel_rfl) ?_
      refine Each.cons _ rfl (fun K' hK => ?_) Each.nil
      go_simp
      have hs := cls_alloc hCl (.cells #[.slice none 0 0] 26)
      have F6 : LK w1.heap.size (.cells #[.slice none 0 0] 26) _ := cls_new hCl (.cells #[.slice none 0 0] 26)
      have hlt : w1.drew.heap.size < (w1.drew.alloc (.cells #[.slice none 0 0] 26)).heap.size := by simp
      have hst := below_step hCl.below hCl.below.size hs
      have lo_F6 := hCl.below.size
      obtain ⟨z2, hz⟩ : ∃ v, (w1.alloc (.cells #[.slice none 0 0] 26)).drew = v := ⟨_, rfl⟩
      have hz2 : w1.drew.alloc (.cells #[.slice none 0 0] 26) = z2 := hz
      rw [hz] at ⊢
      rw [hz2] at hst hlt F6
      have sz_z2 := hlt
      clear hz hz2 hs hlt
      have hCl := Cls.of hst
      refine hK.out (Cls w1) (fun _ h => h) hCl ?_
      clear hK K'
      refine wpAnyH_each (fuel := 0) [10] (by kernel_rfl) (by simp) (by kernel_rfl) ?_
      refine Each.cons _ rfl (fun K' hK => ?_) Each.nil
      have hcb := LK.blk F6
      have r0 := LK.cell F6 0
      simp at r0
      have s0 := LK.frozen F6 0
      go_simp
      have F7 : LK (w1.heap.size) (.cells #[.slice xa dat.length xc] 26) (z2.setCell ⟨w1.heap.size, 0, none⟩ (.slice xa dat.length xc)) := LK.of (set_block hcb 0 _)
      have hst := hCl.below.setCell (p := ⟨w1.heap.size, 0, none⟩) lo_F6 (.slice xa dat.length xc)
      have hCl := Cls.of hst
      refine hK.out (Cls w1) (fun _ h => h) hCl ?_
      clear hK K'
      refine wpAnyH_done (by kernel_rfl) ?_ _
      refine noPanic_normal ?_
      go_wp2
      go_meet
      exact ⟨_, rfl, F7, lo_F6, hst⟩
    refine Each.cons _ rfl (fun K' hK => ?_) ?_
    · go_simp
      have hs := cls_alloc hCl (.cells #[.slice none 0 0] 26)
      have F6 : LK w1.heap.size (.cells #[.slice none 0 0] 26) _ := cls_new hCl (.cells #[.slice none 0 0] 26)
      have hlt : w1.drew.heap.size < (w1.drew.alloc (.cells #[.slice none 0 0] 26)).heap.size := by simp
      have hst := below_step hCl.below hCl.below.size hs
      have lo_F6 := hCl.below.size
      obtain ⟨z4, hz⟩ : ∃ v, (w1.alloc (.cells #[.slice none 0 0] 26)).drew = v := ⟨_, rfl⟩
      have hz2 : w1.drew.alloc (.cells #[.slice none 0 0] 26) = z4 := hz
      rw [hz] at ⊢
      rw [hz2] at hst hlt F6
      have sz_z4 := hlt
      clear hz hz2 hs hlt
      have hCl := Cls.of hst
      refine hK.out (Cls w1) (fun _ h => h) hCl ?_
      clear hK K'
      refine wpAnyH_each (fuel := 7) [1] (by kernel_rfl) (by simp) (by kernel_rfl) ?_
      refine Each.cons _ rfl (fun K' hK => ?_) Each.nil
      go_simp
      have hst := hCl.below
      have hCl := Cls.of hst
      refine hK.out (Cls w1) (fun _ h => h) hCl ?_
      clear hK K'
      refine wpAnyH_seg (fuel := 1) (by kernel_rfl) (fun _ d _ _ _ h => by cases d <;> exact h) hCl [2, 3, 4, 5, 7, 8] _ _ _ (by kernel_rfl) (by kernel_rfl) ?_
      simp only [opsOf_cons, opsOf_nil, consOp_some, List.getElem?_toArray, List.getElem?_cons_succ, List.getElem?_cons_zero]
      repeat (first | go_big_quiet_step (fail) | quiet_step (fail))
      refine wpQuiet_nil ?_
      refine wpAnyH_each (fuel := 0) [10] (by kernel_rfl) (by simp) (by kernel_rfl) ?_
      refine Each.cons _ rfl (fun K' hK => ?_) Each.nil
      have hcb := LK.blk F6
      have r0 := LK.cell F6 0
      simp at r0
      have s0 := LK.frozen F6 0
      go_simp
      have F7 : LK (w1.heap.size) (.cells #[.slice xa dat.length xc] 26) (z4.setCell ⟨w1.heap.size, 0, none⟩ (.slice xa dat.length xc)) := LK.of (set_block hcb 0 _)
      have hst := hCl.below.setCell (p := ⟨w1.heap.size, 0, none⟩) lo_F6 (.slice xa dat.length xc)
      have hCl := Cls.of hst
      refine hK.out (Cls w1) (fun _ h => h) hCl ?_
      clear hK K'
      refine wpAnyH_done (by kernel_rfl) ?_ _
      refine noPanic_normal ?_
      go_wp2
      go_meet
      exact ⟨_, rfl, F7, lo_F6, hst⟩
    exact Each.nil
  case rest =>
  obtain ⟨g6, rfl, q_k, hlo6, hst⟩ := hcut
  clear c_q_p0 c_q_r0 c_q_r1
  clear f1 c_b0 c_b2 c_b3 x1 x2 x3 f2
  obtain ⟨q_p, q_r, hB⟩ := HQ.out
  clear HQ
  have sz_c : w1.heap.size ≤ wc.heap.size := hst.size
  replace c_b1 := (hst.cell (p := ⟨g, 1, none⟩) d3).trans c_b1
  replace q_p := q_p.step hst
  replace q_r := q_r.step hst
  replace hB := hB.step hst
  clear hst
  have HQ := Lib.hid (And.intro q_p (And.intro q_r (And.intro q_k hB)))
  clear q_p q_r q_k hB
  have c_q_p0 := LK.cell HQ.out.1 0
  have c_q_r0 := LK.cell HQ.out.2.1 0
  have c_q_r1 := LK.cell HQ.out.2.1 1
  have c_q_k0 := LK.cell HQ.out.2.2.1 0
  simp at c_q_p0 c_q_r0 c_q_r1 c_q_k0
  have HZ := Lib.hid (And.intro d1 (And.intro d3 (And.intro hwsz hlo6)))
  gi_wp2_with (refine ⟨trivial, ?_⟩; gi_at_call 114; refine (backw_in Fence.wide _ trivial rfl _ _ _ _).mono ?_; rintro e w2 ⟨rfl, rfl⟩)
  have HE := Lib.hid HQ
  have hg6 : g6 < wc.heap.size := (Array.getElem?_eq_some_iff.1 (LK.blk HQ.out.2.2.1)).1
  have hbx := cell_new_l wc (.slice au s.disk.waits.length cu) 42
  have hst : Below wc.heap.size wc (wc.alloc (.cells #[.slice au s.disk.waits.length cu] 42)) := (Below.refl wc.heap.size wc).alloc (Nat.le_refl _) _
  have hsV : wc.heap.size < (wc.alloc (.cells #[.slice au s.disk.waits.length cu] 42)).heap.size := by simp
  obtain ⟨V2, hV2⟩ : ∃ v, wc.alloc (.cells #[.slice au s.disk.waits.length cu] 42) = v := ⟨_, rfl⟩
  rw [hV2] at hbx hst hsV ⊢
  clear hV2
  clear c_q_p0 c_q_r0 c_q_r1 c_q_k0
  obtain ⟨q_p, q_r, q_k, hB⟩ := HQ.out
  clear HQ
  replace q_p := q_p.step hst
  replace q_r := q_r.step hst
  replace q_k := q_k.step hst
  replace hB := hB.step hst
  have HQ := Lib.hid (And.intro q_p (And.intro q_r (And.intro q_k hB)))
  clear q_p q_r q_k hB
  obtain ⟨gb, hgb⟩ : ∃ v, wc.heap.size = v := ⟨_, rfl⟩
  rw [hgb] at hbx hsV hg6 ⊢
  obtain ⟨bs, hbl, hba, hbc⟩ := writes_of (HD0.out.2.below HQ.out.2.2.2 (Nat.le_refl _))
  have HA := Lib.hid (And.intro hbl (And.intro hba hbc))
  have HX := Lib.hid (And.intro hbx hsV)
  clear hbl hba hbc hbx hst hgb c_b1
  refine wpIn_cutB (fun a1 W => ∃ D v, a1 = ({ tmps := #[.pointer (some ⟨g, 0, none⟩), .int .i64 p, undef, .pointer (some ⟨w.heap.size, 0, none⟩), .pointer (some ⟨w.heap.size + 1, 0, none⟩), .int .i64 0, .pointer (some ⟨g6, 0, none⟩), undef, undef, undef, undef, .pointer (some ⟨g, 0, none⟩), .pointer (some ⟨g, 0, none⟩), .pointer (some ⟨g, 0, none⟩), .pointer (some ⟨g, 2, none⟩), .slice (some ⟨nb, no, none⟩) 256 nc, .int .i64 p, .pointer (some ⟨nb, no + p, none⟩), .int .u8 (x0.toNat : Int), .bool false, undef, u21, u22, u23, u24, u25, u26, u27, u28, u29, .pointer (some ⟨g, 0, none⟩), .pointer (some ⟨g, 0, none⟩), .pointer (some ⟨g, 0, none⟩), .pointer (some ⟨g, 0, none⟩), .pointer (some ⟨g, 1, none⟩), .slice au s.disk.waits.length cu, .func (.func 139) #[] #[.pointer (some ⟨gb, 0, none⟩)], undef, undef, undef, undef, undef, undef, undef, undef, undef, undef, undef, undef, undef, undef, undef, undef, undef], defers := [{ target := .collected D, args := #[] }] } : Act) ∧ V2.heap.size ≤ D ∧ W.heap[D]? = some (.deferred (some [])) ∧ W.cell? ⟨g6, 0, none⟩ = some v ∧ Bytes W 0 W.heap.size v (seenD s.disk p) ∧ Below g6 V2 W) ?rest ?loop
  case loop =>
    refine wpIn_rangeFunc_ownH rfl (by omega) (gf := 139) (lb := #[.pointer (some ⟨gb, 0, none⟩)]) rfl trivial (enters_of Try.func139 (by kernel_rfl) rfl)
      (backw_stops Fence.wide 4 trivial rfl (by omega) gb w.heap.size au cu bs V2 HX.out.2 (by omega) (by rw [HA.out.1]; exact HX.out.1.1) (by rw [HA.out.1]; exact g3) g4 HA.out.2.2) KeepB.trans (keepB_b (by omega) HX.out.2) (Below.refl _ _) (fun _ => rfl)
      (fun pre W => (∀ i ∈ pre, bs[i.1].1 ≠ (p : Int)) ∧ Below V2.heap.size V2 W)
      (fun c pre W => (∃ Wx, (c = .exit 0 ∧ ∃ pre' x, pre = pre' ++ [x] ∧ (∀ i ∈ pre', bs[i.1].1 ≠ (p : Int)) ∧ bs[x.1].1 = (p : Int) ∧ Wx.cell? ⟨g6, 0, none⟩ = some bs[x.1].2) ∧ CK Wx W) ∧ Below g6 V2 W)
      ((ownFrom_pure _ _).and (ownFrom_below (Nat.le_refl _) (Nat.le_refl _)))
      (fun c => ((ck_own _).from _).and (ownFrom_below (n₀ := g6) (B := V2.heap.size) (w₀ := V2) (show g6 ≤ V2.heap.size by omega) (show g6 ≤ V2.heap.size by omega)))
      ⟨fun _ h => (by cases h), Below.refl _ _⟩
      (fun x a' W => ∃ bx, a' = ({ tmps := #[.pointer (some ⟨g, 0, none⟩), .int .i64 p, undef, .pointer (some ⟨w.heap.size, 0, none⟩), .pointer (some ⟨w.heap.size + 1, 0, none⟩), .int .i64 0, .pointer (some ⟨g6, 0, none⟩), undef, .pointer (some ⟨bx, 0, none⟩), undef, undef, .pointer (some ⟨g, 0, none⟩), .pointer (some ⟨g, 0, none⟩), .pointer (some ⟨g, 0, none⟩), .pointer (some ⟨g, 2, none⟩), .slice (some ⟨nb, no, none⟩) 256 nc, .int .i64 p, .pointer (some ⟨nb, no + p, none⟩), .int .u8 (x0.toNat : Int), .bool false, undef, u21, u22, u23, u24, u25, u26, u27, u28, u29, .pointer (some ⟨g, 0, none⟩), .pointer (some ⟨g, 0, none⟩), .pointer (some ⟨g, 0, none⟩), .pointer (some ⟨g, 0, none⟩), .pointer (some ⟨g, 1, none⟩), .slice au s.disk.waits.length cu, .func (.func 139) #[] #[.pointer (some ⟨gb, 0, none⟩)], .int .i64 (x.1 : Int), .agg #[.int .i64 bs[x.1].1, bs[x.1].2], undef, undef, undef, undef, undef, undef, undef, undef, undef, undef, undef, undef, undef, undef, undef], defers := [] } : Act) ∧ V2.heap.size ≤ bx ∧ W.heap[bx]? = some (.cells #[.int .i64 bs[x.1].1, bs[x.1].2] 143 (0, 0)))
      ?hax ?assign ?body ?done ?stop
    case hax =>
      intro x a' s W W' row h hg hr
      obtain ⟨bx, h1, h2, h3⟩ := h
      refine ⟨bx, h1, h2, ?_⟩
      refine (hg.block bx (Array.getElem?_eq_some_iff.1 h3).1 (fun e => ?_)).trans h3
      obtain ⟨-, o, ho, hc⟩ := hr bx e.symm
      rw [h3] at ho
      cases ho
      cases hc
    case assign =>
      rintro l pre x W K ⟨hU, hBW⟩ hK
      obtain ⟨e1, e2⟩ := HA.out.2.1 x.1 bs[x.1] (by simp)
      have hnew := World.alloc_heap_new W (.cells #[.int .i64 bs[x.1].1, bs[x.1].2] 143)
      have hfr := (Below.refl W.heap.size W).alloc (Nat.le_refl _) (.cells #[.int .i64 bs[x.1].1, bs[x.1].2] 143)
      have hHK := hK
      obtain ⟨av, cv, hv, -, -⟩ := e2.form rfl
      rw [hv] at hnew hfr ⊢
      have HV := Lib.hid hv
      generalize (s.disk.waits.getD x.1 ⟨0, []⟩).data.length = dl at *
      have HK := Lib.hid hHK
      clear hHK hK e1 e2 hv
      gi_wp2
      refine HK.out _ _ ⟨hfr.size, fun k o _ hko _ => (hfr.block k (Array.getElem?_eq_some_iff.1 hko).1).trans hko⟩ ⟨hfr.mono (by have := hBW.size; omega), hfr.cell (p := ⟨gb, 0, none⟩) (Nat.lt_of_lt_of_le HX.out.2 hBW.size)⟩ ⟨hU, below_step hBW hBW.size hfr⟩ ⟨W.heap.size, ?_, hBW.size, by rw [HV.out]; exact hnew⟩
      rw [HV.out]
    case body =>
      rintro l pre x a' W hl - ⟨hU, hBW⟩ ⟨bx, rfl, hbx, hcell⟩ hlen
      have b0 := blk_cell hcell 0
      have b1 := blk_cell hcell 1
      simp at b0 b1
      have m1 := (hBW.cell (p := ⟨w.heap.size, 0, none⟩) (by show w.heap.size < V2.heap.size; omega)).trans (by simpa using LK.cell (HQ.out.1) 0 : V2.cell? ⟨w.heap.size, 0, none⟩ = some (.int .i64 p))
      have r6 := (hBW.block g6 (by omega)).trans (LK.blk (HQ.out.2.2.1))
      have m6 := blk_cell r6 0
      have z6 := blk_frozen r6 0
      simp at m6
      have HP := Lib.hid (And.intro hU (And.intro hBW r6))
      clear hU hBW hcell r6
      obtain ⟨xa2, hxa⟩ : ∃ xa, bs[x.1].1 = xa := ⟨_, rfl⟩
      obtain ⟨xv, hxv⟩ : ∃ xv, bs[x.1].2 = xv := ⟨_, rfl⟩
      rw [hxa] at b0
      rw [hxv] at b1
      rw [hxa, hxv]
      obtain ⟨-, e2⟩ := HA.out.2.1 x.1 bs[x.1] (by simp)
      obtain ⟨av, cv, hv, -, -⟩ := e2.form rfl
      clear e2
      generalize (s.disk.waits.getD x.1 ⟨0, []⟩).data.length = dl at *
      rw [hxv] at hv
      subst hv
      have HXA := Lib.hid (And.intro hxa hxv)
      clear hxa hxv
      by_cases hat : xa2 = (p : Int)
      · have dt : (xa2 == (p : Int)) = true := by simp [hat]
        gi_wp2
        refine ⟨⟨Nat.le_of_eq (World.size_setCell _ _ _).symm, fun k o hVk hk _ => (set_other W _ _ _ k (by omega)).trans hk⟩, ⟨_, ⟨rfl, pre, x, rfl, HP.out.1, by rw [HXA.out.1]; exact hat, ?_⟩, CK.refl _⟩, (HP.out.2.1.mono (show g6 ≤ V2.heap.size by omega)).setCell (p := ⟨g6, 0, none⟩) (Nat.le_refl _) _⟩
        rw [HXA.out.2]
        exact World.cell?_setCell_same' _ _ _ (by rw [m6]; rfl)
      · have dt : (xa2 == (p : Int)) = false := by simp [hat]
        gi_wp2
        refine ⟨KeepsFrom.refl _ _, KeepB.refl _ _ _, fun i hi => ?_, HP.out.2.1⟩
        rcases List.mem_append.1 hi with hi | hi
        · exact HP.out.1 i hi
        · obtain rfl := List.mem_singleton.1 hi
          rw [HXA.out.1]
          exact hat
    case done =>
      rintro D xs W hD rfl ⟨hU, hBW⟩ hK
      have hBw : Below w.heap.size w W := below_step (HQ.out.2.2.2) (Below.size (HQ.out.2.2.2)) hBW
      have hseen : seenD s.disk p = dat := by
        unfold seenD
        rw [lastW_none s.disk.waits p (fun y hy => by
          obtain ⟨j, hj⟩ := List.mem_iff_getElem?.1 hy
          have hjl := (List.getElem?_eq_some_iff.1 hj).1
          have hjb : j < bs.length := by have := HA.out.1; omega
          have := hU ⟨j, hjb⟩ ((backF_mem _ _ _).2 (by omega))
          rw [(HA.out.2.1 j bs[j] (by simp [hjb])).1, List.getD_eq_getElem?_getD, hj] at this
          exact this)]
        exact HDA.out.1
      refine ⟨rfl, D, .slice xa dat.length xc, rfl, hD, hK, (hBW.cell (p := ⟨g6, 0, none⟩) (by show g6 < V2.heap.size; omega)).trans (by simpa using LK.cell (HQ.out.2.2.1) 0), ?_, hBW.mono (show g6 ≤ V2.heap.size by omega)⟩
      rw [hseen]
      exact (HDA.out.2.below hBw (Nat.le_refl _)).more (Nat.le_refl _) hBw.size
    case stop =>
      rintro D c pre W hD ⟨k, hk, hpre⟩ ⟨⟨Wx, ⟨rfl, pre', x, rfl, hU, hx, hc6⟩, hck⟩, hB⟩ hK
      have hseen : seenD s.disk p = (s.disk.waits.getD x.1 ⟨0, []⟩).data := by
        cases k with
        | zero => simp [backF] at hpre
        | succ k =>
          rw [backF_succ _ k (bs.length - 1 - k) (by omega) (by omega)] at hpre
          obtain ⟨h1, h2⟩ := List.append_inj' hpre rfl
          have h3 := List.cons.inj h2
          have hx1 : x.1 = bs.length - 1 - k := by rw [h3.1]
          unfold seenD
          rw [lastW_at s.disk.waits p x.1 (by have := HA.out.1; omega) (by rw [← (HA.out.2.1 x.1 bs[x.1] (by simp)).1]; exact hx) (fun j hj hjl => by
            have hjb : j < bs.length := by have := HA.out.1; omega
            rw [← (HA.out.2.1 j bs[j] (by simp [hjb])).1]
            exact hU ⟨j, hjb⟩ (by rw [h1]; exact (backF_mem _ _ _).2 (by show bs.length ≤ j + k; omega)))]
      obtain ⟨-, e2⟩ := HA.out.2.1 x.1 bs[x.1] (by simp)
      have hHS := Lib.hid hseen
      clear hseen
      gi_wp2
      refine ⟨trivial, D, bs[x.1].2, rfl, hD, hK, (hck.2 _ _ hc6).1, ?_, hB⟩
      rw [hHS.out]
      exact (e2.below (hB.mono (show w.heap.size ≤ g6 by omega)) (Nat.le_refl _)).more (Nat.le_refl _) (by have := hB.size; omega)
  case rest =>
    rintro a1 W ⟨D, v, rfl, hD, hK, h6, hv, hB6⟩
    have q_r := LK.of ((hB6.block (w.heap.size + 1) (by omega)).trans (LK.blk HQ.out.2.1))
    have hDW : D < W.heap.size := (Array.getElem?_eq_some_iff.1 hK).1
    have q_D := LK.of hK
    have hBw : LW w W := Below.trans HQ.out.2.2.2 (hB6.mono (show w.heap.size ≤ g6 by omega))
    have hWs := hB6.size
    have hWw : w.heap.size + 1 < W.heap.size := by omega
    obtain ⟨av, cv, rfl, -, -⟩ := hv.form rfl
    have HV := Lib.hid hv
    clear HQ hK hv hB6
    have HQ := Lib.hid (And.intro q_r (And.intro q_D hBw))
    clear q_r q_D hBw
    have c_q_r0 := LK.cell HQ.out.1 0
    have c_q_r1 := LK.cell HQ.out.1 1
    simp at c_q_r0 c_q_r1
    have hE : errBn s p = if errNd (seenD s.disk p) = 0 then 0 else 8 := by unfold errBn; rw [if_neg (by rw [hx0]; exact hz)]
    have hN : nodeB s p = if errBn s p = 0 then readNd (seenD s.disk p) else ⟨0, []⟩ := rfl
    obtain ⟨ER, hER⟩ : ∃ x, errNd (seenD s.disk p) = x := ⟨_, rfl⟩
    obtain ⟨ND, hND⟩ : ∃ x, readNd (seenD s.disk p) = x := ⟨_, rfl⟩
    have k_r := nread_any _ (seenD s.disk p) W HV.out
    rw [hER, hND] at k_r
    rw [hER] at hE
    rw [hND] at hN
    obtain ⟨sl, hsl⟩ : ∃ x, (seenD s.disk p).length = x := ⟨_, rfl⟩
    rw [hsl] at k_r h6
    have HE2 := Lib.hid (And.intro hE (And.intro hN k_r))
    clear hE hN k_r hER hND hsl HV
    gi_wp2_with fail
    refine ⟨trivial, ?_⟩
    gi_at_call 115
    refine (callsIn_wide.2 (HE2.out.2.2)).mono ?_
    rintro e w2 ⟨u, rfl, hm⟩
    clear c_q_r0 c_q_r1
    obtain ⟨q_r, q_D, hBw⟩ := HQ.out
    clear HQ
    have hst := hm.below
    have S_u := LS.of hm.items (Nat.le_refl _)
    obtain ⟨au2, cu2, rfl, -, -⟩ := hm.items
    clear hm
    have sz_w2 : W.heap.size ≤ w2.heap.size := hst.size
    replace q_r := q_r.step hst
    replace q_D := q_D.step hst
    replace hBw := hBw.step hst
    clear hst
    have HQ := Lib.hid (And.intro q_r (And.intro q_D (And.intro S_u hBw)))
    clear q_r q_D S_u hBw
    have c_q_r0 := LK.cell HQ.out.1 0
    have c_q_r1 := LK.cell HQ.out.1 1
    have z_q_r0 := LK.frozen HQ.out.1 0
    have z_q_r1 := LK.frozen HQ.out.1 1
    simp at c_q_r0 c_q_r1
    have hal := (Below.refl w2.heap.size w2).alloc (Nat.le_refl _) (.cells #[.int .i64 ND.level, .slice au2 ND.items.length cu2] 119)
    have q_r2 := LK.step HQ.out.1 hal
    have q_D2 := LK.step HQ.out.2.1 hal
    have S_u2 := LS.step HQ.out.2.2.1 hal
    have hB2 := LW.step HQ.out.2.2.2 hal
    have hls : (w2.alloc (.cells #[.int .i64 ND.level, .slice au2 ND.items.length cu2] 119)).heap.size = w2.heap.size + 1 := by simp
    have hS2 := Lib.hid (And.intro q_r2 (And.intro q_D2 (And.intro S_u2 (And.intro hB2 hls))))
    have y0 := LK.cell q_r2 0
    have y1 := LK.cell q_r2 1
    have v0 := LK.frozen q_r2 0
    have v1 := LK.frozen q_r2 1
    clear hal q_r2 q_D2 S_u2 hB2 hls
    have l9 : w.heap.size + 1 < w2.heap.size := by omega
    simp at y0 y1
    by_cases hz2 : ER = 0
    · subst hz2
      have hE := HE2.out.1
      rw [if_pos rfl] at hE
      have hN := HE2.out.2.1
      rw [if_pos hE] at hN
      gi_wp2
      clear z_q_r0 z_q_r1 c_q_r0 c_q_r1
      obtain ⟨q_r, q_D, S_u, hBw⟩ := HQ.out
      clear HQ
      have hcb := LK.blk q_r
      have hF : LK (w.heap.size + 1) (.cells #[.int .i64 ND.level, .slice au2 ND.items.length cu2] 119) ((w2.setCell ⟨w.heap.size + 1, 0, none⟩ (.int .i64 ND.level)).setCell ⟨w.heap.size + 1, 1, none⟩ (.slice au2 ND.items.length cu2)) := LK.of (set_block (set_block hcb 0 _) 1 _)
      have hbel : Below (w.heap.size + 1) w2 ((w2.setCell ⟨w.heap.size + 1, 0, none⟩ (.int .i64 ND.level)).setCell ⟨w.heap.size + 1, 1, none⟩ (.slice au2 ND.items.length cu2)) := ((Below.refl _ w2).setCell (p := ⟨w.heap.size + 1, 0, none⟩) (Nat.le_refl _) _).setCell (p := ⟨w.heap.size + 1, 1, none⟩) (Nat.le_refl _) _
      have hfr : ∀ x, x < w2.heap.size → (x < w.heap.size + 1 ∨ w.heap.size + 1 + 1 ≤ x) → ((w2.setCell ⟨w.heap.size + 1, 0, none⟩ (.int .i64 ND.level)).setCell ⟨w.heap.size + 1, 1, none⟩ (.slice au2 ND.items.length cu2)).heap[x]? = w2.heap[x]? := fun x _ h => (set_other _ _ _ _ _ (by omega)).trans ((set_other _ _ _ _ _ (by omega)))
      have hs4 : ((w2.setCell ⟨w.heap.size + 1, 0, none⟩ (.int .i64 ND.level)).setCell ⟨w.heap.size + 1, 1, none⟩ (.slice au2 ND.items.length cu2)).heap.size = w2.heap.size := by simp only [World.size_setCell]
      replace q_D := q_D.out (Nat.le_of_eq hs4.symm) hfr (by omega)
      replace S_u := S_u.out (Nat.le_of_eq hs4.symm) hfr (by omega)
      replace hBw := hBw.outB hbel (by omega)
      replace q_r := hF
      obtain ⟨w3, hw⟩ : ∃ v, ((w2.setCell ⟨w.heap.size + 1, 0, none⟩ (.int .i64 ND.level)).setCell ⟨w.heap.size + 1, 1, none⟩ (.slice au2 ND.items.length cu2)) = v := ⟨_, rfl⟩
      rw [hw] at hs4 q_r q_D S_u hBw ⊢
      have sz_w3 := Nat.le_of_eq hs4
      have sy_w3 := Nat.le_of_eq hs4.symm
      clear hw hF hbel hfr hcb hs4
      have HQ := Lib.hid (And.intro q_r (And.intro q_D (And.intro S_u hBw)))
      clear q_r q_D S_u hBw
      have c_q_r0 := LK.cell HQ.out.1 0
      have c_q_r1 := LK.cell HQ.out.1 1
      simp at c_q_r0 c_q_r1
      clear c_q_r0 c_q_r1
      obtain ⟨q_r, q_D, S_u, hBw⟩ := HQ.out
      clear HQ
      have hst := (Below.refl w3.heap.size w3).alloc (Nat.le_refl _) (.cells #[.int .i64 ND.level, .slice au2 ND.items.length cu2] 119)
      obtain ⟨w4, hw⟩ : ∃ v, w3.alloc (.cells #[.int .i64 ND.level, .slice au2 ND.items.length cu2] 119) = v := ⟨_, rfl⟩
      rw [hw] at hst ⊢
      clear hw
      have sz_w4 : w3.heap.size ≤ w4.heap.size := hst.size
      replace q_r := q_r.step hst
      replace q_D := q_D.step hst
      replace S_u := S_u.step hst
      replace hBw := hBw.step hst
      clear hst
      have HQ := Lib.hid (And.intro q_r (And.intro q_D (And.intro S_u hBw)))
      clear q_r q_D S_u hBw
      have c_q_r0 := LK.cell HQ.out.1 0
      have c_q_r1 := LK.cell HQ.out.1 1
      simp at c_q_r0 c_q_r1
      have hK2 := LK.blk HQ.out.2.1
      have hgr := grownBy_putObj' w4 D (.deferred none)
      have hck2 : CK w4 (w4.putObj D (.deferred none)) := ⟨by simp, fun a v h => ⟨cell_kept h hgr (fun r e => by cases e; exact ⟨_, hK2, rfl⟩), frozen_kept h hgr (fun r e => by cases e; exact ⟨_, hK2, rfl⟩)⟩⟩
      have s2 := (hck2.2 _ _ c_q_r0).1
      have s3 := (hck2.2 _ _ c_q_r1).1
      have hbK := belowK_b (w := w) (Nat.le_refl _) w4 D (.deferred (some [])) (.deferred none) (by omega) hK2 rfl rfl
      have hfin := Below.trans HQ.out.2.2.2 hbK
      refine ⟨by simp, .inl ⟨_, _, rfl, run_takeDeferred hK2, ?_⟩⟩
      refine ⟨.tuple #[.agg #[.int .i64 ND.level, .slice au2 ND.items.length cu2], .int .i64 0], by simp [results, Try.results73, go_sem, s2, s3], .slice au2 ND.items.length cu2, ?_, ?_, hfin⟩
      · rw [hE, hN]
      · rw [hN]
        have hDl := (Array.getElem?_eq_some_iff.1 hK2).1
        have hSo := LS.out HQ.out.2.2.1 (V' := w4.putObj D (.deferred none)) (n0 := D) (h0 := D + 1) (by simp) (fun x hx hd => hgr.block x hx (fun e => by cases e; omega)) (.inr (by omega))
        exact Sl.more (Lv.get hSo) (by omega) (Lv.hi_le hSo)
    · have i1 : (ER == 0) = false := by simp [hz2]
      have i2 : (ER != 0) = true := by simp [hz2]
      have hE := HE2.out.1
      rw [if_neg hz2] at hE
      have hN := HE2.out.2.1
      rw [if_neg (by rw [hE]; decide)] at hN
      gi_wp2
      clear z_q_r0 z_q_r1 c_q_r0 c_q_r1
      obtain ⟨q_r, q_D, S_u, hBw⟩ := HQ.out
      clear HQ
      have hcb := LK.blk q_r
      have hF : LK (w.heap.size + 1) (.cells #[.int .i64 0, .slice none 0 0] 119) ((w2.setCell ⟨w.heap.size + 1, 0, none⟩ (.int .i64 0)).setCell ⟨w.heap.size + 1, 1, none⟩ (.slice none 0 0)) := LK.of (set_block (set_block hcb 0 _) 1 _)
      have hbel : Below (w.heap.size + 1) w2 ((w2.setCell ⟨w.heap.size + 1, 0, none⟩ (.int .i64 0)).setCell ⟨w.heap.size + 1, 1, none⟩ (.slice none 0 0)) := ((Below.refl _ w2).setCell (p := ⟨w.heap.size + 1, 0, none⟩) (Nat.le_refl _) _).setCell (p := ⟨w.heap.size + 1, 1, none⟩) (Nat.le_refl _) _
      have hfr : ∀ x, x < w2.heap.size → (x < w.heap.size + 1 ∨ w.heap.size + 1 + 1 ≤ x) → ((w2.setCell ⟨w.heap.size + 1, 0, none⟩ (.int .i64 0)).setCell ⟨w.heap.size + 1, 1, none⟩ (.slice none 0 0)).heap[x]? = w2.heap[x]? := fun x _ h => (set_other _ _ _ _ _ (by omega)).trans ((set_other _ _ _ _ _ (by omega)))
      have hs4 : ((w2.setCell ⟨w.heap.size + 1, 0, none⟩ (.int .i64 0)).setCell ⟨w.heap.size + 1, 1, none⟩ (.slice none 0 0)).heap.size = w2.heap.size := by simp only [World.size_setCell]
      replace q_D := q_D.out (Nat.le_of_eq hs4.symm) hfr (by omega)
      replace S_u := S_u.out (Nat.le_of_eq hs4.symm) hfr (by omega)
      replace hBw := hBw.outB hbel (by omega)
      replace q_r := hF
      obtain ⟨w3, hw⟩ : ∃ v, ((w2.setCell ⟨w.heap.size + 1, 0, none⟩ (.int .i64 0)).setCell ⟨w.heap.size + 1, 1, none⟩ (.slice none 0 0)) = v := ⟨_, rfl⟩
      rw [hw] at hs4 q_r q_D S_u hBw ⊢
      have sz_w3 := Nat.le_of_eq hs4
      have sy_w3 := Nat.le_of_eq hs4.symm
      clear hw hF hbel hfr hcb hs4
      have HQ := Lib.hid (And.intro q_r (And.intro q_D (And.intro S_u hBw)))
      clear q_r q_D S_u hBw
      have c_q_r0 := LK.cell HQ.out.1 0
      have c_q_r1 := LK.cell HQ.out.1 1
      simp at c_q_r0 c_q_r1
      clear c_q_r0 c_q_r1
      obtain ⟨q_r, q_D, S_u, hBw⟩ := HQ.out
      clear HQ
      have hst := (Below.refl w3.heap.size w3).alloc (Nat.le_refl _) (.cells #[.int .i64 ND.level, .slice au2 ND.items.length cu2] 119)
      obtain ⟨w4, hw⟩ : ∃ v, w3.alloc (.cells #[.int .i64 ND.level, .slice au2 ND.items.length cu2] 119) = v := ⟨_, rfl⟩
      rw [hw] at hst ⊢
      clear hw
      have sz_w4 : w3.heap.size ≤ w4.heap.size := hst.size
      replace q_r := q_r.step hst
      replace q_D := q_D.step hst
      replace S_u := S_u.step hst
      replace hBw := hBw.step hst
      clear hst
      have HQ := Lib.hid (And.intro q_r (And.intro q_D (And.intro S_u hBw)))
      clear q_r q_D S_u hBw
      have c_q_r0 := LK.cell HQ.out.1 0
      have c_q_r1 := LK.cell HQ.out.1 1
      simp at c_q_r0 c_q_r1
      have hK2 := LK.blk HQ.out.2.1
      have hgr := grownBy_putObj' w4 D (.deferred none)
      have hck2 : CK w4 (w4.putObj D (.deferred none)) := ⟨by simp, fun a v h => ⟨cell_kept h hgr (fun r e => by cases e; exact ⟨_, hK2, rfl⟩), frozen_kept h hgr (fun r e => by cases e; exact ⟨_, hK2, rfl⟩)⟩⟩
      have s2 := (hck2.2 _ _ c_q_r0).1
      have s3 := (hck2.2 _ _ c_q_r1).1
      have hbK := belowK_b (w := w) (Nat.le_refl _) w4 D (.deferred (some [])) (.deferred none) (by omega) hK2 rfl rfl
      have hfin := Below.trans HQ.out.2.2.2 hbK
      refine ⟨by simp, .inl ⟨_, _, rfl, run_takeDeferred hK2, ?_⟩⟩
      refine ⟨.tuple #[.agg #[.int .i64 0, .slice none 0 0], .int .i64 8], by simp [results, Try.results73, go_sem, s2, s3], .slice none 0 0, ?_, ?_, hfin⟩
      · rw [hE, hN]
      · rw [hN]
        exact Sl.nil_ _ _ _

end Go.Proofs.Ytcibihakjcenaaa

namespace Go.Proofs.Ytcibihakjcenaaa

theorem cnt_sorted (K : KeyL) : ∀ (l : List ItemL), l.Pairwise (fun x y => lessK x.key y.key = true) → ∀ i, i < l.length → lessK (l.getD i nokI).key K = decide (i < cntN l K)
  | [], _, i, hi => by cases hi
  | a :: l, hp, i, hi => by
    obtain ⟨h1, h2⟩ := List.pairwise_cons.1 hp
    have ih := cnt_sorted K l h2
    unfold cntN at ih ⊢
    cases ha : lessK a.key K with
    | true =>
      rw [List.filter_cons_of_pos (by simpa using ha), List.length_cons]
      cases i with
      | zero => simp [ha]
      | succ i =>
        have := ih i (by simpa using hi)
        simp only [List.getD_cons_succ]
        rw [this]
        simp
    | false =>
      have hall : ∀ x ∈ l, lessK x.key K = false := fun x hx => by
        cases hx2 : lessK x.key K with
        | false => rfl
        | true => rw [lessK_trans (h1 x hx) hx2] at ha; cases ha
      have he : (a :: l).filter (fun x => lessK x.key K) = [] := by
        rw [List.filter_eq_nil_iff]
        intro x hx
        rcases List.mem_cons.1 hx with rfl | hx
        · simp [ha]
        · simp [hall x hx]
      rw [he]
      cases i with
      | zero => simp [ha]
      | succ i =>
        simp only [List.getD_cons_succ]
        have hm : l.getD i nokI ∈ l := by
          have hi2 : i < l.length := by simpa using hi
          rw [List.getD_eq_getElem?_getD, List.getElem?_eq_getElem hi2]
          exact List.getElem_mem hi2
        rw [hall _ hm]
        simp
theorem pair_of : ∀ (l : List ItemL), (∀ i, i + 1 < l.length → lessK (l.getD i nokI).key (l.getD (i + 1) nokI).key = true) → l.Pairwise (fun x y => lessK x.key y.key = true)
  | [], _ => List.Pairwise.nil
  | [a], _ => by simp
  | a :: b :: l, h => by
    have ih := pair_of (b :: l) (fun i hi => by have := h (i + 1) (by simpa using hi); simpa using this)
    refine List.pairwise_cons.2 ⟨fun y hy => ?_, ih⟩
    have h0 : lessK a.key b.key = true := by have := h 0 (by simp); simpa using this
    rcases List.mem_cons.1 hy with rfl | hy
    · exact h0
    · exact lessK_trans h0 ((List.pairwise_cons.1 ih).1 y hy)
theorem mayN_pair {n : NodeL} (h : mayN n = true) : n.items.Pairwise (fun x y => lessK x.key y.key = true) := by
  refine pair_of _ fun i hi => ?_
  have := (mayN_all h).2.2.2 (i + 1) hi
  unfold stepN at this
  simp only [Bool.and_eq_true, Bool.or_eq_true, Nat.add_sub_cancel] at this
  rcases this.1.2 with h1 | h1
  · simp at h1
  · exact h1
theorem mayN_cnt {n : NodeL} (h : mayN n = true) (K : KeyL) {i : Nat} (hi : i < n.items.length) : lessK (n.items.getD i nokI).key K = decide (i < cntN n.items K) := cnt_sorted K _ (mayN_pair h) i hi
theorem pair_get {l : List ItemL} (h : l.Pairwise (fun x y => lessK x.key y.key = true)) {i j : Nat} (hij : i < j) (hj : j < l.length) : lessK (l.getD i nokI).key (l.getD j nokI).key = true := by
  have := List.pairwise_iff_getElem.1 h i j (by omega) hj hij
  rw [List.getD_eq_getElem?_getD, List.getD_eq_getElem?_getD, List.getElem?_eq_getElem hj, List.getElem?_eq_getElem (Nat.lt_trans hij hj)]
  exact this
theorem cnt_own {n : NodeL} (h : mayN n = true) {j : Nat} (hj : j < n.items.length) : cntN n.items (n.items.getD j nokI).key = j := by
  have h1 := mayN_cnt h (n.items.getD j nokI).key hj
  rw [lessK_self] at h1
  have h2 : ¬ j < cntN n.items (n.items.getD j nokI).key := by simpa using h1.symm
  rcases Nat.eq_zero_or_pos j with rfl | hp
  · omega
  · have h3 := mayN_cnt h (n.items.getD j nokI).key (i := j - 1) (by omega)
    rw [pair_get (mayN_pair h) (by omega) hj] at h3
    have h4 : j - 1 < cntN n.items (n.items.getD j nokI).key := by simpa using h3.symm
    omega
theorem is_own {n : NodeL} (h : mayN n = true) {j : Nat} (hj : j < n.items.length) : isN n.items (n.items.getD j nokI).key = true := by
  unfold isN
  rw [cnt_own h hj]
  simp [hj]
end Go.Proofs.Ytcibihakjcenaaa

namespace Go.Proofs.Ytcibihakjcenaaa
open Go.RowKit

theorem maxL_zero (l : List UInt8) : maxL l = 0 ↔ ∀ x ∈ l, x = 0 := by
  have h : ∀ (l : List UInt8) (m : Nat), l.foldl (fun m x => max m x.toNat) m = 0 ↔ m = 0 ∧ ∀ x ∈ l, x = 0 := by
    intro l
    induction l with
    | nil => intro m; simp
    | cons y l ih =>
      intro m
      rw [List.foldl_cons, ih]
      constructor
      · rintro ⟨h1, h2⟩
        have h3 : y.toNat = 0 := by omega
        have h4 : y = 0 := UInt8.toNat_inj.1 (by rw [h3]; rfl)
        exact ⟨by omega, fun x hx => by rcases List.mem_cons.1 hx with e | hx; (exact e.trans h4); (exact h2 x hx)⟩
      · rintro ⟨h1, h2⟩
        have h4 := h2 y (List.mem_cons_self ..)
        subst h4
        exact ⟨by subst h1; rfl, fun x hx => h2 x (List.mem_cons_of_mem _ hx)⟩
  have := h l 0
  unfold maxL
  rw [this]
  exact ⟨fun h => h.2, fun h => ⟨rfl, h⟩⟩
end Go.Proofs.Ytcibihakjcenaaa

namespace Go.Proofs.Ytcibihakjcenaaa
open Go.RowKit

theorem openE_zeroN (l : List UInt8) (h : openE l = 0) : l.length = 128 ∧ opensL l = true := by
  unfold openE at h
  split at h
  · split at h
    · exact ⟨by assumption, by assumption⟩
    · cases h
  · cases h
theorem seal_openN (l : List UInt8) (h : openE l = 0) : openL l = l.drop 4 ∧ l.length = 128 ∧ sealL (l.drop 4) = l := by
  obtain ⟨h1, h2⟩ := openE_zeroN l h
  refine ⟨by unfold openL; rw [if_pos h], h1, ?_⟩
  unfold sealL
  rw [show padL (l.drop 4) = l.drop 4 by simp [padL, h1]]
  have hn : getN l 0 4 = (crc (l.drop 4)).toNat := by simpa [opensL] using h2
  have hg := (get_yes' l 0 4 (by omega)).1
  rw [← hn]
  have h4 := four_of l 0 (by omega)
  rw [show getN l 0 4 = numOf ((l.drop 0).take 4) from hg, h4]
  simp
theorem open_sealN (b : List UInt8) (h : b.length ≤ 124) : openE (sealL b) = 0 ∧ openL (sealL b) = padL b := by
  have hl := sealL_length b h
  have ht : (sealL b).take 4 = fourL (crc (padL b)).toNat := by simp [sealL, fourL]
  have hd : (sealL b).drop 4 = padL b := by simp [sealL, fourL]
  have ho : opensL (sealL b) = true := by
    simp only [opensL, beq_iff_eq, getN_zero (sealL b) (by omega), ht, hd]
    exact numOf_fourL (crc (padL b)).toNat (by have := (crc (padL b)).isLt; omega)
  have h1 : openE (sealL b) = 0 := by
    unfold openE
    rw [if_pos hl, if_pos ho]
  exact ⟨h1, by unfold openL; rw [if_pos h1, hd]⟩
theorem bodyN_cons (x : ItemL) (l : List ItemL) : bodyN (x :: l) = itemB x ++ bodyN l := by simp [bodyN]
theorem bodyN_snoc (l : List ItemL) (x : ItemL) : bodyN (l ++ [x]) = bodyN l ++ itemB x := by simp [bodyN]
theorem rdS_body (its : List ItemL) (z : List UInt8) (hm : ∀ x ∈ its, mayI x = true) : ∀ k, k ≤ its.length → rdS (bodyN its ++ z) k = some (its.take k, bodyN (its.drop k) ++ z)
  | 0, _ => rfl
  | k + 1, hk => by
    have hx : k < its.length := hk
    have hd : its.drop k = its[k] :: its.drop (k + 1) := List.drop_eq_getElem_cons hx
    obtain ⟨h1, h2, h3⟩ := read_item its[k] (hm _ (List.getElem_mem hx)) (bodyN (its.drop (k + 1)) ++ z)
    rw [rdS, rdS_body its z hm k (by omega)]
    simp only
    rw [hd, bodyN_cons, List.append_assoc, if_pos h1, h2, h3, List.drop_left, List.take_succ_eq_append_getElem hx]
theorem rdS_join (r : List UInt8) : ∀ (k : Nat) (s : List ItemL × List UInt8), rdS r k = some s → r = bodyN s.1 ++ s.2
  | 0, s, h => by cases h; rfl
  | k + 1, s, h => by
    rw [rdS] at h
    cases h0 : rdS r k with
    | none => rw [h0] at h; cases h
    | some t =>
      rw [h0] at h
      simp only at h
      split at h
      · rename_i hr
        cases h
        have ih := rdS_join r k t h0
        obtain ⟨-, h2, -⟩ := item_read t.2 hr
        rw [bodyN_snoc, h2, List.append_assoc, List.take_append_drop]
        exact ih
      · cases h
theorem back1 {n : NodeL} (h : mayN n = true) : errNd (blockN n) = 0 ∧ readNd (blockN n) = n ∧ (blockN n).length = 128 := by
  have hlen := bytesN_len h
  have hb : blockN n = sealL (bytesN n) := by unfold blockN; rw [if_pos h]
  obtain ⟨o1, o2⟩ := open_sealN (bytesN n) hlen
  obtain ⟨⟨l0, l6⟩, l5, -, -⟩ := mayN_all h
  obtain ⟨lv, its⟩ := n
  obtain ⟨lv, rfl⟩ := Int.eq_ofNat_of_zero_le l0
  simp only at l6 l5
  have e : padL (bytesN ⟨(lv : Int), its⟩) = 78 :: UInt8.ofNat lv :: UInt8.ofNat its.length :: (bodyN its ++ List.replicate (124 - (bytesN ⟨(lv : Int), its⟩).length) 0) := by
    simp [padL, bytesN, headN]
  rw [e] at o2
  have hr := rdS_body its (List.replicate (124 - (bytesN ⟨(lv : Int), its⟩).length) 0) (mayN_items h) its.length (Nat.le_refl _)
  rw [List.take_length, List.drop_length] at hr
  have n1 : (UInt8.ofNat lv).toNat = lv := by rw [UInt8.toNat_ofNat']; omega
  have n2 : (UInt8.ofNat its.length).toNat = its.length := by rw [UInt8.toNat_ofNat']; omega
  have ha : rdAll (sealL (bytesN ⟨(lv : Int), its⟩)) = some (its, List.replicate (124 - (bytesN ⟨(lv : Int), its⟩).length) 0) := by
    unfold rdAll
    rw [o2]
    simp only [List.drop_succ_cons, List.drop_zero, List.getD_cons_succ, List.getD_cons_zero, n2]
    exact hr
  have hz : maxL (List.replicate (124 - (bytesN ⟨(lv : Int), its⟩).length) (0 : UInt8)) = 0 := (maxL_zero _).2 fun x hx => (List.mem_replicate.1 hx).2
  have hk : okRd (sealL (bytesN ⟨(lv : Int), its⟩)) = true := by
    unfold okRd
    rw [ha, o2]
    simp only [List.getD_cons_succ, List.getD_cons_zero, n1, n2, h, hz]
    simp [l5]
  have he : errNd (sealL (bytesN ⟨(lv : Int), its⟩)) = 0 := by
    unfold errNd
    rw [if_pos o1, if_pos hk]
  refine ⟨by rw [hb]; exact he, ?_, by rw [hb]; exact sealL_length _ hlen⟩
  rw [hb]
  unfold readNd
  rw [if_pos he, ha, o2]
  simp only [List.getD_cons_succ, List.getD_cons_zero, n1, Option.getD_some]
theorem back2 {l : List UInt8} (h : errNd l = 0) : mayN (readNd l) = true ∧ blockN (readNd l) = l := by
  have ho : openE l = 0 := by
    unfold errNd at h
    split at h
    · assumption
    · exact h
  obtain ⟨o1, o2, o3⟩ := seal_openN l ho
  have hk : okRd l = true := by
    unfold errNd at h
    rw [if_pos ho] at h
    cases hk : okRd l with
    | true => rfl
    | false => rw [hk] at h; simp at h
  have hL : (openL l).length = 124 := by rw [o1, List.length_drop]; omega
  have hrn : readNd l = ⟨(((openL l).getD 1 0).toNat : Int), ((rdAll l).getD ([], [])).1⟩ := by
    unfold readNd
    rw [if_pos h]
  unfold okRd at hk
  cases hs : rdAll l with
  | none => rw [hs] at hk; simp at hk
  | some s =>
    rw [hs] at hk hrn
    simp only [Bool.and_eq_true, beq_iff_eq, decide_eq_true_eq] at hk
    obtain ⟨⟨k0, k2⟩, km, kz⟩ := hk
    simp only [Option.getD_some] at hrn
    unfold rdAll at hs
    rw [← o1] at o3
    generalize openL l = L at *
    match L, hL with
    | x0 :: x1 :: x2 :: r, hL =>
      simp only [List.getD_cons_succ, List.getD_cons_zero, List.drop_succ_cons, List.drop_zero] at k0 k2 km hrn hs
      subst k0
      have hj := rdS_join _ _ _ hs
      have hl := (rdS_len hs).1
      refine ⟨by rw [hrn]; exact km, ?_⟩
      rw [hrn]
      unfold blockN
      rw [if_pos km]
      have hby : bytesN ⟨(x1.toNat : Int), s.1⟩ = 78 :: x1 :: x2 :: bodyN s.1 := by
        simp [bytesN, headN, hl]
      have hz : s.2 = List.replicate s.2.length 0 := List.eq_replicate_iff.2 ⟨rfl, (maxL_zero _).1 kz⟩
      have hp : padL (bytesN ⟨(x1.toNat : Int), s.1⟩) = 78 :: x1 :: x2 :: r := by
        have hrl : r.length = (bodyN s.1).length + s.2.length := by rw [hj, List.length_append]
        have h3 : r.length = 121 := by simpa using hL
        unfold padL
        rw [hby]
        simp only [List.length_cons, List.cons_append]
        rw [show 124 - ((bodyN s.1).length + 1 + 1 + 1) = s.2.length by omega, ← hz, ← hj]
      have hp2 : padL (78 :: x1 :: x2 :: r) = 78 :: x1 :: x2 :: r := by
        unfold padL
        rw [hL]
        simp
      rw [← o3]
      unfold sealL
      rw [hp, hp2]
    | [], hL => simp at hL
    | [_], hL => simp at hL
    | [_, _], hL => simp at hL
end Go.Proofs.Ytcibihakjcenaaa

