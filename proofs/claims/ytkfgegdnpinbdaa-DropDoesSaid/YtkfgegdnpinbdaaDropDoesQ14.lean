/- DropDoes: the words and contracts, part 14. -/
import Derived.Test.YtkfgegdnpinbdaaDropDoesQ1
import Derived.Test.YtkfgegdnpinbdaaDropDoesQ2
import Derived.Test.YtkfgegdnpinbdaaDropDoesQ3
import Derived.Test.YtkfgegdnpinbdaaDropDoesQ4
import Derived.Test.YtkfgegdnpinbdaaDropDoesQ5
import Derived.Test.YtkfgegdnpinbdaaDropDoesQ6
import Derived.Test.YtkfgegdnpinbdaaDropDoesQ7
import Derived.Test.YtkfgegdnpinbdaaDropDoesQ8
import Derived.Test.YtkfgegdnpinbdaaDropDoesQ10
import Derived.Test.YtkfgegdnpinbdaaDropDoesQ11
import Derived.Test.YtkfgegdnpinbdaaDropDoesQ12
import Derived.Test.YtkfgegdnpinbdaaDropDoesQ13
import Derived.WalkKit
import Derived.WalkLawsBesides
import Derived.WalkSpells
import Derived.Lib.Hide
import Derived.Laws.Rows
import Derived.Laws.AppendOwnNone
import Derived.Maps.AppendAt
import Derived.ProofKit
import Derived.Deep.Slices
import Derived.WideShapes
import Derived.RangeFuncNested
import Derived.RangeFuncBound
import Derived.RangeFuncCalls
import Derived.RangeFuncLeaves
import Derived.RangeFuncBox
import Derived.Shelf.Abstract
import Derived.Shelf.RegionOpen
import Derived.OwnWalkIn
import Derived.TacticsInMore
import Derived.LoopNIn
import Derived.LoopIn
import Derived.Lib.AppendZerosOnto
import Derived.Lib.SliceRun
import Derived.Lib.Walk
import Derived.Deep.LoopGhost
import Derived.Laws.CopyOwn
import Derived.Laws.CopyRow
import Derived.OrdersHeld
import Derived.Deep.QuietTactic
import Derived.BigQuiet
import Derived.StillTailTactics
import Derived.OpenShut
import Derived.Deep.DeepCutAuto
import Derived.Laws.MakeOwn
import Derived.Deep.RegionHeld
import Derived.KernelRfl
import Derived.BigFrameIn
import Derived.OrdersIn
namespace Go.Proofs.Ytkfgegdnpinbdaa
open Go.RowKit Go.Shelf
attribute [local go_sem] Oper.semAt_some

/-- A region that cannot panic, where what follows is not known. -/
def noPanic (Q : Exit → Act → World → Prop) : Exit → Act → World → Prop
  | .panic _, _, _ => False
  | e, a, w => Q e a w
theorem wp_noPanic {P : Program} {c : Code} {Q : Exit → Act → World → Prop} {a : Act} {w : World} (h : c.wp P (noPanic Q) a w) : c.wp P Q a w :=
  Code.wp_mono (fun e a w q => by cases e <;> first | exact q | exact q.elim) h
theorem noPanic_normal {K : Act → World → Prop} {Q : Exit → Act → World → Prop} {a : Act} {w : World} (h : K a w) : noPanic (Exit.then K Q) .normal a w := h

theorem wpIn_cutB {F : Fence} {n l : Nat} {P : Program} {c : Code} {K : Act → World → Prop} {Q' : Exit → Act → World → Prop} {a : Act} {w : World} (R : Act → World → Prop) (rest : ∀ a' w', R a' w' → K a' w')
    (first : c.wpIn F n P (Exit.inBlock l (fun e a' w' => e = .normal ∧ R a' w')) a w) : c.wpIn F n P (Exit.inBlock l (Exit.then K Q')) a w := by
  have hm : ∀ e a' w', (e = Exit.normal ∧ R a' w') → Exit.then K Q' e a' w' := by rintro _ a' w' ⟨rfl, h⟩; exact rest _ _ h
  refine wpIn_mono first fun e a' w' q => ?_
  cases e with
  | exit id =>
    by_cases h : id = l
    · simp only [Exit.inBlock, h, if_true] at q ⊢
      exact hm _ _ _ ⟨rfl, q.2⟩
    · simp only [Exit.inBlock, h, if_false] at q ⊢
      first | exact hm _ _ _ q | exact q.elim | exact q.1.elim
  | _ => exact hm _ _ _ q

def errBn (s : StoreL) (p : Nat) : Int := if s.now.getD p 0 = 0 then 8 else if errNd (seenD s.disk p) = 0 then 0 else 8
def nodeB (s : StoreL) (p : Nat) : NodeL := if errBn s p = 0 then readNd (seenD s.disk p) else ⟨0, []⟩

set_option maxRecDepth 100000 in
set_option maxHeartbeats 2000000 in
theorem bnode_any  (lo g nb no nc : Nat) (b u y : Value) (s : StoreL) (p : Nat) (w : World) (h : BenAt w lo g nb no nc b u y s) (hmd : mayD s.disk = true) (hp : p < 256)  :
    Calls Try.prog 102 #[.pointer (some ⟨g, 0, none⟩), .int .i64 p] w fun e w' => ∃ v, e = .returned (.tuple #[.agg #[.int .i64 (nodeB s p).level, v], .int .i64 (errBn s p)]) ∧ Sl rItemT w' w.heap.size w'.heap.size v (nodeB s p).items ∧ Below w.heap.size w w' := by
  obtain ⟨ab, cb, rfl, g1, g2, -, -⟩ := h.disk.1
  obtain ⟨au, cu, rfl, g3, g4, -, -⟩ := h.disk.2
  obtain ⟨ay, cy, rfl, g5, g6⟩ := h.last.form rfl
  have hst := (((Below.refl w.heap.size w).alloc (Nat.le_refl _) (.cells #[.int .i64 (p : Int)] 3)).alloc (by simp) (.cells #[.int .i64 0, .slice none 0 0] 47))
  have hq := two_new w (.cells #[.int .i64 (p : Int)] 3) (.cells #[.int .i64 0, .slice none 0 0] 47)
  have q_p := LK.of hq.1
  have q_r := LK.of hq.2
  have hB : LW w _ := hst
  have sz_V : w.heap.size + 1 < ((w.alloc (.cells #[.int .i64 (p : Int)] 3)).alloc (.cells #[.int .i64 0, .slice none 0 0] 47)).heap.size := by simp
  obtain ⟨V, hV⟩ : ∃ V, ((w.alloc (.cells #[.int .i64 (p : Int)] 3)).alloc (.cells #[.int .i64 0, .slice none 0 0] 47)) = V := ⟨_, rfl⟩
  rw [hV] at sz_V q_p q_r hB
  clear hst  hq
  have HB0 := Lib.hid h
  clear h
  have HQ := Lib.hid (And.intro q_p (And.intro q_r hB))
  clear q_p q_r hB
  have c_q_p0 := LK.cell HQ.out.1 0
  have c_q_r0 := LK.cell HQ.out.2.1 0
  have c_q_r1 := LK.cell HQ.out.2.1 1
  simp at c_q_p0 c_q_r0 c_q_r1
  have f1 := (HB0.out.step HQ.out.2.2).cell p hp
  simp only [bV] at f1
  have c_b := (HB0.out.step HQ.out.2.2).blk
  have c_b0 := blk_cell c_b 0
  have c_b1 := blk_cell c_b 1
  have c_b2 := blk_cell c_b 2
  have c_b3 := blk_cell c_b 3
  simp at c_b0 c_b1 c_b2 c_b3
  clear c_b
  obtain ⟨l1, l2, l3, l4⟩ := (HB0.out.step HQ.out.2.2).lo_
  have i1 : ¬ (256 : Int) ≤ p := by omega
  obtain ⟨x0, hx0⟩ : ∃ x, s.now.getD p 0 = x := ⟨_, rfl⟩
  rw [hx0] at f1
  refine (callsIn_wide (n := 5)).1 ?_
  refine callsIn_of_wp_marks Try.func102 rfl trivial ?_ rfl
  simp only [Try.ntmps102, List.size_toArray, List.length_cons, List.length_nil, Nat.reduceAdd, Nat.reduceSub, Array.replicate_succ, Array.replicate_zero, List.push_toArray, List.append_toArray, List.nil_append, List.cons_append]
  gi_wp2_with fail
  clear hV
  refine wpIn_wide.2 ?_
  go_quiet (fail)
  have F1 := Lib.hid f1
  clear F1 f1 c_b0 c_b1 c_b2 c_b3
  clear c_q_p0 c_q_r0 c_q_r1
  obtain ⟨q_p, q_r, hB⟩ := HQ.out
  clear HQ
  have hst := below_dn V.heap.size V nq
  obtain ⟨w1, hw⟩ : ∃ v, V.drewN nq = v := ⟨_, rfl⟩
  rw [hw] at hst ⊢
  clear hw
  have sz_w1 : V.heap.size ≤ w1.heap.size := hst.size
  replace q_p := q_p.step hst
  replace q_r := q_r.step hst
  replace hB := hB.step hst
  clear hst
  have HQ := Lib.hid (And.intro q_p (And.intro q_r hB))
  clear q_p q_r hB
  have c_q_p0 := LK.cell HQ.out.1 0
  have c_q_r0 := LK.cell HQ.out.2.1 0
  have c_q_r1 := LK.cell HQ.out.2.1 1
  simp at c_q_p0 c_q_r0 c_q_r1
  have f1 := (HB0.out.step HQ.out.2.2).cell p hp
  rw [hx0] at f1
  simp only [bV] at f1
  have c_b := (HB0.out.step HQ.out.2.2).blk
  have c_b0 := blk_cell c_b 0
  have c_b1 := blk_cell c_b 1
  have c_b2 := blk_cell c_b 2
  have c_b3 := blk_cell c_b 3
  simp at c_b0 c_b1 c_b2 c_b3
  clear c_b
  by_cases hz : x0 = 0
  · subst hz
    have e0 : ((0 : UInt8).toNat : Int) = 0 := rfl
    have hE : errBn s p = 8 := by unfold errBn; rw [if_pos hx0]
    have hN : nodeB s p = ⟨0, []⟩ := by unfold nodeB; rw [hE]; rfl
    have HE := Lib.hid (And.intro hE hN)
    clear hE hN
    rw [e0]
    clear c_q_p0 c_q_r0 c_q_r1
    have c_q_p0 := LK.cell HQ.out.1 0
    have c_q_r0 := LK.cell HQ.out.2.1 0
    have c_q_r1 := LK.cell HQ.out.2.1 1
    have z_q_r0 := LK.frozen HQ.out.2.1 0
    have z_q_r1 := LK.frozen HQ.out.2.1 1
    simp at c_q_p0 c_q_r0 c_q_r1
    gi_wp2
    clear z_q_r0 z_q_r1 c_q_p0 c_q_r0 c_q_r1
    obtain ⟨q_p, q_r, hB⟩ := HQ.out
    clear HQ
    have hcb := LK.blk q_r
    have hF : LK (w.heap.size + 1) (.cells #[.int .i64 0, .slice none 0 0] 47) ((w1.setCell ⟨w.heap.size + 1, 0, none⟩ (.int .i64 0)).setCell ⟨w.heap.size + 1, 1, none⟩ (.slice none 0 0)) := LK.of (set_block (set_block hcb 0 _) 1 _)
    have hbel : Below (w.heap.size + 1) w1 ((w1.setCell ⟨w.heap.size + 1, 0, none⟩ (.int .i64 0)).setCell ⟨w.heap.size + 1, 1, none⟩ (.slice none 0 0)) := ((Below.refl _ w1).setCell (p := ⟨w.heap.size + 1, 0, none⟩) (Nat.le_refl _) _).setCell (p := ⟨w.heap.size + 1, 1, none⟩) (Nat.le_refl _) _
    have hfr : ∀ x, x < w1.heap.size → (x < w.heap.size + 1 ∨ w.heap.size + 1 + 1 ≤ x) → ((w1.setCell ⟨w.heap.size + 1, 0, none⟩ (.int .i64 0)).setCell ⟨w.heap.size + 1, 1, none⟩ (.slice none 0 0)).heap[x]? = w1.heap[x]? := fun x _ h => (set_other _ _ _ _ _ (by omega)).trans ((set_other _ _ _ _ _ (by omega)))
    have hs4 : ((w1.setCell ⟨w.heap.size + 1, 0, none⟩ (.int .i64 0)).setCell ⟨w.heap.size + 1, 1, none⟩ (.slice none 0 0)).heap.size = w1.heap.size := by simp only [World.size_setCell]
    replace q_p := q_p.out (Nat.le_of_eq hs4.symm) hfr (by omega)
    replace hB := hB.outB hbel (by omega)
    replace q_r := hF
    obtain ⟨w2, hw⟩ : ∃ v, ((w1.setCell ⟨w.heap.size + 1, 0, none⟩ (.int .i64 0)).setCell ⟨w.heap.size + 1, 1, none⟩ (.slice none 0 0)) = v := ⟨_, rfl⟩
    rw [hw] at hs4 q_p q_r hB ⊢
    have sz_w2 := Nat.le_of_eq hs4
    have sy_w2 := Nat.le_of_eq hs4.symm
    clear hw hF hbel hfr hcb hs4
    have HQ := Lib.hid (And.intro q_p (And.intro q_r hB))
    clear q_p q_r hB
    have c_q_p0 := LK.cell HQ.out.1 0
    have c_q_r0 := LK.cell HQ.out.2.1 0
    have c_q_r1 := LK.cell HQ.out.2.1 1
    have z_q_r0 := LK.frozen HQ.out.2.1 0
    have z_q_r1 := LK.frozen HQ.out.2.1 1
    simp at c_q_p0 c_q_r0 c_q_r1
    gi_wp2
    refine ⟨.tuple #[.agg #[.int .i64 0, .slice none 0 0], .int .i64 8], by simp [results, Try.results102, go_sem, c_q_r0, c_q_r1], .slice none 0 0, by rw [HE.out.1, HE.out.2], ?_⟩
    rw [HE.out.2]
    exact ⟨Sl.nil_ _ _ _, HQ.out.2.2⟩
  have e0 := u8_nz hz
  have HD0 := Lib.hid (HB0.out.disk.ck (hideW_out w _))
  have HM := Lib.hid (may_len hmd)
  have hpl : p < s.disk.blocks.length := by have := HM.out.1; omega
  obtain ⟨bb, bo, cb2, e2, -, z1, z2, z3, hbe⟩ := HD0.out.1.at_ (by omega)
  injection e2 with ea _ ec
  subst ea ec
  obtain ⟨v, hv, hvb⟩ := hbe p (s.disk.blocks.getD p []) (get_l _ _ _ hpl)
  obtain ⟨dat, hdat⟩ : ∃ dat, s.disk.blocks.getD p [] = dat := ⟨_, rfl⟩
  rw [hdat] at hvb
  obtain ⟨xa, xc, rfl, -, -⟩ := hvb.form rfl
  have f2 : w1.cell? ⟨bb, bo + p, none⟩ = some (.slice xa dat.length xc) := (Below.cell (p := ⟨bb, bo + p, none⟩) HQ.out.2.2 z1).trans (by simpa [rBytes] using hv)
  have i2 : ¬ (s.disk.blocks.length : Int) ≤ p := by omega
  have i3 : (p : Int) < s.disk.blocks.length := by omega
  have hwsz : w.heap.size ≤ w1.heap.size := by omega
  have HDA := Lib.hid (And.intro hdat hvb)
  clear hdat hvb hv hbe
  unfold maxLen at g2 z3
  gi_wp2_with fail
  refine wpIn_wide.2 ?_
  have d1 : bb < w1.heap.size := by omega
  have d3 : g < w1.heap.size := (Array.getElem?_eq_some_iff.1 (HB0.out.step HQ.out.2.2).blk).1
  have x1 := fun X => ((aft_below w1 X).cell (p := ⟨g, 0, none⟩) (by show g < w1.heap.size; omega)).trans c_b0
  have x2 := fun X => ((aft_below w1 X).cell (p := ⟨w.heap.size, 0, none⟩) (by show w.heap.size < w1.heap.size; omega)).trans c_q_p0
  have x3 := fun X => ((aft_below w1 X).cell (p := ⟨bb, bo + p, none⟩) (by show bb < w1.heap.size; omega)).trans f2
  go_cut [6] from 21 to 29 (fun t6 wx => ∃ g6 : Nat, t6 = .pointer (some ⟨g6, 0, none⟩) ∧ LK g6 (.cells #[.slice xa dat.length xc] 26) wx ∧ w1.heap.size ≤ g6 ∧ Below w1.heap.size w1 wx)
  case first =>
    refine wp_noPanic ?_
    refine wp_region_held_drew (S := Cls w1) (by kernel_rfl) (Cls.drew w1) (fun hCl => ?_)
    refine wpAnyH_seg (fuel := 9) (by kernel_rfl) (fun _ d _ _ _ h => by cases d <;> exact h) hCl [0, 6] _ _ _ (by kernel_rfl) (by kernel_rfl) ?_
    simp only [opsOf_cons, opsOf_nil, consOp_some, List.getElem?_toArray, List.getElem?_cons_succ, List.getElem?_cons_zero]
    repeat (first | go_big_quiet_step (fail) | quiet_step (fail))
    refine wpQuiet_nil ?_
    refine wpAnyH_each (fuel := 8) [1, 9] (by kernel_rfl) (by simp) (by kernel_rfl) ?_
    refine Each.cons _ rfl (fun K' hK => ?_) ?_
    · go_simp
      have hst := hCl.below
      have hCl := Cls.of hst
      refine hK.out (Cls w1) (fun _ h => h) hCl ?_
      clear hK K'
      refine wpAnyH_seg (fuel := 2) (by kernel_rfl) (fun _ d _ _ _ h => by cases d <;> exact h) hCl [2, 3, 4, 5, 7, 8] _ _ _ (by kernel_rfl) (by kernel_rfl) ?_
      simp only [opsOf_cons, opsOf_nil, consOp_some, List.getElem?_toArray, List.getElem?_cons_succ, List.getElem?_cons_zero]
      repeat (first | go_big_quiet_step (fail) | quiet_step (fail))
      refine wpQuiet_nil ?_
      refine wpAnyH_each (fuel := 1) [9] (by kernel_rfl) (by simp) (by kernel_rfl) ?_
      refine Each.cons _ rfl (fun K' hK => ?_) Each.nil
      go_simp
      have hs := cls_alloc hCl (.cells #[.slice none 0 0] 26)
      have F6 : LK w1.heap.size (.cells #[.slice none 0 0] 26) _ := cls_new hCl (.cells #[.slice none 0 0] 26)
      have hlt : w1.drew.heap.size < (w1.drew.alloc (.cells #[.slice none 0 0] 26)).heap.size := by simp
      have hst := below_step hCl.below hCl.below.size hs
      have lo_F6 := hCl.below.size
      obtain ⟨z2, hz⟩ : ∃ v, (w1.alloc (.cells #[.slice none 0 0] 26)).drew = v := ⟨_, rfl⟩
      have hz2 : w1.drew.alloc (.cells #[.slice none 0 0] 26) = z2 := hz
      rw [hz] at ⊢
      rw [hz2] at hst hlt F6
      have sz_z2 := hlt
      clear hz hz2 hs hlt
      have hCl := Cls.of hst
      refine hK.out (Cls w1) (fun _ h => h) hCl ?_
      clear hK K'
      refine wpAnyH_each (fuel := 0) [10] (by kernel_rfl) (by simp) (by kernel_rfl) ?_
      refine Each.cons _ rfl (fun K' hK => ?_) Each.nil
      have hcb := LK.blk F6
      have r0 := LK.cell F6 0
      simp at r0
      have s0 := LK.frozen F6 0
      go_simp
      have F7 : LK (w1.heap.size) (.cells #[.slice xa dat.length xc] 26) (z2.setCell ⟨w1.heap.size, 0, none⟩ (.slice xa dat.length xc)) := LK.of (set_block hcb 0 _)
      have hst := hCl.below.setCell (p := ⟨w1.heap.size, 0, none⟩) lo_F6 (.slice xa dat.length xc)
      have hCl := Cls.of hst
      refine hK.out (Cls w1) (fun _ h => h) hCl ?_
      clear hK K'
      refine wpAnyH_done (by kernel_rfl) ?_ _
      refine noPanic_normal ?_
      go_wp2
      go_meet
      exact ⟨_, rfl, F7, lo_F6, hst⟩
    refine Each.cons _ rfl (fun K' hK => ?_) ?_
    · go_simp
      have hs := cls_alloc hCl (.cells #[.slice none 0 0] 26)
      have F6 : LK w1.heap.size (.cells #[.slice none 0 0] 26) _ := cls_new hCl (.cells #[.slice none 0 0] 26)
      have hlt : w1.drew.heap.size < (w1.drew.alloc (.cells #[.slice none 0 0] 26)).heap.size := by simp
      have hst := below_step hCl.below hCl.below.size hs
      have lo_F6 := hCl.below.size
      obtain ⟨z4, hz⟩ : ∃ v, (w1.alloc (.cells #[.slice none 0 0] 26)).drew = v := ⟨_, rfl⟩
      have hz2 : w1.drew.alloc (.cells #[.slice none 0 0] 26) = z4 := hz
      rw [hz] at ⊢
      rw [hz2] at hst hlt F6
      have sz_z4 := hlt
      clear hz hz2 hs hlt
      have hCl := Cls.of hst
      refine hK.out (Cls w1) (fun _ h => h) hCl ?_
      clear hK K'
      refine wpAnyH_each (fuel := 7) [1] (by kernel_rfl) (by simp) (by kernel_rfl) ?_
      refine Each.cons _ rfl (fun K' hK => ?_) Each.nil
      go_simp
      have hst := hCl.below
      have hCl := Cls.of hst
      refine hK.out (Cls w1) (fun _ h => h) hCl ?_
      clear hK K'
      refine wpAnyH_seg (fuel := 1) (by kernel_rfl) (fun _ d _ _ _ h => by cases d <;> exact h) hCl [2, 3, 4, 5, 7, 8] _ _ _ (by kernel_rfl) (by kernel_rfl) ?_
      simp only [opsOf_cons, opsOf_nil, consOp_some, List.getElem?_toArray, List.getElem?_cons_succ, List.getElem?_cons_zero]
      repeat (first | go_big_quiet_step (fail) | quiet_step (fail))
      refine wpQuiet_nil ?_
      refine wpAnyH_each (fuel := 0) [10] (by kernel_rfl) (by simp) (by kernel_rfl) ?_
      refine Each.cons _ rfl (fun K' hK => ?_) Each.nil
      have hcb := LK.blk F6
      have r0 := LK.cell F6 0
      simp at r0
      have s0 := LK.frozen F6 0
      go_simp
      have F7 : LK (w1.heap.size) (.cells #[.slice xa dat.length xc] 26) (z4.setCell ⟨w1.heap.size, 0, none⟩ (.slice xa dat.length xc)) := LK.of (set_block hcb 0 _)
      have hst := hCl.below.setCell (p := ⟨w1.heap.size, 0, none⟩) lo_F6 (.slice xa dat.length xc)
      have hCl := Cls.of hst
      refine hK.out (Cls w1) (fun _ h => h) hCl ?_
      clear hK K'
      refine wpAnyH_done (by kernel_rfl) ?_ _
      refine noPanic_normal ?_
      go_wp2
      go_meet
      exact ⟨_, rfl, F7, lo_F6, hst⟩
    exact Each.nil
  case rest =>
  obtain ⟨g6, rfl, q_k, hlo6, hst⟩ := hcut
  clear c_q_p0 c_q_r0 c_q_r1
  clear f1 c_b0 c_b2 c_b3 x1 x2 x3 f2
  obtain ⟨q_p, q_r, hB⟩ := HQ.out
  clear HQ
  have sz_c : w1.heap.size ≤ wc.heap.size := hst.size
  replace c_b1 := (hst.cell (p := ⟨g, 1, none⟩) d3).trans c_b1
  replace q_p := q_p.step hst
  replace q_r := q_r.step hst
  replace hB := hB.step hst
  clear hst
  have HQ := Lib.hid (And.intro q_p (And.intro q_r (And.intro q_k hB)))
  clear q_p q_r q_k hB
  have c_q_p0 := LK.cell HQ.out.1 0
  have c_q_r0 := LK.cell HQ.out.2.1 0
  have c_q_r1 := LK.cell HQ.out.2.1 1
  have c_q_k0 := LK.cell HQ.out.2.2.1 0
  simp at c_q_p0 c_q_r0 c_q_r1 c_q_k0
  have HZ := Lib.hid (And.intro d1 (And.intro d3 (And.intro hwsz hlo6)))
  gi_wp2_with (refine ⟨trivial, ?_⟩; gi_at_call 84; refine (backw_in Fence.wide _ trivial rfl _ _ _ _).mono ?_; rintro e w2 ⟨rfl, rfl⟩)
  have HE := Lib.hid HQ
  have hg6 : g6 < wc.heap.size := (Array.getElem?_eq_some_iff.1 (LK.blk HQ.out.2.2.1)).1
  have hbx := cell_new_l wc (.slice au s.disk.waits.length cu) 23
  have hst : Below wc.heap.size wc (wc.alloc (.cells #[.slice au s.disk.waits.length cu] 23)) := (Below.refl wc.heap.size wc).alloc (Nat.le_refl _) _
  have hsV : wc.heap.size < (wc.alloc (.cells #[.slice au s.disk.waits.length cu] 23)).heap.size := by simp
  obtain ⟨V2, hV2⟩ : ∃ v, wc.alloc (.cells #[.slice au s.disk.waits.length cu] 23) = v := ⟨_, rfl⟩
  rw [hV2] at hbx hst hsV ⊢
  clear hV2
  clear c_q_p0 c_q_r0 c_q_r1 c_q_k0
  obtain ⟨q_p, q_r, q_k, hB⟩ := HQ.out
  clear HQ
  replace q_p := q_p.step hst
  replace q_r := q_r.step hst
  replace q_k := q_k.step hst
  replace hB := hB.step hst
  have HQ := Lib.hid (And.intro q_p (And.intro q_r (And.intro q_k hB)))
  clear q_p q_r q_k hB
  obtain ⟨gb, hgb⟩ : ∃ v, wc.heap.size = v := ⟨_, rfl⟩
  rw [hgb] at hbx hsV hg6 ⊢
  obtain ⟨bs, hbl, hba, hbc⟩ := writes_of (HD0.out.2.below HQ.out.2.2.2 (Nat.le_refl _))
  have HA := Lib.hid (And.intro hbl (And.intro hba hbc))
  have HX := Lib.hid (And.intro hbx hsV)
  clear hbl hba hbc hbx hst hgb c_b1
  refine wpIn_cutB (fun a1 W => ∃ D v, a1 = ({ tmps := #[.pointer (some ⟨g, 0, none⟩), .int .i64 p, undef, .pointer (some ⟨w.heap.size, 0, none⟩), .pointer (some ⟨w.heap.size + 1, 0, none⟩), .int .i64 0, .pointer (some ⟨g6, 0, none⟩), undef, undef, undef, undef, .pointer (some ⟨g, 0, none⟩), .pointer (some ⟨g, 0, none⟩), .pointer (some ⟨g, 0, none⟩), .pointer (some ⟨g, 2, none⟩), .slice (some ⟨nb, no, none⟩) 256 nc, .int .i64 p, .pointer (some ⟨nb, no + p, none⟩), .int .u8 (x0.toNat : Int), .bool false, undef, u21, u22, u23, u24, u25, u26, u27, u28, u29, .pointer (some ⟨g, 0, none⟩), .pointer (some ⟨g, 0, none⟩), .pointer (some ⟨g, 0, none⟩), .pointer (some ⟨g, 0, none⟩), .pointer (some ⟨g, 1, none⟩), .slice au s.disk.waits.length cu, .func (.func 109) #[] #[.pointer (some ⟨gb, 0, none⟩)], undef, undef, undef, undef, undef, undef, undef, undef, undef, undef, undef, undef, undef, undef, undef, undef, undef], defers := [{ target := .collected D, args := #[] }] } : Act) ∧ V2.heap.size ≤ D ∧ W.heap[D]? = some (.deferred (some [])) ∧ W.cell? ⟨g6, 0, none⟩ = some v ∧ Bytes W 0 W.heap.size v (seenD s.disk p) ∧ Below g6 V2 W) ?rest ?loop
  case loop =>
    refine wpIn_rangeFunc_ownH rfl (by omega) (gf := 109) (lb := #[.pointer (some ⟨gb, 0, none⟩)]) rfl trivial (enters_of Try.func109 (by kernel_rfl) rfl)
      (backw_stops Fence.wide 4 trivial rfl (by omega) gb w.heap.size au cu bs V2 HX.out.2 (by omega) (by rw [HA.out.1]; exact HX.out.1.1) (by rw [HA.out.1]; exact g3) g4 HA.out.2.2) KeepB.trans (keepB_b (by omega) HX.out.2) (Below.refl _ _) (fun _ => rfl)
      (fun pre W => (∀ i ∈ pre, bs[i.1].1 ≠ (p : Int)) ∧ Below V2.heap.size V2 W)
      (fun c pre W => (∃ Wx, (c = .exit 0 ∧ ∃ pre' x, pre = pre' ++ [x] ∧ (∀ i ∈ pre', bs[i.1].1 ≠ (p : Int)) ∧ bs[x.1].1 = (p : Int) ∧ Wx.cell? ⟨g6, 0, none⟩ = some bs[x.1].2) ∧ CK Wx W) ∧ Below g6 V2 W)
      ((ownFrom_pure _ _).and (ownFrom_below (Nat.le_refl _) (Nat.le_refl _)))
      (fun c => ((ck_own _).from _).and (ownFrom_below (n₀ := g6) (B := V2.heap.size) (w₀ := V2) (show g6 ≤ V2.heap.size by omega) (show g6 ≤ V2.heap.size by omega)))
      ⟨fun _ h => (by cases h), Below.refl _ _⟩
      (fun x a' W => ∃ bx, a' = ({ tmps := #[.pointer (some ⟨g, 0, none⟩), .int .i64 p, undef, .pointer (some ⟨w.heap.size, 0, none⟩), .pointer (some ⟨w.heap.size + 1, 0, none⟩), .int .i64 0, .pointer (some ⟨g6, 0, none⟩), undef, .pointer (some ⟨bx, 0, none⟩), undef, undef, .pointer (some ⟨g, 0, none⟩), .pointer (some ⟨g, 0, none⟩), .pointer (some ⟨g, 0, none⟩), .pointer (some ⟨g, 2, none⟩), .slice (some ⟨nb, no, none⟩) 256 nc, .int .i64 p, .pointer (some ⟨nb, no + p, none⟩), .int .u8 (x0.toNat : Int), .bool false, undef, u21, u22, u23, u24, u25, u26, u27, u28, u29, .pointer (some ⟨g, 0, none⟩), .pointer (some ⟨g, 0, none⟩), .pointer (some ⟨g, 0, none⟩), .pointer (some ⟨g, 0, none⟩), .pointer (some ⟨g, 1, none⟩), .slice au s.disk.waits.length cu, .func (.func 109) #[] #[.pointer (some ⟨gb, 0, none⟩)], .int .i64 (x.1 : Int), .agg #[.int .i64 bs[x.1].1, bs[x.1].2], undef, undef, undef, undef, undef, undef, undef, undef, undef, undef, undef, undef, undef, undef, undef], defers := [] } : Act) ∧ V2.heap.size ≤ bx ∧ W.heap[bx]? = some (.cells #[.int .i64 bs[x.1].1, bs[x.1].2] 92 (0, 0)))
      ?hax ?assign ?body ?done ?stop
    case hax =>
      intro x a' s W W' row h hg hr
      obtain ⟨bx, h1, h2, h3⟩ := h
      refine ⟨bx, h1, h2, ?_⟩
      refine (hg.block bx (Array.getElem?_eq_some_iff.1 h3).1 (fun e => ?_)).trans h3
      obtain ⟨-, o, ho, hc⟩ := hr bx e.symm
      rw [h3] at ho
      cases ho
      cases hc
    case assign =>
      rintro l pre x W K ⟨hU, hBW⟩ hK
      obtain ⟨e1, e2⟩ := HA.out.2.1 x.1 bs[x.1] (by simp)
      have hnew := World.alloc_heap_new W (.cells #[.int .i64 bs[x.1].1, bs[x.1].2] 92)
      have hfr := (Below.refl W.heap.size W).alloc (Nat.le_refl _) (.cells #[.int .i64 bs[x.1].1, bs[x.1].2] 92)
      have hHK := hK
      obtain ⟨av, cv, hv, -, -⟩ := e2.form rfl
      rw [hv] at hnew hfr ⊢
      have HV := Lib.hid hv
      generalize (s.disk.waits.getD x.1 ⟨0, []⟩).data.length = dl at *
      have HK := Lib.hid hHK
      clear hHK hK e1 e2 hv
      gi_wp2
      refine HK.out _ _ ⟨hfr.size, fun k o _ hko _ => (hfr.block k (Array.getElem?_eq_some_iff.1 hko).1).trans hko⟩ ⟨hfr.mono (by have := hBW.size; omega), hfr.cell (p := ⟨gb, 0, none⟩) (Nat.lt_of_lt_of_le HX.out.2 hBW.size)⟩ ⟨hU, below_step hBW hBW.size hfr⟩ ⟨W.heap.size, ?_, hBW.size, by rw [HV.out]; exact hnew⟩
      rw [HV.out]
    case body =>
      rintro l pre x a' W hl - ⟨hU, hBW⟩ ⟨bx, rfl, hbx, hcell⟩ hlen
      have b0 := blk_cell hcell 0
      have b1 := blk_cell hcell 1
      simp at b0 b1
      have m1 := (hBW.cell (p := ⟨w.heap.size, 0, none⟩) (by show w.heap.size < V2.heap.size; omega)).trans (by simpa using LK.cell (HQ.out.1) 0 : V2.cell? ⟨w.heap.size, 0, none⟩ = some (.int .i64 p))
      have r6 := (hBW.block g6 (by omega)).trans (LK.blk (HQ.out.2.2.1))
      have m6 := blk_cell r6 0
      have z6 := blk_frozen r6 0
      simp at m6
      have HP := Lib.hid (And.intro hU (And.intro hBW r6))
      clear hU hBW hcell r6
      obtain ⟨xa2, hxa⟩ : ∃ xa, bs[x.1].1 = xa := ⟨_, rfl⟩
      obtain ⟨xv, hxv⟩ : ∃ xv, bs[x.1].2 = xv := ⟨_, rfl⟩
      rw [hxa] at b0
      rw [hxv] at b1
      rw [hxa, hxv]
      obtain ⟨-, e2⟩ := HA.out.2.1 x.1 bs[x.1] (by simp)
      obtain ⟨av, cv, hv, -, -⟩ := e2.form rfl
      clear e2
      generalize (s.disk.waits.getD x.1 ⟨0, []⟩).data.length = dl at *
      rw [hxv] at hv
      subst hv
      have HXA := Lib.hid (And.intro hxa hxv)
      clear hxa hxv
      by_cases hat : xa2 = (p : Int)
      · have dt : (xa2 == (p : Int)) = true := by simp [hat]
        gi_wp2
        refine ⟨⟨Nat.le_of_eq (World.size_setCell _ _ _).symm, fun k o hVk hk _ => (set_other W _ _ _ k (by omega)).trans hk⟩, ⟨_, ⟨rfl, pre, x, rfl, HP.out.1, by rw [HXA.out.1]; exact hat, ?_⟩, CK.refl _⟩, (HP.out.2.1.mono (show g6 ≤ V2.heap.size by omega)).setCell (p := ⟨g6, 0, none⟩) (Nat.le_refl _) _⟩
        rw [HXA.out.2]
        exact World.cell?_setCell_same' _ _ _ (by rw [m6]; rfl)
      · have dt : (xa2 == (p : Int)) = false := by simp [hat]
        gi_wp2
        refine ⟨KeepsFrom.refl _ _, KeepB.refl _ _ _, fun i hi => ?_, HP.out.2.1⟩
        rcases List.mem_append.1 hi with hi | hi
        · exact HP.out.1 i hi
        · obtain rfl := List.mem_singleton.1 hi
          rw [HXA.out.1]
          exact hat
    case done =>
      rintro D xs W hD rfl ⟨hU, hBW⟩ hK
      have hBw : Below w.heap.size w W := below_step (HQ.out.2.2.2) (Below.size (HQ.out.2.2.2)) hBW
      have hseen : seenD s.disk p = dat := by
        unfold seenD
        rw [lastW_none s.disk.waits p (fun y hy => by
          obtain ⟨j, hj⟩ := List.mem_iff_getElem?.1 hy
          have hjl := (List.getElem?_eq_some_iff.1 hj).1
          have hjb : j < bs.length := by have := HA.out.1; omega
          have := hU ⟨j, hjb⟩ ((backF_mem _ _ _).2 (by omega))
          rw [(HA.out.2.1 j bs[j] (by simp [hjb])).1, List.getD_eq_getElem?_getD, hj] at this
          exact this)]
        exact HDA.out.1
      refine ⟨rfl, D, .slice xa dat.length xc, rfl, hD, hK, (hBW.cell (p := ⟨g6, 0, none⟩) (by show g6 < V2.heap.size; omega)).trans (by simpa using LK.cell (HQ.out.2.2.1) 0), ?_, hBW.mono (show g6 ≤ V2.heap.size by omega)⟩
      rw [hseen]
      exact (HDA.out.2.below hBw (Nat.le_refl _)).more (Nat.le_refl _) hBw.size
    case stop =>
      rintro D c pre W hD ⟨k, hk, hpre⟩ ⟨⟨Wx, ⟨rfl, pre', x, rfl, hU, hx, hc6⟩, hck⟩, hB⟩ hK
      have hseen : seenD s.disk p = (s.disk.waits.getD x.1 ⟨0, []⟩).data := by
        cases k with
        | zero => simp [backF] at hpre
        | succ k =>
          rw [backF_succ _ k (bs.length - 1 - k) (by omega) (by omega)] at hpre
          obtain ⟨h1, h2⟩ := List.append_inj' hpre rfl
          have h3 := List.cons.inj h2
          have hx1 : x.1 = bs.length - 1 - k := by rw [h3.1]
          unfold seenD
          rw [lastW_at s.disk.waits p x.1 (by have := HA.out.1; omega) (by rw [← (HA.out.2.1 x.1 bs[x.1] (by simp)).1]; exact hx) (fun j hj hjl => by
            have hjb : j < bs.length := by have := HA.out.1; omega
            rw [← (HA.out.2.1 j bs[j] (by simp [hjb])).1]
            exact hU ⟨j, hjb⟩ (by rw [h1]; exact (backF_mem _ _ _).2 (by show bs.length ≤ j + k; omega)))]
      obtain ⟨-, e2⟩ := HA.out.2.1 x.1 bs[x.1] (by simp)
      have hHS := Lib.hid hseen
      clear hseen
      gi_wp2
      refine ⟨trivial, D, bs[x.1].2, rfl, hD, hK, (hck.2 _ _ hc6).1, ?_, hB⟩
      rw [hHS.out]
      exact (e2.below (hB.mono (show w.heap.size ≤ g6 by omega)) (Nat.le_refl _)).more (Nat.le_refl _) (by have := hB.size; omega)
  case rest =>
    rintro a1 W ⟨D, v, rfl, hD, hK, h6, hv, hB6⟩
    have q_r := LK.of ((hB6.block (w.heap.size + 1) (by omega)).trans (LK.blk HQ.out.2.1))
    have hDW : D < W.heap.size := (Array.getElem?_eq_some_iff.1 hK).1
    have q_D := LK.of hK
    have hBw : LW w W := Below.trans HQ.out.2.2.2 (hB6.mono (show w.heap.size ≤ g6 by omega))
    have hWs := hB6.size
    have hWw : w.heap.size + 1 < W.heap.size := by omega
    obtain ⟨av, cv, rfl, -, -⟩ := hv.form rfl
    have HV := Lib.hid hv
    clear HQ hK hv hB6
    have HQ := Lib.hid (And.intro q_r (And.intro q_D hBw))
    clear q_r q_D hBw
    have c_q_r0 := LK.cell HQ.out.1 0
    have c_q_r1 := LK.cell HQ.out.1 1
    simp at c_q_r0 c_q_r1
    have hE : errBn s p = if errNd (seenD s.disk p) = 0 then 0 else 8 := by unfold errBn; rw [if_neg (by rw [hx0]; exact hz)]
    have hN : nodeB s p = if errBn s p = 0 then readNd (seenD s.disk p) else ⟨0, []⟩ := rfl
    obtain ⟨ER, hER⟩ : ∃ x, errNd (seenD s.disk p) = x := ⟨_, rfl⟩
    obtain ⟨ND, hND⟩ : ∃ x, readNd (seenD s.disk p) = x := ⟨_, rfl⟩
    have k_r := nread_any _ (seenD s.disk p) W HV.out
    rw [hER, hND] at k_r
    rw [hER] at hE
    rw [hND] at hN
    obtain ⟨sl, hsl⟩ : ∃ x, (seenD s.disk p).length = x := ⟨_, rfl⟩
    rw [hsl] at k_r h6
    have HE2 := Lib.hid (And.intro hE (And.intro hN k_r))
    clear hE hN k_r hER hND hsl HV
    gi_wp2_with fail
    refine ⟨trivial, ?_⟩
    gi_at_call 46
    refine (callsIn_wide.2 (HE2.out.2.2)).mono ?_
    rintro e w2 ⟨u, rfl, hm⟩
    clear c_q_r0 c_q_r1
    obtain ⟨q_r, q_D, hBw⟩ := HQ.out
    clear HQ
    have hst := hm.below
    have S_u := LS.of hm.items (Nat.le_refl _)
    obtain ⟨au2, cu2, rfl, -, -⟩ := hm.items
    clear hm
    have sz_w2 : W.heap.size ≤ w2.heap.size := hst.size
    replace q_r := q_r.step hst
    replace q_D := q_D.step hst
    replace hBw := hBw.step hst
    clear hst
    have HQ := Lib.hid (And.intro q_r (And.intro q_D (And.intro S_u hBw)))
    clear q_r q_D S_u hBw
    have c_q_r0 := LK.cell HQ.out.1 0
    have c_q_r1 := LK.cell HQ.out.1 1
    have z_q_r0 := LK.frozen HQ.out.1 0
    have z_q_r1 := LK.frozen HQ.out.1 1
    simp at c_q_r0 c_q_r1
    have hal := (Below.refl w2.heap.size w2).alloc (Nat.le_refl _) (.cells #[.int .i64 ND.level, .slice au2 ND.items.length cu2] 47)
    have q_r2 := LK.step HQ.out.1 hal
    have q_D2 := LK.step HQ.out.2.1 hal
    have S_u2 := LS.step HQ.out.2.2.1 hal
    have hB2 := LW.step HQ.out.2.2.2 hal
    have hls : (w2.alloc (.cells #[.int .i64 ND.level, .slice au2 ND.items.length cu2] 47)).heap.size = w2.heap.size + 1 := by simp
    have hS2 := Lib.hid (And.intro q_r2 (And.intro q_D2 (And.intro S_u2 (And.intro hB2 hls))))
    have y0 := LK.cell q_r2 0
    have y1 := LK.cell q_r2 1
    have v0 := LK.frozen q_r2 0
    have v1 := LK.frozen q_r2 1
    clear hal q_r2 q_D2 S_u2 hB2 hls
    have l9 : w.heap.size + 1 < w2.heap.size := by omega
    simp at y0 y1
    by_cases hz2 : ER = 0
    · subst hz2
      have hE := HE2.out.1
      rw [if_pos rfl] at hE
      have hN := HE2.out.2.1
      rw [if_pos hE] at hN
      gi_wp2
      clear z_q_r0 z_q_r1 c_q_r0 c_q_r1
      obtain ⟨q_r, q_D, S_u, hBw⟩ := HQ.out
      clear HQ
      have hcb := LK.blk q_r
      have hF : LK (w.heap.size + 1) (.cells #[.int .i64 ND.level, .slice au2 ND.items.length cu2] 47) ((w2.setCell ⟨w.heap.size + 1, 0, none⟩ (.int .i64 ND.level)).setCell ⟨w.heap.size + 1, 1, none⟩ (.slice au2 ND.items.length cu2)) := LK.of (set_block (set_block hcb 0 _) 1 _)
      have hbel : Below (w.heap.size + 1) w2 ((w2.setCell ⟨w.heap.size + 1, 0, none⟩ (.int .i64 ND.level)).setCell ⟨w.heap.size + 1, 1, none⟩ (.slice au2 ND.items.length cu2)) := ((Below.refl _ w2).setCell (p := ⟨w.heap.size + 1, 0, none⟩) (Nat.le_refl _) _).setCell (p := ⟨w.heap.size + 1, 1, none⟩) (Nat.le_refl _) _
      have hfr : ∀ x, x < w2.heap.size → (x < w.heap.size + 1 ∨ w.heap.size + 1 + 1 ≤ x) → ((w2.setCell ⟨w.heap.size + 1, 0, none⟩ (.int .i64 ND.level)).setCell ⟨w.heap.size + 1, 1, none⟩ (.slice au2 ND.items.length cu2)).heap[x]? = w2.heap[x]? := fun x _ h => (set_other _ _ _ _ _ (by omega)).trans ((set_other _ _ _ _ _ (by omega)))
      have hs4 : ((w2.setCell ⟨w.heap.size + 1, 0, none⟩ (.int .i64 ND.level)).setCell ⟨w.heap.size + 1, 1, none⟩ (.slice au2 ND.items.length cu2)).heap.size = w2.heap.size := by simp only [World.size_setCell]
      replace q_D := q_D.out (Nat.le_of_eq hs4.symm) hfr (by omega)
      replace S_u := S_u.out (Nat.le_of_eq hs4.symm) hfr (by omega)
      replace hBw := hBw.outB hbel (by omega)
      replace q_r := hF
      obtain ⟨w3, hw⟩ : ∃ v, ((w2.setCell ⟨w.heap.size + 1, 0, none⟩ (.int .i64 ND.level)).setCell ⟨w.heap.size + 1, 1, none⟩ (.slice au2 ND.items.length cu2)) = v := ⟨_, rfl⟩
      rw [hw] at hs4 q_r q_D S_u hBw ⊢
      have sz_w3 := Nat.le_of_eq hs4
      have sy_w3 := Nat.le_of_eq hs4.symm
      clear hw hF hbel hfr hcb hs4
      have HQ := Lib.hid (And.intro q_r (And.intro q_D (And.intro S_u hBw)))
      clear q_r q_D S_u hBw
      have c_q_r0 := LK.cell HQ.out.1 0
      have c_q_r1 := LK.cell HQ.out.1 1
      simp at c_q_r0 c_q_r1
      clear c_q_r0 c_q_r1
      obtain ⟨q_r, q_D, S_u, hBw⟩ := HQ.out
      clear HQ
      have hst := (Below.refl w3.heap.size w3).alloc (Nat.le_refl _) (.cells #[.int .i64 ND.level, .slice au2 ND.items.length cu2] 47)
      obtain ⟨w4, hw⟩ : ∃ v, w3.alloc (.cells #[.int .i64 ND.level, .slice au2 ND.items.length cu2] 47) = v := ⟨_, rfl⟩
      rw [hw] at hst ⊢
      clear hw
      have sz_w4 : w3.heap.size ≤ w4.heap.size := hst.size
      replace q_r := q_r.step hst
      replace q_D := q_D.step hst
      replace S_u := S_u.step hst
      replace hBw := hBw.step hst
      clear hst
      have HQ := Lib.hid (And.intro q_r (And.intro q_D (And.intro S_u hBw)))
      clear q_r q_D S_u hBw
      have c_q_r0 := LK.cell HQ.out.1 0
      have c_q_r1 := LK.cell HQ.out.1 1
      simp at c_q_r0 c_q_r1
      have hK2 := LK.blk HQ.out.2.1
      have hgr := grownBy_putObj' w4 D (.deferred none)
      have hck2 : CK w4 (w4.putObj D (.deferred none)) := ⟨by simp, fun a v h => ⟨cell_kept h hgr (fun r e => by cases e; exact ⟨_, hK2, rfl⟩), frozen_kept h hgr (fun r e => by cases e; exact ⟨_, hK2, rfl⟩)⟩⟩
      have s2 := (hck2.2 _ _ c_q_r0).1
      have s3 := (hck2.2 _ _ c_q_r1).1
      have hbK := belowK_b (w := w) (Nat.le_refl _) w4 D (.deferred (some [])) (.deferred none) (by omega) hK2 rfl rfl
      have hfin := Below.trans HQ.out.2.2.2 hbK
      refine ⟨by simp, .inl ⟨_, _, rfl, run_takeDeferred hK2, ?_⟩⟩
      refine ⟨.tuple #[.agg #[.int .i64 ND.level, .slice au2 ND.items.length cu2], .int .i64 0], by simp [results, Try.results102, go_sem, s2, s3], .slice au2 ND.items.length cu2, ?_, ?_, hfin⟩
      · rw [hE, hN]
      · rw [hN]
        have hDl := (Array.getElem?_eq_some_iff.1 hK2).1
        have hSo := LS.out HQ.out.2.2.1 (V' := w4.putObj D (.deferred none)) (n0 := D) (h0 := D + 1) (by simp) (fun x hx hd => hgr.block x hx (fun e => by cases e; omega)) (.inr (by omega))
        exact Sl.more (Lv.get hSo) (by omega) (Lv.hi_le hSo)
    · have i1 : (ER == 0) = false := by simp [hz2]
      have i2 : (ER != 0) = true := by simp [hz2]
      have hE := HE2.out.1
      rw [if_neg hz2] at hE
      have hN := HE2.out.2.1
      rw [if_neg (by rw [hE]; decide)] at hN
      gi_wp2
      clear z_q_r0 z_q_r1 c_q_r0 c_q_r1
      obtain ⟨q_r, q_D, S_u, hBw⟩ := HQ.out
      clear HQ
      have hcb := LK.blk q_r
      have hF : LK (w.heap.size + 1) (.cells #[.int .i64 0, .slice none 0 0] 47) ((w2.setCell ⟨w.heap.size + 1, 0, none⟩ (.int .i64 0)).setCell ⟨w.heap.size + 1, 1, none⟩ (.slice none 0 0)) := LK.of (set_block (set_block hcb 0 _) 1 _)
      have hbel : Below (w.heap.size + 1) w2 ((w2.setCell ⟨w.heap.size + 1, 0, none⟩ (.int .i64 0)).setCell ⟨w.heap.size + 1, 1, none⟩ (.slice none 0 0)) := ((Below.refl _ w2).setCell (p := ⟨w.heap.size + 1, 0, none⟩) (Nat.le_refl _) _).setCell (p := ⟨w.heap.size + 1, 1, none⟩) (Nat.le_refl _) _
      have hfr : ∀ x, x < w2.heap.size → (x < w.heap.size + 1 ∨ w.heap.size + 1 + 1 ≤ x) → ((w2.setCell ⟨w.heap.size + 1, 0, none⟩ (.int .i64 0)).setCell ⟨w.heap.size + 1, 1, none⟩ (.slice none 0 0)).heap[x]? = w2.heap[x]? := fun x _ h => (set_other _ _ _ _ _ (by omega)).trans ((set_other _ _ _ _ _ (by omega)))
      have hs4 : ((w2.setCell ⟨w.heap.size + 1, 0, none⟩ (.int .i64 0)).setCell ⟨w.heap.size + 1, 1, none⟩ (.slice none 0 0)).heap.size = w2.heap.size := by simp only [World.size_setCell]
      replace q_D := q_D.out (Nat.le_of_eq hs4.symm) hfr (by omega)
      replace S_u := S_u.out (Nat.le_of_eq hs4.symm) hfr (by omega)
      replace hBw := hBw.outB hbel (by omega)
      replace q_r := hF
      obtain ⟨w3, hw⟩ : ∃ v, ((w2.setCell ⟨w.heap.size + 1, 0, none⟩ (.int .i64 0)).setCell ⟨w.heap.size + 1, 1, none⟩ (.slice none 0 0)) = v := ⟨_, rfl⟩
      rw [hw] at hs4 q_r q_D S_u hBw ⊢
      have sz_w3 := Nat.le_of_eq hs4
      have sy_w3 := Nat.le_of_eq hs4.symm
      clear hw hF hbel hfr hcb hs4
      have HQ := Lib.hid (And.intro q_r (And.intro q_D (And.intro S_u hBw)))
      clear q_r q_D S_u hBw
      have c_q_r0 := LK.cell HQ.out.1 0
      have c_q_r1 := LK.cell HQ.out.1 1
      simp at c_q_r0 c_q_r1
      clear c_q_r0 c_q_r1
      obtain ⟨q_r, q_D, S_u, hBw⟩ := HQ.out
      clear HQ
      have hst := (Below.refl w3.heap.size w3).alloc (Nat.le_refl _) (.cells #[.int .i64 ND.level, .slice au2 ND.items.length cu2] 47)
      obtain ⟨w4, hw⟩ : ∃ v, w3.alloc (.cells #[.int .i64 ND.level, .slice au2 ND.items.length cu2] 47) = v := ⟨_, rfl⟩
      rw [hw] at hst ⊢
      clear hw
      have sz_w4 : w3.heap.size ≤ w4.heap.size := hst.size
      replace q_r := q_r.step hst
      replace q_D := q_D.step hst
      replace S_u := S_u.step hst
      replace hBw := hBw.step hst
      clear hst
      have HQ := Lib.hid (And.intro q_r (And.intro q_D (And.intro S_u hBw)))
      clear q_r q_D S_u hBw
      have c_q_r0 := LK.cell HQ.out.1 0
      have c_q_r1 := LK.cell HQ.out.1 1
      simp at c_q_r0 c_q_r1
      have hK2 := LK.blk HQ.out.2.1
      have hgr := grownBy_putObj' w4 D (.deferred none)
      have hck2 : CK w4 (w4.putObj D (.deferred none)) := ⟨by simp, fun a v h => ⟨cell_kept h hgr (fun r e => by cases e; exact ⟨_, hK2, rfl⟩), frozen_kept h hgr (fun r e => by cases e; exact ⟨_, hK2, rfl⟩)⟩⟩
      have s2 := (hck2.2 _ _ c_q_r0).1
      have s3 := (hck2.2 _ _ c_q_r1).1
      have hbK := belowK_b (w := w) (Nat.le_refl _) w4 D (.deferred (some [])) (.deferred none) (by omega) hK2 rfl rfl
      have hfin := Below.trans HQ.out.2.2.2 hbK
      refine ⟨by simp, .inl ⟨_, _, rfl, run_takeDeferred hK2, ?_⟩⟩
      refine ⟨.tuple #[.agg #[.int .i64 0, .slice none 0 0], .int .i64 8], by simp [results, Try.results102, go_sem, s2, s3], .slice none 0 0, ?_, ?_, hfin⟩
      · rw [hE, hN]
      · rw [hN]
        exact Sl.nil_ _ _ _

end Go.Proofs.Ytkfgegdnpinbdaa

