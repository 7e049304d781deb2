/- DevDoes: the words and contracts, part 18. -/
import Derived.Test.YtldidclnfkmonaaDevDoesQ1
import Derived.Test.YtldidclnfkmonaaDevDoesQ2
import Derived.Test.YtldidclnfkmonaaDevDoesQ3
import Derived.Test.YtldidclnfkmonaaDevDoesQ4
import Derived.Test.YtldidclnfkmonaaDevDoesQ5
import Derived.Test.YtldidclnfkmonaaDevDoesQ6
import Derived.Test.YtldidclnfkmonaaDevDoesQ7
import Derived.Test.YtldidclnfkmonaaDevDoesQ8
import Derived.Test.YtldidclnfkmonaaDevDoesQ9
import Derived.Test.YtldidclnfkmonaaDevDoesQ10
import Derived.Test.YtldidclnfkmonaaDevDoesQ11
import Derived.Test.YtldidclnfkmonaaDevDoesQ12
import Derived.Test.YtldidclnfkmonaaDevDoesQ13
import Derived.Test.YtldidclnfkmonaaDevDoesQ14
import Derived.Test.YtldidclnfkmonaaDevDoesQ15
import Derived.Test.YtldidclnfkmonaaDevDoesQ16
import Derived.Test.YtldidclnfkmonaaDevDoesQ17
import Derived.WalkKit
import Derived.WalkLawsBesides
import Derived.WalkSpells
import Derived.Lib.Hide
import Derived.Laws.Rows
import Derived.Laws.AppendOwnNone
import Derived.Maps.AppendAt
import Derived.RangeFuncNested
import Derived.RangeFuncBound
import Derived.RangeFuncCalls
import Derived.RangeFuncLeaves
import Derived.RangeFuncBox
import Derived.Shelf.Abstract
import Derived.Shelf.RegionOpen
import Derived.OwnWalkIn
import Derived.TacticsInMore
import Derived.LoopNIn
import Derived.LoopIn
import Derived.ProofKit
import Derived.Deep.Slices
import Derived.WideShapes
import Derived.OrdersHeld
import Derived.Deep.QuietTactic
import Derived.BigQuiet
import Derived.StillTailTactics
import Derived.OpenShut
import Derived.Lib.SliceRun
import Derived.Lib.AppendZerosOnto
import Derived.Lib.Walk
import Derived.Deep.LoopGhost
import Derived.Laws.CopyOwn
import Derived.Deep.DeepCutAuto
import Derived.Laws.CopyRow
import Derived.Laws.MakeOwn
import Derived.Deep.RegionHeld
namespace Go.Proofs.Ytldidclnfkmonaa
open Go.RowKit

theorem LT.sp {V : World} {lo hi : Nat} {b u : Value} {d : DiskL} (h : LT lo hi b u d V) : SpS 1 0 V lo hi b d.blocks.length ∧ SpS 2 1 V lo hi u d.waits.length := ⟨SpS.of_b h.t.1, SpS.of_w h.t.2⟩
theorem LT.lo_le {V : World} {lo hi : Nat} {b u : Value} {d : DiskL} (h : LT lo hi b u d V) : hi ≤ V.heap.size := Lv.hi_le h

set_option maxRecDepth 100000 in
set_option maxHeartbeats 4000000 in
theorem devDoes_walk (d : DiskL) (b u : Value) (d2 : DiskL) (b2 u2 : Value) (p : Int) (v : Value) (l : List UInt8) (vk : Value) (ks : List Bool) (w : World) (h : DiskV w 0 w.heap.size b u d) (h2 : DiskV w 0 w.heap.size b2 u2 d2) (_wp : (Lit.int .i64 p).wf = true) (hv : Bytes w 0 w.heap.size v l) (hk : Sl rBool w 0 w.heap.size vk ks) :
    Calls Try.prog 12 #[.agg #[b, u], .agg #[b2, u2], .int .i64 p, v, vk] w fun e w' => e = .returned (.bool true) ∧ Below w.heap.size w w' := by
  obtain ⟨ab, cb, rfl, g1, g2, -, -⟩ := h.1
  obtain ⟨au, cu, rfl, g3, g4, -, -⟩ := h.2
  obtain ⟨ab2, cb2, rfl, g5, g6, -, -⟩ := h2.1
  obtain ⟨au2, cu2, rfl, g7, g8, -, -⟩ := h2.2
  obtain ⟨av, cv, rfl, g9, g10⟩ := hv.form rfl
  obtain ⟨ak, ck, rfl, g11, g12, -, -⟩ := id hk
  unfold maxLen at g2 g4 g6 g8 g10 g12
  have hst := ((Below.refl w.heap.size w).alloc (Nat.le_refl _) (.cells #[.slice ab d.blocks.length cb, .slice au d.waits.length cu] 39)).alloc (by simp) (.cells #[.slice ab2 d2.blocks.length cb2, .slice au2 d2.waits.length cu2] 39)
  have hq := two_new w (.cells #[.slice ab d.blocks.length cb, .slice au d.waits.length cu] 39) (.cells #[.slice ab2 d2.blocks.length cb2, .slice au2 d2.waits.length cu2] 39)
  have qd := LK.of hq.1
  have qo := LK.of hq.2
  have hB : LW w _ := hst
  have hD := (LD.of h (Nat.le_refl _)).step hst
  have hO := (LD.of h2 (Nat.le_refl _)).step hst
  have hvb := (LB.of hv (Nat.le_refl _)).step hst
  have hks := (LS.of hk (Nat.le_refl _)).step hst
  have sz_V : w.heap.size + 1 < ((w.alloc (.cells #[.slice ab d.blocks.length cb, .slice au d.waits.length cu] 39)).alloc (.cells #[.slice ab2 d2.blocks.length cb2, .slice au2 d2.waits.length cu2] 39)).heap.size := by simp
  obtain ⟨V, hV⟩ : ∃ V, (w.alloc (.cells #[.slice ab d.blocks.length cb, .slice au d.waits.length cu] 39)).alloc (.cells #[.slice ab2 d2.blocks.length cb2, .slice au2 d2.waits.length cu2] 39) = V := ⟨_, rfl⟩
  rw [hV] at hB hD hO hvb hks qd qo sz_V
  clear h h2 hv hk hst hq
  obtain ⟨ec, hec⟩ : ∃ ec, errC d = ec := ⟨_, rfl⟩
  obtain ⟨bd, hbd⟩ : ∃ bd, decide (d = d2) = bd := ⟨_, rfl⟩
  obtain ⟨ea, hea⟩ : ∃ ea, errA d p = ea := ⟨_, rfl⟩
  obtain ⟨rp, hrp⟩ : ∃ rp, readB d p = rp := ⟨_, rfl⟩
  obtain ⟨ew, hew⟩ : ∃ ew, errW d p l = ew := ⟨_, rfl⟩
  obtain ⟨wd, hwd⟩ : ∃ wd, writeD d p l = wd := ⟨_, rfl⟩
  obtain ⟨br, hbr⟩ : ∃ br, barD d = br := ⟨_, rfl⟩
  obtain ⟨ek, hek⟩ : ∃ ek, errK d ks = ek := ⟨_, rfl⟩
  obtain ⟨cr, hcr⟩ : ∃ cr, crashD d ks = cr := ⟨_, rfl⟩
  have k_chk := fun V b u hh => dcheck_any b u d V hh
  rw [show (if mayD d then (0 : Int) else 8) = ec from hec] at k_chk
  have k_rchk := fun V b u hh => rdcheck_any b u d V hh
  rw [hec] at k_rchk
  have k_same := fun V b u b2 u2 h1 h2 => dsame_any b u b2 u2 d d2 V h1 h2
  have k_rsame := fun V b u b2 u2 h1 h2 => rdsame_any b u b2 u2 d d2 V h1 h2
  rw [hbd] at k_same k_rsame
  have k_read := fun V b u hh => dread_any b u d p V hh
  have k_rread := fun V b u hh => rdread_any b u d p V hh
  rw [hea, hrp] at k_read k_rread
  have k_write := fun V b u v hh hv => dwrite_any b u d p v l V hh hv
  have k_rwrite := fun V b u v hh hv => rdwrite_any b u d p v l V hh hv
  rw [hew, hwd] at k_write k_rwrite
  have k_bar := fun V b u hh => dbar_any b u d V hh
  have k_rbar := fun V b u hh => rdbar_any b u d V hh
  rw [hec, hbr] at k_bar k_rbar
  have k_crash := fun V b u v hh hv => dcrash_any b u d v ks V hh hv
  have k_rcrash := fun V b u v hh hv => rdcrash_any b u d v ks V hh hv
  rw [hek, hcr] at k_crash k_rcrash
  have k_great := fun V hh => great_any (.slice ab d.blocks.length cb) (.slice au d.waits.length cu) d V hh
  have k_great2 := fun V hh => great_any (.slice ab2 d2.blocks.length cb2) (.slice au2 d2.waits.length cu2) d2 V hh
  have k_eq := fun V (E : DiskL) b u b2 u2 h1 h2 => rdsame_any b u b2 u2 E E V h1 h2
  simp only [decide_true] at k_eq
  have k_twin := fun V b u hh => rdtwin_any b u d V hh
  have k_dtwin := fun V b u hh => dtwin_any b u d V hh
  have HC := Lib.hid (And.intro k_chk (And.intro k_rchk (And.intro k_same (And.intro k_rsame (And.intro k_read (And.intro k_rread (And.intro k_write (And.intro k_rwrite (And.intro k_bar (And.intro k_rbar (And.intro k_crash (And.intro k_rcrash (And.intro k_great (And.intro k_great2 (And.intro k_eq (And.intro k_twin k_dtwin))))))))))))))))
  clear k_chk k_rchk k_same k_rsame k_read k_rread k_write k_rwrite k_bar k_rbar k_crash k_rcrash k_great k_great2 k_eq k_twin k_dtwin
  clear hec hbd hea hrp hew hwd hbr hek hcr
  have HQ := Lib.hid (And.intro qd (And.intro qo (And.intro hD (And.intro hO (And.intro hvb (And.intro hks hB))))))
  clear qd qo hD hO hvb hks hB
  have c_qd0 := LK.cell HQ.out.1 0
  have c_qd1 := LK.cell HQ.out.1 1
  have c_qo0 := LK.cell HQ.out.2.1 0
  have c_qo1 := LK.cell HQ.out.2.1 1
  simp at c_qd0 c_qd1 c_qo0 c_qo1
  go_enter Try.func12, Try.ntmps12
  go_upto_region 1 with (fail)
  clear hV
  go_wp2_with fail
  refine (HC.out.2.2.2.2.2.2.2.2.2.2.2.2.1 V HQ.out.2.2.1.v).mono ?_
  rintro e w1 ⟨ga, rfl, hst, hg1⟩
  clear c_qd0 c_qd1 c_qo0 c_qo1
  obtain ⟨qd, qo, hD, hO, hvb, hks, hB⟩ := HQ.out
  clear HQ
  have sz_w1 : V.heap.size ≤ w1.heap.size := hst.size
  replace qd := qd.step hst
  replace qo := qo.step hst
  replace hD := hD.step hst
  replace hO := hO.step hst
  replace hvb := hvb.step hst
  replace hks := hks.step hst
  replace hB := hB.step hst
  clear hst
  have HQ := Lib.hid (And.intro qd (And.intro qo (And.intro hD (And.intro hO (And.intro hvb (And.intro hks hB))))))
  clear qd qo hD hO hvb hks hB
  have c_qd0 := LK.cell HQ.out.1 0
  have c_qd1 := LK.cell HQ.out.1 1
  have c_qo0 := LK.cell HQ.out.2.1 0
  have c_qo1 := LK.cell HQ.out.2.1 1
  simp at c_qd0 c_qd1 c_qo0 c_qo1
  cases ga
  case true =>
    go_wp2
    go_ret
    exact ⟨rfl, HQ.out.2.2.2.2.2.2⟩
  obtain ⟨hn1, hn2, hn3⟩ := hg1 rfl
  clear hg1
  go_wp2_with fail
  refine (HC.out.2.2.2.2.2.2.2.2.2.2.2.2.2.1 _ HQ.out.2.2.2.1.v).mono ?_
  rintro e w2 ⟨gb, rfl, hst, -⟩
  clear c_qd0 c_qd1 c_qo0 c_qo1
  obtain ⟨qd, qo, hD, hO, hvb, hks, hB⟩ := HQ.out
  clear HQ
  have sz_w2 : w1.heap.size ≤ w2.heap.size := hst.size
  replace qd := qd.step hst
  replace qo := qo.step hst
  replace hD := hD.step hst
  replace hO := hO.step hst
  replace hvb := hvb.step hst
  replace hks := hks.step hst
  replace hB := hB.step hst
  clear hst
  have HQ := Lib.hid (And.intro qd (And.intro qo (And.intro hD (And.intro hO (And.intro hvb (And.intro hks hB))))))
  clear qd qo hD hO hvb hks hB
  have c_qd0 := LK.cell HQ.out.1 0
  have c_qd1 := LK.cell HQ.out.1 1
  have c_qo0 := LK.cell HQ.out.2.1 0
  have c_qo1 := LK.cell HQ.out.2.1 1
  simp at c_qd0 c_qd1 c_qo0 c_qo1
  cases gb
  case true =>
    go_wp2
    go_ret
    exact ⟨rfl, HQ.out.2.2.2.2.2.2⟩
  by_cases hl1 : 10000 < l.length
  · have i1 : (10000 : Int) < l.length := by omega
    go_wp2
    go_ret
    exact ⟨rfl, HQ.out.2.2.2.2.2.2⟩
  have i1 : decide ((10000 : Int) < l.length) = false := by simp; omega
  by_cases hl2 : 5000 < ks.length
  · have i2 : (5000 : Int) < ks.length := by omega
    go_wp2
    go_ret
    exact ⟨rfl, HQ.out.2.2.2.2.2.2⟩
  have i2 : decide ((5000 : Int) < ks.length) = false := by simp; omega
  go_wp2_with fail
  refine (HC.out.2.2.2.2.2.2.2.2.2.2.2.2.2.2.2.1 _ _ _ HQ.out.2.2.1.v (by omega) (by omega) (by omega)).mono ?_
  rintro e w3 ⟨b0, u0, rfl, hm⟩
  clear c_qd0 c_qd1 c_qo0 c_qo1
  obtain ⟨qd, qo, hD, hO, hvb, hks, hB⟩ := HQ.out
  clear HQ
  have hW := LD.of hm.disk (Nat.le_refl _)
  have hst := hm.below
  obtain ⟨am, cm, rfl, -, -, -, -⟩ := hm.disk.1
  obtain ⟨an, cn, rfl, -, -, -, -⟩ := hm.disk.2
  clear hm
  have sz_w3 : w2.heap.size ≤ w3.heap.size := hst.size
  replace qd := qd.step hst
  replace qo := qo.step hst
  replace hD := hD.step hst
  replace hO := hO.step hst
  replace hvb := hvb.step hst
  replace hks := hks.step hst
  replace hB := hB.step hst
  clear hst
  have HQ := Lib.hid (And.intro qd (And.intro qo (And.intro hD (And.intro hO (And.intro hvb (And.intro hks (And.intro hW hB)))))))
  clear qd qo hD hO hvb hks hW hB
  have c_qd0 := LK.cell HQ.out.1 0
  have c_qd1 := LK.cell HQ.out.1 1
  have c_qo0 := LK.cell HQ.out.2.1 0
  have c_qo1 := LK.cell HQ.out.2.1 1
  simp at c_qd0 c_qd1 c_qo0 c_qo1
  go_upto_region 4 with (fail)
  clear c_qd0 c_qd1 c_qo0 c_qo1
  obtain ⟨qd, qo, hD, hO, hvb, hks, hW, hB⟩ := HQ.out
  clear HQ
  have hst := (Below.refl w3.heap.size w3).alloc (Nat.le_refl _) (.cells #[.slice am d.blocks.length cm, .slice an d.waits.length cn] 39)
  have hlt : w3.heap.size < (w3.alloc (.cells #[.slice am d.blocks.length cm, .slice an d.waits.length cn] 39)).heap.size := by simp
  have qw := LK.new w3 (.cells #[.slice am d.blocks.length cm, .slice an d.waits.length cn] 39)
  replace qd := qd.step hst
  replace qo := qo.step hst
  replace hD := hD.step hst
  replace hO := hO.step hst
  replace hvb := hvb.step hst
  replace hks := hks.step hst
  replace hW := hW.step hst
  replace hB := hB.step hst
  obtain ⟨w4, hw⟩ : ∃ v, w3.alloc (.cells #[.slice am d.blocks.length cm, .slice an d.waits.length cn] 39) = v := ⟨_, rfl⟩
  rw [hw] at hlt qw qd qo hD hO hvb hks hW hB ⊢
  clear hw hst
  have sz_w4 := hlt
  clear hlt
  have HQ := Lib.hid (And.intro qd (And.intro qo (And.intro hD (And.intro hO (And.intro hvb (And.intro hks (And.intro hW (And.intro qw hB))))))))
  clear qd qo hD hO hvb hks hW qw hB
  have c_qd0 := LK.cell HQ.out.1 0
  have c_qd1 := LK.cell HQ.out.1 1
  have c_qo0 := LK.cell HQ.out.2.1 0
  have c_qo1 := LK.cell HQ.out.2.1 1
  have c_qw0 := LK.cell HQ.out.2.2.2.2.2.2.2.1 0
  have c_qw1 := LK.cell HQ.out.2.2.2.2.2.2.2.1 1
  simp at c_qd0 c_qd1 c_qo0 c_qo1 c_qw0 c_qw1
  clear i1 i2
  have n1 : (ec != ec) = false := by simp
  have n2 : (bd != bd) = false := by simp
  clear c_qd0 c_qd1 c_qo0 c_qo1 c_qw0 c_qw1
  have x_qd0 := fun X => LK.cell (HQ.out.1.step (aft_below w4 X)) 0
  have x_qd1 := fun X => LK.cell (HQ.out.1.step (aft_below w4 X)) 1
  have x_qo0 := fun X => LK.cell (HQ.out.2.1.step (aft_below w4 X)) 0
  have x_qo1 := fun X => LK.cell (HQ.out.2.1.step (aft_below w4 X)) 1
  have x_qw0 := fun X => LK.cell (HQ.out.2.2.2.2.2.2.2.1.step (aft_below w4 X)) 0
  have x_qw1 := fun X => LK.cell (HQ.out.2.2.2.2.2.2.2.1.step (aft_below w4 X)) 1
  simp at x_qd0 x_qd1 x_qo0 x_qo1 x_qw0 x_qw1
  go_cut [60] (fun t wx => t = .bool false ∧ Below w4.heap.size w4 wx)
  case first =>
    refine wp_region_held_drew (S := Cls w4) (by kernel_rfl) (Cls.drew w4) (fun hCl => ?_)
    refine wpAnyH_seg (fuel := 12) (by kernel_rfl) (fun _ d _ _ _ h => by cases d <;> exact h) hCl [0, 2] _ _ _ (by kernel_rfl) (by kernel_rfl) ?_
    simp only [opsOf_cons, opsOf_nil, consOp_some, List.getElem?_toArray, List.getElem?_cons_succ, List.getElem?_cons_zero]
    repeat (first | go_big_quiet_step (fail) | quiet_step (fail))
    refine wpQuiet_nil ?_
    refine wpAnyH_each (fuel := 11) [1] (by kernel_rfl) (by simp) (by kernel_rfl) ?_
    refine Each.cons _ rfl (fun K' hK => ?_) Each.nil
    go_simp
    refine (HC.out.1 _ _ _ (HQ.out.2.2.2.2.2.2.1.step hCl.below).v).mono ?_
    rintro e z1 ⟨rfl, hb⟩
    have hst := below_step hCl.below hCl.below.size hb
    clear hb
    have hCl := Cls.of hst
    refine hK.out (Cls w4) (fun _ h => h) hCl ?_
    clear hK K'
    refine wpAnyH_each (fuel := 10) [3] (by kernel_rfl) (by simp) (by kernel_rfl) ?_
    refine Each.cons _ rfl (fun K' hK => ?_) Each.nil
    go_simp
    refine (HC.out.2.1 _ _ _ (HQ.out.2.2.1.step hCl.below).v).mono ?_
    rintro e z2 ⟨rfl, hb⟩
    have hst := below_step hCl.below hCl.below.size hb
    clear hb
    have hCl := Cls.of hst
    refine hK.out (Cls w4) (fun _ h => h) hCl ?_
    clear hK K'
    refine wpAnyH_seg (fuel := 4) (by kernel_rfl) (fun _ d _ _ _ h => by cases d <;> exact h) hCl [4, 5, 6, 7, 9, 10] _ _ _ (by kernel_rfl) (by kernel_rfl) ?_
    simp only [opsOf_cons, opsOf_nil, consOp_some, List.getElem?_toArray, List.getElem?_cons_succ, List.getElem?_cons_zero]
    repeat (first | go_big_quiet_step (fail) | quiet_step (fail))
    refine wpQuiet_nil ?_
    refine wpAnyH_each (fuel := 3) [8] (by kernel_rfl) (by simp) (by kernel_rfl) ?_
    refine Each.cons _ rfl (fun K' hK => ?_) Each.nil
    go_simp
    refine (HC.out.2.2.1 _ _ _ _ _ (HQ.out.2.2.2.2.2.2.1.step hCl.below).v (HQ.out.2.2.2.1.step hCl.below).v).mono ?_
    rintro e z3 ⟨rfl, hb⟩
    have hst := below_step hCl.below hCl.below.size hb
    clear hb
    have hCl := Cls.of hst
    refine hK.out (Cls w4) (fun _ h => h) hCl ?_
    clear hK K'
    refine wpAnyH_each (fuel := 2) [11] (by kernel_rfl) (by simp) (by kernel_rfl) ?_
    refine Each.cons _ rfl (fun K' hK => ?_) Each.nil
    go_simp
    refine (HC.out.2.2.2.1 _ _ _ _ _ (HQ.out.2.2.1.step hCl.below).v (HQ.out.2.2.2.1.step hCl.below).v).mono ?_
    rintro e z4 ⟨rfl, hb⟩
    have hst := below_step hCl.below hCl.below.size hb
    clear hb
    have hCl := Cls.of hst
    refine hK.out (Cls w4) (fun _ h => h) hCl ?_
    clear hK K'
    refine wpAnyH_seg (fuel := 0) (by kernel_rfl) (fun _ d _ _ _ h => by cases d <;> exact h) hCl [12, 13] _ _ _ (by kernel_rfl) (by kernel_rfl) ?_
    simp only [opsOf_cons, opsOf_nil, consOp_some, List.getElem?_toArray, List.getElem?_cons_succ, List.getElem?_cons_zero]
    repeat (first | go_big_quiet_step (fail) | quiet_step (fail))
    refine wpQuiet_nil ?_
    refine wpAnyH_done (by kernel_rfl) ?_ _
    go_wp2
    go_meet
    exact ⟨rfl, hst⟩
  case rest =>
  obtain ⟨rfl, hst⟩ := hcut
  obtain ⟨w5, hw5⟩ := named_w hst
  subst hw5
  clear x_qd0 x_qd1 x_qo0 x_qo1 x_qw0 x_qw1 n1 n2
  obtain ⟨qd, qo, hD, hO, hvb, hks, hW, qw, hB⟩ := HQ.out
  clear HQ
  have sz_w5 : w4.heap.size ≤ w5.heap.size := hst.size
  replace qd := qd.step hst
  replace qo := qo.step hst
  replace hD := hD.step hst
  replace hO := hO.step hst
  replace hvb := hvb.step hst
  replace hks := hks.step hst
  replace hW := hW.step hst
  replace qw := qw.step hst
  replace hB := hB.step hst
  clear hst
  have HQ := Lib.hid (And.intro qd (And.intro qo (And.intro hD (And.intro hO (And.intro hvb (And.intro hks (And.intro hW (And.intro qw hB))))))))
  clear qd qo hD hO hvb hks hW qw hB
  have c_qd0 := LK.cell HQ.out.1 0
  have c_qd1 := LK.cell HQ.out.1 1
  have c_qo0 := LK.cell HQ.out.2.1 0
  have c_qo1 := LK.cell HQ.out.2.1 1
  have c_qw0 := LK.cell HQ.out.2.2.2.2.2.2.2.1 0
  have c_qw1 := LK.cell HQ.out.2.2.2.2.2.2.2.1 1
  simp at c_qd0 c_qd1 c_qo0 c_qo1 c_qw0 c_qw1
  go_wp2_with fail
  refine (HC.out.2.2.2.2.1 _ _ _ HQ.out.2.2.2.2.2.2.1.v).mono ?_
  rintro e w6 ⟨rv, rfl, hm⟩
  clear c_qd0 c_qd1 c_qo0 c_qo1 c_qw0 c_qw1
  obtain ⟨qd, qo, hD, hO, hvb, hks, hW, qw, hB⟩ := HQ.out
  clear HQ
  have hP := LM.of hm
  have hst := hm.below
  obtain ⟨ra, rc, rfl, -, -⟩ := hm.bytes.form rfl
  clear hm
  have sz_w6 : w5.heap.size ≤ w6.heap.size := hst.size
  replace qd := qd.step hst
  replace qo := qo.step hst
  replace hD := hD.step hst
  replace hO := hO.step hst
  replace hvb := hvb.step hst
  replace hks := hks.step hst
  replace hW := hW.step hst
  replace qw := qw.step hst
  replace hB := hB.step hst
  clear hst
  have HQ := Lib.hid (And.intro qd (And.intro qo (And.intro hD (And.intro hO (And.intro hvb (And.intro hks (And.intro hW (And.intro qw (And.intro hP hB)))))))))
  clear qd qo hD hO hvb hks hW qw hP hB
  have c_qd0 := LK.cell HQ.out.1 0
  have c_qd1 := LK.cell HQ.out.1 1
  have c_qo0 := LK.cell HQ.out.2.1 0
  have c_qo1 := LK.cell HQ.out.2.1 1
  have c_qw0 := LK.cell HQ.out.2.2.2.2.2.2.2.1 0
  have c_qw1 := LK.cell HQ.out.2.2.2.2.2.2.2.1 1
  simp at c_qd0 c_qd1 c_qo0 c_qo1 c_qw0 c_qw1
  go_wp2_with fail
  refine (HC.out.2.2.2.2.2.1 _ _ _ HQ.out.2.2.1.v).mono ?_
  rintro e w7 ⟨rv2, rfl, hrb, hst⟩
  clear c_qd0 c_qd1 c_qo0 c_qo1 c_qw0 c_qw1
  obtain ⟨qd, qo, hD, hO, hvb, hks, hW, qw, hP, hB⟩ := HQ.out
  clear HQ
  have hQ := LB.of hrb (Nat.le_refl _)
  obtain ⟨qa, qc, rfl, -, -⟩ := hrb.form rfl
  clear hrb
  have sz_w7 : w6.heap.size ≤ w7.heap.size := hst.size
  replace qd := qd.step hst
  replace qo := qo.step hst
  replace hD := hD.step hst
  replace hO := hO.step hst
  replace hvb := hvb.step hst
  replace hks := hks.step hst
  replace hW := hW.step hst
  replace qw := qw.step hst
  replace hP := hP.step hst
  replace hB := hB.step hst
  clear hst
  have HQ := Lib.hid (And.intro qd (And.intro qo (And.intro hD (And.intro hO (And.intro hvb (And.intro hks (And.intro hW (And.intro qw (And.intro hP (And.intro hQ hB))))))))))
  clear qd qo hD hO hvb hks hW qw hP hQ hB
  have c_qd0 := LK.cell HQ.out.1 0
  have c_qd1 := LK.cell HQ.out.1 1
  have c_qo0 := LK.cell HQ.out.2.1 0
  have c_qo1 := LK.cell HQ.out.2.1 1
  have c_qw0 := LK.cell HQ.out.2.2.2.2.2.2.2.1 0
  have c_qw1 := LK.cell HQ.out.2.2.2.2.2.2.2.1 1
  simp at c_qd0 c_qd1 c_qo0 c_qo1 c_qw0 c_qw1
  go_wp2_with fail
  refine (HC.out.2.2.2.2.2.2.1 _ _ _ _ HQ.out.2.2.2.2.2.2.1.v HQ.out.2.2.2.2.1.v).mono ?_
  rintro e w8 ⟨b5, u5, rfl, hm⟩
  clear c_qd0 c_qd1 c_qo0 c_qo1 c_qw0 c_qw1
  obtain ⟨qd, qo, hD, hO, hvb, hks, hW, qw, hP, hQ, hB⟩ := HQ.out
  clear HQ
  have hX := LT.of hm
  have hst := hm.below
  obtain ⟨af, cf, rfl, -, -, -, -⟩ := hm.v0.1
  obtain ⟨ag, cg, rfl, -, -, -, -⟩ := hm.v0.2
  clear hm
  have sz_w8 : w7.heap.size ≤ w8.heap.size := hst.size
  replace qd := qd.step hst
  replace qo := qo.step hst
  replace hD := hD.step hst
  replace hO := hO.step hst
  replace hvb := hvb.step hst
  replace hks := hks.step hst
  replace hW := hW.step hst
  replace qw := qw.step hst
  replace hP := hP.step hst
  replace hQ := hQ.step hst
  replace hB := hB.step hst
  clear hst
  have HQ := Lib.hid (And.intro qd (And.intro qo (And.intro hD (And.intro hO (And.intro hvb (And.intro hks (And.intro hW (And.intro qw (And.intro hP (And.intro hQ (And.intro hX hB)))))))))))
  clear qd qo hD hO hvb hks hW qw hP hQ hX hB
  have c_qd0 := LK.cell HQ.out.1 0
  have c_qd1 := LK.cell HQ.out.1 1
  have c_qo0 := LK.cell HQ.out.2.1 0
  have c_qo1 := LK.cell HQ.out.2.1 1
  have c_qw0 := LK.cell HQ.out.2.2.2.2.2.2.2.1 0
  have c_qw1 := LK.cell HQ.out.2.2.2.2.2.2.2.1 1
  simp at c_qd0 c_qd1 c_qo0 c_qo1 c_qw0 c_qw1
  go_upto_region 9 with (fail)
  clear c_qd0 c_qd1 c_qo0 c_qo1 c_qw0 c_qw1
  obtain ⟨qd, qo, hD, hO, hvb, hks, hW, qw, hP, hQ, hX, hB⟩ := HQ.out
  clear HQ
  have hst := (Below.refl w8.heap.size w8).alloc (Nat.le_refl _) (.cells #[.slice af wd.blocks.length cf, .slice ag wd.waits.length cg] 39)
  have hlt : w8.heap.size < (w8.alloc (.cells #[.slice af wd.blocks.length cf, .slice ag wd.waits.length cg] 39)).heap.size := by simp
  have qx := LK.new w8 (.cells #[.slice af wd.blocks.length cf, .slice ag wd.waits.length cg] 39)
  replace qd := qd.step hst
  replace qo := qo.step hst
  replace hD := hD.step hst
  replace hO := hO.step hst
  replace hvb := hvb.step hst
  replace hks := hks.step hst
  replace hW := hW.step hst
  replace qw := qw.step hst
  replace hP := hP.step hst
  replace hQ := hQ.step hst
  replace hX := hX.step hst
  replace hB := hB.step hst
  obtain ⟨w9, hw⟩ : ∃ v, w8.alloc (.cells #[.slice af wd.blocks.length cf, .slice ag wd.waits.length cg] 39) = v := ⟨_, rfl⟩
  rw [hw] at hlt qx qd qo hD hO hvb hks hW qw hP hQ hX hB ⊢
  clear hw hst
  have sz_w9 := hlt
  clear hlt
  have HQ := Lib.hid (And.intro qd (And.intro qo (And.intro hD (And.intro hO (And.intro hvb (And.intro hks (And.intro hW (And.intro qw (And.intro hP (And.intro hQ (And.intro hX (And.intro qx hB))))))))))))
  clear qd qo hD hO hvb hks hW qw hP hQ hX qx hB
  have c_qd0 := LK.cell HQ.out.1 0
  have c_qd1 := LK.cell HQ.out.1 1
  have c_qo0 := LK.cell HQ.out.2.1 0
  have c_qo1 := LK.cell HQ.out.2.1 1
  have c_qw0 := LK.cell HQ.out.2.2.2.2.2.2.2.1 0
  have c_qw1 := LK.cell HQ.out.2.2.2.2.2.2.2.1 1
  have c_qx0 := LK.cell HQ.out.2.2.2.2.2.2.2.2.2.2.2.1 0
  have c_qx1 := LK.cell HQ.out.2.2.2.2.2.2.2.2.2.2.2.1 1
  simp at c_qd0 c_qd1 c_qo0 c_qo1 c_qw0 c_qw1 c_qx0 c_qx1
  go_wp2_with fail
  refine (HC.out.2.2.2.2.2.2.2.1 _ _ _ _ HQ.out.2.2.1.v HQ.out.2.2.2.2.1.v).mono ?_
  rintro e w10 ⟨b6, u6, rfl, hm⟩
  clear c_qd0 c_qd1 c_qo0 c_qo1 c_qw0 c_qw1 c_qx0 c_qx1
  obtain ⟨qd, qo, hD, hO, hvb, hks, hW, qw, hP, hQ, hX, qx, hB⟩ := HQ.out
  clear HQ
  have hX2 := LD.of hm.disk (Nat.le_refl _)
  have hst := hm.below
  obtain ⟨ah, ch, rfl, -, -, -, -⟩ := hm.disk.1
  obtain ⟨ai, ci, rfl, -, -, -, -⟩ := hm.disk.2
  clear hm
  have sz_w10 : w9.heap.size ≤ w10.heap.size := hst.size
  replace qd := qd.step hst
  replace qo := qo.step hst
  replace hD := hD.step hst
  replace hO := hO.step hst
  replace hvb := hvb.step hst
  replace hks := hks.step hst
  replace hW := hW.step hst
  replace qw := qw.step hst
  replace hP := hP.step hst
  replace hQ := hQ.step hst
  replace hX := hX.step hst
  replace qx := qx.step hst
  replace hB := hB.step hst
  clear hst
  have HQ := Lib.hid (And.intro qd (And.intro qo (And.intro hD (And.intro hO (And.intro hvb (And.intro hks (And.intro hW (And.intro qw (And.intro hP (And.intro hQ (And.intro hX (And.intro qx (And.intro hX2 hB)))))))))))))
  clear qd qo hD hO hvb hks hW qw hP hQ hX qx hX2 hB
  have c_qd0 := LK.cell HQ.out.1 0
  have c_qd1 := LK.cell HQ.out.1 1
  have c_qo0 := LK.cell HQ.out.2.1 0
  have c_qo1 := LK.cell HQ.out.2.1 1
  have c_qw0 := LK.cell HQ.out.2.2.2.2.2.2.2.1 0
  have c_qw1 := LK.cell HQ.out.2.2.2.2.2.2.2.1 1
  have c_qx0 := LK.cell HQ.out.2.2.2.2.2.2.2.2.2.2.2.1 0
  have c_qx1 := LK.cell HQ.out.2.2.2.2.2.2.2.2.2.2.2.1 1
  simp at c_qd0 c_qd1 c_qo0 c_qo1 c_qw0 c_qw1 c_qx0 c_qx1
  go_upto_region 10 with (fail)
  clear c_qd0 c_qd1 c_qo0 c_qo1 c_qw0 c_qw1 c_qx0 c_qx1
  obtain ⟨qd, qo, hD, hO, hvb, hks, hW, qw, hP, hQ, hX, qx, hX2, hB⟩ := HQ.out
  clear HQ
  have hst := (Below.refl w10.heap.size w10).alloc (Nat.le_refl _) (.cells #[.slice ah wd.blocks.length ch, .slice ai wd.waits.length ci] 39)
  have hlt : w10.heap.size < (w10.alloc (.cells #[.slice ah wd.blocks.length ch, .slice ai wd.waits.length ci] 39)).heap.size := by simp
  have qx2 := LK.new w10 (.cells #[.slice ah wd.blocks.length ch, .slice ai wd.waits.length ci] 39)
  replace qd := qd.step hst
  replace qo := qo.step hst
  replace hD := hD.step hst
  replace hO := hO.step hst
  replace hvb := hvb.step hst
  replace hks := hks.step hst
  replace hW := hW.step hst
  replace qw := qw.step hst
  replace hP := hP.step hst
  replace hQ := hQ.step hst
  replace hX := hX.step hst
  replace qx := qx.step hst
  replace hX2 := hX2.step hst
  replace hB := hB.step hst
  obtain ⟨w11, hw⟩ : ∃ v, w10.alloc (.cells #[.slice ah wd.blocks.length ch, .slice ai wd.waits.length ci] 39) = v := ⟨_, rfl⟩
  rw [hw] at hlt qx2 qd qo hD hO hvb hks hW qw hP hQ hX qx hX2 hB ⊢
  clear hw hst
  have sz_w11 := hlt
  clear hlt
  have HQ := Lib.hid (And.intro qd (And.intro qo (And.intro hD (And.intro hO (And.intro hvb (And.intro hks (And.intro hW (And.intro qw (And.intro hP (And.intro hQ (And.intro hX (And.intro qx (And.intro hX2 (And.intro qx2 hB))))))))))))))
  clear qd qo hD hO hvb hks hW qw hP hQ hX qx hX2 qx2 hB
  have c_qd0 := LK.cell HQ.out.1 0
  have c_qd1 := LK.cell HQ.out.1 1
  have c_qo0 := LK.cell HQ.out.2.1 0
  have c_qo1 := LK.cell HQ.out.2.1 1
  have c_qw0 := LK.cell HQ.out.2.2.2.2.2.2.2.1 0
  have c_qw1 := LK.cell HQ.out.2.2.2.2.2.2.2.1 1
  have c_qx0 := LK.cell HQ.out.2.2.2.2.2.2.2.2.2.2.2.1 0
  have c_qx1 := LK.cell HQ.out.2.2.2.2.2.2.2.2.2.2.2.1 1
  have c_qx20 := LK.cell HQ.out.2.2.2.2.2.2.2.2.2.2.2.2.2.1 0
  have c_qx21 := LK.cell HQ.out.2.2.2.2.2.2.2.2.2.2.2.2.2.1 1
  simp at c_qd0 c_qd1 c_qo0 c_qo1 c_qw0 c_qw1 c_qx0 c_qx1 c_qx20 c_qx21
  go_wp2_with fail
  refine (HC.out.2.2.2.2.2.2.2.2.1 _ _ _ HQ.out.2.2.2.2.2.2.1.v).mono ?_
  rintro e w12 ⟨b7, u7, rfl, hm⟩
  clear c_qd0 c_qd1 c_qo0 c_qo1 c_qw0 c_qw1 c_qx0 c_qx1 c_qx20 c_qx21
  obtain ⟨qd, qo, hD, hO, hvb, hks, hW, qw, hP, hQ, hX, qx, hX2, qx2, hB⟩ := HQ.out
  clear HQ
  have hY := LT.of hm
  have hst := hm.below
  obtain ⟨aj, cj, rfl, -, -, -, -⟩ := hm.v0.1
  obtain ⟨ao, co, rfl, -, -, -, -⟩ := hm.v0.2
  clear hm
  have sz_w12 : w11.heap.size ≤ w12.heap.size := hst.size
  replace qd := qd.step hst
  replace qo := qo.step hst
  replace hD := hD.step hst
  replace hO := hO.step hst
  replace hvb := hvb.step hst
  replace hks := hks.step hst
  replace hW := hW.step hst
  replace qw := qw.step hst
  replace hP := hP.step hst
  replace hQ := hQ.step hst
  replace hX := hX.step hst
  replace qx := qx.step hst
  replace hX2 := hX2.step hst
  replace qx2 := qx2.step hst
  replace hB := hB.step hst
  clear hst
  have HQ := Lib.hid (And.intro qd (And.intro qo (And.intro hD (And.intro hO (And.intro hvb (And.intro hks (And.intro hW (And.intro qw (And.intro hP (And.intro hQ (And.intro hX (And.intro qx (And.intro hX2 (And.intro qx2 (And.intro hY hB)))))))))))))))
  clear qd qo hD hO hvb hks hW qw hP hQ hX qx hX2 qx2 hY hB
  have c_qd0 := LK.cell HQ.out.1 0
  have c_qd1 := LK.cell HQ.out.1 1
  have c_qo0 := LK.cell HQ.out.2.1 0
  have c_qo1 := LK.cell HQ.out.2.1 1
  have c_qw0 := LK.cell HQ.out.2.2.2.2.2.2.2.1 0
  have c_qw1 := LK.cell HQ.out.2.2.2.2.2.2.2.1 1
  have c_qx0 := LK.cell HQ.out.2.2.2.2.2.2.2.2.2.2.2.1 0
  have c_qx1 := LK.cell HQ.out.2.2.2.2.2.2.2.2.2.2.2.1 1
  have c_qx20 := LK.cell HQ.out.2.2.2.2.2.2.2.2.2.2.2.2.2.1 0
  have c_qx21 := LK.cell HQ.out.2.2.2.2.2.2.2.2.2.2.2.2.2.1 1
  simp at c_qd0 c_qd1 c_qo0 c_qo1 c_qw0 c_qw1 c_qx0 c_qx1 c_qx20 c_qx21
  go_upto_region 11 with (fail)
  clear c_qd0 c_qd1 c_qo0 c_qo1 c_qw0 c_qw1 c_qx0 c_qx1 c_qx20 c_qx21
  obtain ⟨qd, qo, hD, hO, hvb, hks, hW, qw, hP, hQ, hX, qx, hX2, qx2, hY, hB⟩ := HQ.out
  clear HQ
  have hst := (Below.refl w12.heap.size w12).alloc (Nat.le_refl _) (.cells #[.slice aj br.blocks.length cj, .slice ao br.waits.length co] 39)
  have hlt : w12.heap.size < (w12.alloc (.cells #[.slice aj br.blocks.length cj, .slice ao br.waits.length co] 39)).heap.size := by simp
  have qy := LK.new w12 (.cells #[.slice aj br.blocks.length cj, .slice ao br.waits.length co] 39)
  replace qd := qd.step hst
  replace qo := qo.step hst
  replace hD := hD.step hst
  replace hO := hO.step hst
  replace hvb := hvb.step hst
  replace hks := hks.step hst
  replace hW := hW.step hst
  replace qw := qw.step hst
  replace hP := hP.step hst
  replace hQ := hQ.step hst
  replace hX := hX.step hst
  replace qx := qx.step hst
  replace hX2 := hX2.step hst
  replace qx2 := qx2.step hst
  replace hY := hY.step hst
  replace hB := hB.step hst
  obtain ⟨w13, hw⟩ : ∃ v, w12.alloc (.cells #[.slice aj br.blocks.length cj, .slice ao br.waits.length co] 39) = v := ⟨_, rfl⟩
  rw [hw] at hlt qy qd qo hD hO hvb hks hW qw hP hQ hX qx hX2 qx2 hY hB ⊢
  clear hw hst
  have sz_w13 := hlt
  clear hlt
  have HQ := Lib.hid (And.intro qd (And.intro qo (And.intro hD (And.intro hO (And.intro hvb (And.intro hks (And.intro hW (And.intro qw (And.intro hP (And.intro hQ (And.intro hX (And.intro qx (And.intro hX2 (And.intro qx2 (And.intro hY (And.intro qy hB))))))))))))))))
  clear qd qo hD hO hvb hks hW qw hP hQ hX qx hX2 qx2 hY qy hB
  have c_qd0 := LK.cell HQ.out.1 0
  have c_qd1 := LK.cell HQ.out.1 1
  have c_qo0 := LK.cell HQ.out.2.1 0
  have c_qo1 := LK.cell HQ.out.2.1 1
  have c_qw0 := LK.cell HQ.out.2.2.2.2.2.2.2.1 0
  have c_qw1 := LK.cell HQ.out.2.2.2.2.2.2.2.1 1
  have c_qx0 := LK.cell HQ.out.2.2.2.2.2.2.2.2.2.2.2.1 0
  have c_qx1 := LK.cell HQ.out.2.2.2.2.2.2.2.2.2.2.2.1 1
  have c_qx20 := LK.cell HQ.out.2.2.2.2.2.2.2.2.2.2.2.2.2.1 0
  have c_qx21 := LK.cell HQ.out.2.2.2.2.2.2.2.2.2.2.2.2.2.1 1
  have c_qy0 := LK.cell HQ.out.2.2.2.2.2.2.2.2.2.2.2.2.2.2.2.1 0
  have c_qy1 := LK.cell HQ.out.2.2.2.2.2.2.2.2.2.2.2.2.2.2.2.1 1
  simp at c_qd0 c_qd1 c_qo0 c_qo1 c_qw0 c_qw1 c_qx0 c_qx1 c_qx20 c_qx21 c_qy0 c_qy1
  go_wp2_with fail
  refine (HC.out.2.2.2.2.2.2.2.2.2.1 _ _ _ HQ.out.2.2.1.v).mono ?_
  rintro e w14 ⟨b8, u8, rfl, hm⟩
  clear c_qd0 c_qd1 c_qo0 c_qo1 c_qw0 c_qw1 c_qx0 c_qx1 c_qx20 c_qx21 c_qy0 c_qy1
  obtain ⟨qd, qo, hD, hO, hvb, hks, hW, qw, hP, hQ, hX, qx, hX2, qx2, hY, qy, hB⟩ := HQ.out
  clear HQ
  have hY2 := LD.of hm.disk (Nat.le_refl _)
  have hst := hm.below
  obtain ⟨aq1, cq1, rfl, -, -, -, -⟩ := hm.disk.1
  obtain ⟨ar1, cr1, rfl, -, -, -, -⟩ := hm.disk.2
  clear hm
  have sz_w14 : w13.heap.size ≤ w14.heap.size := hst.size
  replace qd := qd.step hst
  replace qo := qo.step hst
  replace hD := hD.step hst
  replace hO := hO.step hst
  replace hvb := hvb.step hst
  replace hks := hks.step hst
  replace hW := hW.step hst
  replace qw := qw.step hst
  replace hP := hP.step hst
  replace hQ := hQ.step hst
  replace hX := hX.step hst
  replace qx := qx.step hst
  replace hX2 := hX2.step hst
  replace qx2 := qx2.step hst
  replace hY := hY.step hst
  replace qy := qy.step hst
  replace hB := hB.step hst
  clear hst
  have HQ := Lib.hid (And.intro qd (And.intro qo (And.intro hD (And.intro hO (And.intro hvb (And.intro hks (And.intro hW (And.intro qw (And.intro hP (And.intro hQ (And.intro hX (And.intro qx (And.intro hX2 (And.intro qx2 (And.intro hY (And.intro qy (And.intro hY2 hB)))))))))))))))))
  clear qd qo hD hO hvb hks hW qw hP hQ hX qx hX2 qx2 hY qy hY2 hB
  have c_qd0 := LK.cell HQ.out.1 0
  have c_qd1 := LK.cell HQ.out.1 1
  have c_qo0 := LK.cell HQ.out.2.1 0
  have c_qo1 := LK.cell HQ.out.2.1 1
  have c_qw0 := LK.cell HQ.out.2.2.2.2.2.2.2.1 0
  have c_qw1 := LK.cell HQ.out.2.2.2.2.2.2.2.1 1
  have c_qx0 := LK.cell HQ.out.2.2.2.2.2.2.2.2.2.2.2.1 0
  have c_qx1 := LK.cell HQ.out.2.2.2.2.2.2.2.2.2.2.2.1 1
  have c_qx20 := LK.cell HQ.out.2.2.2.2.2.2.2.2.2.2.2.2.2.1 0
  have c_qx21 := LK.cell HQ.out.2.2.2.2.2.2.2.2.2.2.2.2.2.1 1
  have c_qy0 := LK.cell HQ.out.2.2.2.2.2.2.2.2.2.2.2.2.2.2.2.1 0
  have c_qy1 := LK.cell HQ.out.2.2.2.2.2.2.2.2.2.2.2.2.2.2.2.1 1
  simp at c_qd0 c_qd1 c_qo0 c_qo1 c_qw0 c_qw1 c_qx0 c_qx1 c_qx20 c_qx21 c_qy0 c_qy1
  go_upto_region 12 with (fail)
  clear c_qd0 c_qd1 c_qo0 c_qo1 c_qw0 c_qw1 c_qx0 c_qx1 c_qx20 c_qx21 c_qy0 c_qy1
  obtain ⟨qd, qo, hD, hO, hvb, hks, hW, qw, hP, hQ, hX, qx, hX2, qx2, hY, qy, hY2, hB⟩ := HQ.out
  clear HQ
  have hst := (Below.refl w14.heap.size w14).alloc (Nat.le_refl _) (.cells #[.slice aq1 br.blocks.length cq1, .slice ar1 br.waits.length cr1] 39)
  have hlt : w14.heap.size < (w14.alloc (.cells #[.slice aq1 br.blocks.length cq1, .slice ar1 br.waits.length cr1] 39)).heap.size := by simp
  have qy2 := LK.new w14 (.cells #[.slice aq1 br.blocks.length cq1, .slice ar1 br.waits.length cr1] 39)
  replace qd := qd.step hst
  replace qo := qo.step hst
  replace hD := hD.step hst
  replace hO := hO.step hst
  replace hvb := hvb.step hst
  replace hks := hks.step hst
  replace hW := hW.step hst
  replace qw := qw.step hst
  replace hP := hP.step hst
  replace hQ := hQ.step hst
  replace hX := hX.step hst
  replace qx := qx.step hst
  replace hX2 := hX2.step hst
  replace qx2 := qx2.step hst
  replace hY := hY.step hst
  replace qy := qy.step hst
  replace hY2 := hY2.step hst
  replace hB := hB.step hst
  obtain ⟨w15, hw⟩ : ∃ v, w14.alloc (.cells #[.slice aq1 br.blocks.length cq1, .slice ar1 br.waits.length cr1] 39) = v := ⟨_, rfl⟩
  rw [hw] at hlt qy2 qd qo hD hO hvb hks hW qw hP hQ hX qx hX2 qx2 hY qy hY2 hB ⊢
  clear hw hst
  have sz_w15 := hlt
  clear hlt
  have HQ := Lib.hid (And.intro qd (And.intro qo (And.intro hD (And.intro hO (And.intro hvb (And.intro hks (And.intro hW (And.intro qw (And.intro hP (And.intro hQ (And.intro hX (And.intro qx (And.intro hX2 (And.intro qx2 (And.intro hY (And.intro qy (And.intro hY2 (And.intro qy2 hB))))))))))))))))))
  clear qd qo hD hO hvb hks hW qw hP hQ hX qx hX2 qx2 hY qy hY2 qy2 hB
  have c_qd0 := LK.cell HQ.out.1 0
  have c_qd1 := LK.cell HQ.out.1 1
  have c_qo0 := LK.cell HQ.out.2.1 0
  have c_qo1 := LK.cell HQ.out.2.1 1
  have c_qw0 := LK.cell HQ.out.2.2.2.2.2.2.2.1 0
  have c_qw1 := LK.cell HQ.out.2.2.2.2.2.2.2.1 1
  have c_qx0 := LK.cell HQ.out.2.2.2.2.2.2.2.2.2.2.2.1 0
  have c_qx1 := LK.cell HQ.out.2.2.2.2.2.2.2.2.2.2.2.1 1
  have c_qx20 := LK.cell HQ.out.2.2.2.2.2.2.2.2.2.2.2.2.2.1 0
  have c_qx21 := LK.cell HQ.out.2.2.2.2.2.2.2.2.2.2.2.2.2.1 1
  have c_qy0 := LK.cell HQ.out.2.2.2.2.2.2.2.2.2.2.2.2.2.2.2.1 0
  have c_qy1 := LK.cell HQ.out.2.2.2.2.2.2.2.2.2.2.2.2.2.2.2.1 1
  have c_qy20 := LK.cell HQ.out.2.2.2.2.2.2.2.2.2.2.2.2.2.2.2.2.2.1 0
  have c_qy21 := LK.cell HQ.out.2.2.2.2.2.2.2.2.2.2.2.2.2.2.2.2.2.1 1
  simp at c_qd0 c_qd1 c_qo0 c_qo1 c_qw0 c_qw1 c_qx0 c_qx1 c_qx20 c_qx21 c_qy0 c_qy1 c_qy20 c_qy21
  go_wp2_with fail
  refine (HC.out.2.2.2.2.2.2.2.2.2.2.1 _ _ _ _ HQ.out.2.2.2.2.2.2.1.v HQ.out.2.2.2.2.2.1.v).mono ?_
  rintro e w16 ⟨b9, u9, rfl, hm⟩
  clear c_qd0 c_qd1 c_qo0 c_qo1 c_qw0 c_qw1 c_qx0 c_qx1 c_qx20 c_qx21 c_qy0 c_qy1 c_qy20 c_qy21
  obtain ⟨qd, qo, hD, hO, hvb, hks, hW, qw, hP, hQ, hX, qx, hX2, qx2, hY, qy, hY2, qy2, hB⟩ := HQ.out
  clear HQ
  have hZ := LT.of hm
  have hst := hm.below
  obtain ⟨as1, cs1, rfl, -, -, -, -⟩ := hm.v0.1
  obtain ⟨at1, ct1, rfl, -, -, -, -⟩ := hm.v0.2
  clear hm
  have sz_w16 : w15.heap.size ≤ w16.heap.size := hst.size
  replace qd := qd.step hst
  replace qo := qo.step hst
  replace hD := hD.step hst
  replace hO := hO.step hst
  replace hvb := hvb.step hst
  replace hks := hks.step hst
  replace hW := hW.step hst
  replace qw := qw.step hst
  replace hP := hP.step hst
  replace hQ := hQ.step hst
  replace hX := hX.step hst
  replace qx := qx.step hst
  replace hX2 := hX2.step hst
  replace qx2 := qx2.step hst
  replace hY := hY.step hst
  replace qy := qy.step hst
  replace hY2 := hY2.step hst
  replace qy2 := qy2.step hst
  replace hB := hB.step hst
  clear hst
  have HQ := Lib.hid (And.intro qd (And.intro qo (And.intro hD (And.intro hO (And.intro hvb (And.intro hks (And.intro hW (And.intro qw (And.intro hP (And.intro hQ (And.intro hX (And.intro qx (And.intro hX2 (And.intro qx2 (And.intro hY (And.intro qy (And.intro hY2 (And.intro qy2 (And.intro hZ hB)))))))))))))))))))
  clear qd qo hD hO hvb hks hW qw hP hQ hX qx hX2 qx2 hY qy hY2 qy2 hZ hB
  have c_qd0 := LK.cell HQ.out.1 0
  have c_qd1 := LK.cell HQ.out.1 1
  have c_qo0 := LK.cell HQ.out.2.1 0
  have c_qo1 := LK.cell HQ.out.2.1 1
  have c_qw0 := LK.cell HQ.out.2.2.2.2.2.2.2.1 0
  have c_qw1 := LK.cell HQ.out.2.2.2.2.2.2.2.1 1
  have c_qx0 := LK.cell HQ.out.2.2.2.2.2.2.2.2.2.2.2.1 0
  have c_qx1 := LK.cell HQ.out.2.2.2.2.2.2.2.2.2.2.2.1 1
  have c_qx20 := LK.cell HQ.out.2.2.2.2.2.2.2.2.2.2.2.2.2.1 0
  have c_qx21 := LK.cell HQ.out.2.2.2.2.2.2.2.2.2.2.2.2.2.1 1
  have c_qy0 := LK.cell HQ.out.2.2.2.2.2.2.2.2.2.2.2.2.2.2.2.1 0
  have c_qy1 := LK.cell HQ.out.2.2.2.2.2.2.2.2.2.2.2.2.2.2.2.1 1
  have c_qy20 := LK.cell HQ.out.2.2.2.2.2.2.2.2.2.2.2.2.2.2.2.2.2.1 0
  have c_qy21 := LK.cell HQ.out.2.2.2.2.2.2.2.2.2.2.2.2.2.2.2.2.2.1 1
  simp at c_qd0 c_qd1 c_qo0 c_qo1 c_qw0 c_qw1 c_qx0 c_qx1 c_qx20 c_qx21 c_qy0 c_qy1 c_qy20 c_qy21
  go_upto_region 13 with (fail)
  clear c_qd0 c_qd1 c_qo0 c_qo1 c_qw0 c_qw1 c_qx0 c_qx1 c_qx20 c_qx21 c_qy0 c_qy1 c_qy20 c_qy21
  obtain ⟨qd, qo, hD, hO, hvb, hks, hW, qw, hP, hQ, hX, qx, hX2, qx2, hY, qy, hY2, qy2, hZ, hB⟩ := HQ.out
  clear HQ
  have hst := (Below.refl w16.heap.size w16).alloc (Nat.le_refl _) (.cells #[.slice as1 cr.blocks.length cs1, .slice at1 cr.waits.length ct1] 39)
  have hlt : w16.heap.size < (w16.alloc (.cells #[.slice as1 cr.blocks.length cs1, .slice at1 cr.waits.length ct1] 39)).heap.size := by simp
  have qz := LK.new w16 (.cells #[.slice as1 cr.blocks.length cs1, .slice at1 cr.waits.length ct1] 39)
  replace qd := qd.step hst
  replace qo := qo.step hst
  replace hD := hD.step hst
  replace hO := hO.step hst
  replace hvb := hvb.step hst
  replace hks := hks.step hst
  replace hW := hW.step hst
  replace qw := qw.step hst
  replace hP := hP.step hst
  replace hQ := hQ.step hst
  replace hX := hX.step hst
  replace qx := qx.step hst
  replace hX2 := hX2.step hst
  replace qx2 := qx2.step hst
  replace hY := hY.step hst
  replace qy := qy.step hst
  replace hY2 := hY2.step hst
  replace qy2 := qy2.step hst
  replace hZ := hZ.step hst
  replace hB := hB.step hst
  obtain ⟨w17, hw⟩ : ∃ v, w16.alloc (.cells #[.slice as1 cr.blocks.length cs1, .slice at1 cr.waits.length ct1] 39) = v := ⟨_, rfl⟩
  rw [hw] at hlt qz qd qo hD hO hvb hks hW qw hP hQ hX qx hX2 qx2 hY qy hY2 qy2 hZ hB ⊢
  clear hw hst
  have sz_w17 := hlt
  clear hlt
  have HQ := Lib.hid (And.intro qd (And.intro qo (And.intro hD (And.intro hO (And.intro hvb (And.intro hks (And.intro hW (And.intro qw (And.intro hP (And.intro hQ (And.intro hX (And.intro qx (And.intro hX2 (And.intro qx2 (And.intro hY (And.intro qy (And.intro hY2 (And.intro qy2 (And.intro hZ (And.intro qz hB))))))))))))))))))))
  clear qd qo hD hO hvb hks hW qw hP hQ hX qx hX2 qx2 hY qy hY2 qy2 hZ qz hB
  have c_qd0 := LK.cell HQ.out.1 0
  have c_qd1 := LK.cell HQ.out.1 1
  have c_qo0 := LK.cell HQ.out.2.1 0
  have c_qo1 := LK.cell HQ.out.2.1 1
  have c_qw0 := LK.cell HQ.out.2.2.2.2.2.2.2.1 0
  have c_qw1 := LK.cell HQ.out.2.2.2.2.2.2.2.1 1
  have c_qx0 := LK.cell HQ.out.2.2.2.2.2.2.2.2.2.2.2.1 0
  have c_qx1 := LK.cell HQ.out.2.2.2.2.2.2.2.2.2.2.2.1 1
  have c_qx20 := LK.cell HQ.out.2.2.2.2.2.2.2.2.2.2.2.2.2.1 0
  have c_qx21 := LK.cell HQ.out.2.2.2.2.2.2.2.2.2.2.2.2.2.1 1
  have c_qy0 := LK.cell HQ.out.2.2.2.2.2.2.2.2.2.2.2.2.2.2.2.1 0
  have c_qy1 := LK.cell HQ.out.2.2.2.2.2.2.2.2.2.2.2.2.2.2.2.1 1
  have c_qy20 := LK.cell HQ.out.2.2.2.2.2.2.2.2.2.2.2.2.2.2.2.2.2.1 0
  have c_qy21 := LK.cell HQ.out.2.2.2.2.2.2.2.2.2.2.2.2.2.2.2.2.2.1 1
  have c_qz0 := LK.cell HQ.out.2.2.2.2.2.2.2.2.2.2.2.2.2.2.2.2.2.2.2.1 0
  have c_qz1 := LK.cell HQ.out.2.2.2.2.2.2.2.2.2.2.2.2.2.2.2.2.2.2.2.1 1
  simp at c_qd0 c_qd1 c_qo0 c_qo1 c_qw0 c_qw1 c_qx0 c_qx1 c_qx20 c_qx21 c_qy0 c_qy1 c_qy20 c_qy21 c_qz0 c_qz1
  go_wp2_with fail
  refine (HC.out.2.2.2.2.2.2.2.2.2.2.2.1 _ _ _ _ HQ.out.2.2.1.v HQ.out.2.2.2.2.2.1.v).mono ?_
  rintro e w18 ⟨b10, u10, rfl, hm⟩
  clear c_qd0 c_qd1 c_qo0 c_qo1 c_qw0 c_qw1 c_qx0 c_qx1 c_qx20 c_qx21 c_qy0 c_qy1 c_qy20 c_qy21 c_qz0 c_qz1
  obtain ⟨qd, qo, hD, hO, hvb, hks, hW, qw, hP, hQ, hX, qx, hX2, qx2, hY, qy, hY2, qy2, hZ, qz, hB⟩ := HQ.out
  clear HQ
  have hZ2 := LD.of hm.disk (Nat.le_refl _)
  have hst := hm.below
  obtain ⟨ax1, cx1, rfl, -, -, -, -⟩ := hm.disk.1
  obtain ⟨ay1, cy1, rfl, -, -, -, -⟩ := hm.disk.2
  clear hm
  have sz_w18 : w17.heap.size ≤ w18.heap.size := hst.size
  replace qd := qd.step hst
  replace qo := qo.step hst
  replace hD := hD.step hst
  replace hO := hO.step hst
  replace hvb := hvb.step hst
  replace hks := hks.step hst
  replace hW := hW.step hst
  replace qw := qw.step hst
  replace hP := hP.step hst
  replace hQ := hQ.step hst
  replace hX := hX.step hst
  replace qx := qx.step hst
  replace hX2 := hX2.step hst
  replace qx2 := qx2.step hst
  replace hY := hY.step hst
  replace qy := qy.step hst
  replace hY2 := hY2.step hst
  replace qy2 := qy2.step hst
  replace hZ := hZ.step hst
  replace qz := qz.step hst
  replace hB := hB.step hst
  clear hst
  have HQ := Lib.hid (And.intro qd (And.intro qo (And.intro hD (And.intro hO (And.intro hvb (And.intro hks (And.intro hW (And.intro qw (And.intro hP (And.intro hQ (And.intro hX (And.intro qx (And.intro hX2 (And.intro qx2 (And.intro hY (And.intro qy (And.intro hY2 (And.intro qy2 (And.intro hZ (And.intro qz (And.intro hZ2 hB)))))))))))))))))))))
  clear qd qo hD hO hvb hks hW qw hP hQ hX qx hX2 qx2 hY qy hY2 qy2 hZ qz hZ2 hB
  have c_qd0 := LK.cell HQ.out.1 0
  have c_qd1 := LK.cell HQ.out.1 1
  have c_qo0 := LK.cell HQ.out.2.1 0
  have c_qo1 := LK.cell HQ.out.2.1 1
  have c_qw0 := LK.cell HQ.out.2.2.2.2.2.2.2.1 0
  have c_qw1 := LK.cell HQ.out.2.2.2.2.2.2.2.1 1
  have c_qx0 := LK.cell HQ.out.2.2.2.2.2.2.2.2.2.2.2.1 0
  have c_qx1 := LK.cell HQ.out.2.2.2.2.2.2.2.2.2.2.2.1 1
  have c_qx20 := LK.cell HQ.out.2.2.2.2.2.2.2.2.2.2.2.2.2.1 0
  have c_qx21 := LK.cell HQ.out.2.2.2.2.2.2.2.2.2.2.2.2.2.1 1
  have c_qy0 := LK.cell HQ.out.2.2.2.2.2.2.2.2.2.2.2.2.2.2.2.1 0
  have c_qy1 := LK.cell HQ.out.2.2.2.2.2.2.2.2.2.2.2.2.2.2.2.1 1
  have c_qy20 := LK.cell HQ.out.2.2.2.2.2.2.2.2.2.2.2.2.2.2.2.2.2.1 0
  have c_qy21 := LK.cell HQ.out.2.2.2.2.2.2.2.2.2.2.2.2.2.2.2.2.2.1 1
  have c_qz0 := LK.cell HQ.out.2.2.2.2.2.2.2.2.2.2.2.2.2.2.2.2.2.2.2.1 0
  have c_qz1 := LK.cell HQ.out.2.2.2.2.2.2.2.2.2.2.2.2.2.2.2.2.2.2.2.1 1
  simp at c_qd0 c_qd1 c_qo0 c_qo1 c_qw0 c_qw1 c_qx0 c_qx1 c_qx20 c_qx21 c_qy0 c_qy1 c_qy20 c_qy21 c_qz0 c_qz1
  go_upto_region 14 with (fail)
  clear c_qd0 c_qd1 c_qo0 c_qo1 c_qw0 c_qw1 c_qx0 c_qx1 c_qx20 c_qx21 c_qy0 c_qy1 c_qy20 c_qy21 c_qz0 c_qz1
  obtain ⟨qd, qo, hD, hO, hvb, hks, hW, qw, hP, hQ, hX, qx, hX2, qx2, hY, qy, hY2, qy2, hZ, qz, hZ2, hB⟩ := HQ.out
  clear HQ
  have hst := (Below.refl w18.heap.size w18).alloc (Nat.le_refl _) (.cells #[.slice ax1 cr.blocks.length cx1, .slice ay1 cr.waits.length cy1] 39)
  have hlt : w18.heap.size < (w18.alloc (.cells #[.slice ax1 cr.blocks.length cx1, .slice ay1 cr.waits.length cy1] 39)).heap.size := by simp
  have qz2 := LK.new w18 (.cells #[.slice ax1 cr.blocks.length cx1, .slice ay1 cr.waits.length cy1] 39)
  replace qd := qd.step hst
  replace qo := qo.step hst
  replace hD := hD.step hst
  replace hO := hO.step hst
  replace hvb := hvb.step hst
  replace hks := hks.step hst
  replace hW := hW.step hst
  replace qw := qw.step hst
  replace hP := hP.step hst
  replace hQ := hQ.step hst
  replace hX := hX.step hst
  replace qx := qx.step hst
  replace hX2 := hX2.step hst
  replace qx2 := qx2.step hst
  replace hY := hY.step hst
  replace qy := qy.step hst
  replace hY2 := hY2.step hst
  replace qy2 := qy2.step hst
  replace hZ := hZ.step hst
  replace qz := qz.step hst
  replace hZ2 := hZ2.step hst
  replace hB := hB.step hst
  obtain ⟨w19, hw⟩ : ∃ v, w18.alloc (.cells #[.slice ax1 cr.blocks.length cx1, .slice ay1 cr.waits.length cy1] 39) = v := ⟨_, rfl⟩
  rw [hw] at hlt qz2 qd qo hD hO hvb hks hW qw hP hQ hX qx hX2 qx2 hY qy hY2 qy2 hZ qz hZ2 hB ⊢
  clear hw hst
  have sz_w19 := hlt
  clear hlt
  have HQ := Lib.hid (And.intro qd (And.intro qo (And.intro hD (And.intro hO (And.intro hvb (And.intro hks (And.intro hW (And.intro qw (And.intro hP (And.intro hQ (And.intro hX (And.intro qx (And.intro hX2 (And.intro qx2 (And.intro hY (And.intro qy (And.intro hY2 (And.intro qy2 (And.intro hZ (And.intro qz (And.intro hZ2 (And.intro qz2 hB))))))))))))))))))))))
  clear qd qo hD hO hvb hks hW qw hP hQ hX qx hX2 qx2 hY qy hY2 qy2 hZ qz hZ2 qz2 hB
  have c_qd0 := LK.cell HQ.out.1 0
  have c_qd1 := LK.cell HQ.out.1 1
  have c_qo0 := LK.cell HQ.out.2.1 0
  have c_qo1 := LK.cell HQ.out.2.1 1
  have c_qw0 := LK.cell HQ.out.2.2.2.2.2.2.2.1 0
  have c_qw1 := LK.cell HQ.out.2.2.2.2.2.2.2.1 1
  have c_qx0 := LK.cell HQ.out.2.2.2.2.2.2.2.2.2.2.2.1 0
  have c_qx1 := LK.cell HQ.out.2.2.2.2.2.2.2.2.2.2.2.1 1
  have c_qx20 := LK.cell HQ.out.2.2.2.2.2.2.2.2.2.2.2.2.2.1 0
  have c_qx21 := LK.cell HQ.out.2.2.2.2.2.2.2.2.2.2.2.2.2.1 1
  have c_qy0 := LK.cell HQ.out.2.2.2.2.2.2.2.2.2.2.2.2.2.2.2.1 0
  have c_qy1 := LK.cell HQ.out.2.2.2.2.2.2.2.2.2.2.2.2.2.2.2.1 1
  have c_qy20 := LK.cell HQ.out.2.2.2.2.2.2.2.2.2.2.2.2.2.2.2.2.2.1 0
  have c_qy21 := LK.cell HQ.out.2.2.2.2.2.2.2.2.2.2.2.2.2.2.2.2.2.1 1
  have c_qz0 := LK.cell HQ.out.2.2.2.2.2.2.2.2.2.2.2.2.2.2.2.2.2.2.2.1 0
  have c_qz1 := LK.cell HQ.out.2.2.2.2.2.2.2.2.2.2.2.2.2.2.2.2.2.2.2.1 1
  have c_qz20 := LK.cell HQ.out.2.2.2.2.2.2.2.2.2.2.2.2.2.2.2.2.2.2.2.2.2.1 0
  have c_qz21 := LK.cell HQ.out.2.2.2.2.2.2.2.2.2.2.2.2.2.2.2.2.2.2.2.2.2.1 1
  simp at c_qd0 c_qd1 c_qo0 c_qo1 c_qw0 c_qw1 c_qx0 c_qx1 c_qx20 c_qx21 c_qy0 c_qy1 c_qy20 c_qy21 c_qz0 c_qz1 c_qz20 c_qz21
  have t1 := cv_of HQ.out.2.2.2.2.2.2.2.2.1.v
  have t2 := cv_of HQ.out.2.2.2.2.2.2.2.2.2.1.v
  go_wp2_with fail
  clear t1 t2
  refine (HC.out.2.2.2.2.2.2.2.2.2.2.2.2.2.2.1 _ wd _ _ _ _ HQ.out.2.2.2.2.2.2.2.2.2.2.1.v HQ.out.2.2.2.2.2.2.2.2.2.2.2.2.1.v).mono ?_
  rintro e w20 ⟨rfl, hst⟩
  clear c_qd0 c_qd1 c_qo0 c_qo1 c_qw0 c_qw1 c_qx0 c_qx1 c_qx20 c_qx21 c_qy0 c_qy1 c_qy20 c_qy21 c_qz0 c_qz1 c_qz20 c_qz21
  obtain ⟨qd, qo, hD, hO, hvb, hks, hW, qw, hP, hQ, hX, qx, hX2, qx2, hY, qy, hY2, qy2, hZ, qz, hZ2, qz2, hB⟩ := HQ.out
  clear HQ
  have sz_w20 : w19.heap.size ≤ w20.heap.size := hst.size
  replace qd := qd.step hst
  replace qo := qo.step hst
  replace hD := hD.step hst
  replace hO := hO.step hst
  replace hvb := hvb.step hst
  replace hks := hks.step hst
  replace hW := hW.step hst
  replace qw := qw.step hst
  replace hP := hP.step hst
  replace hQ := hQ.step hst
  replace hX := hX.step hst
  replace qx := qx.step hst
  replace hX2 := hX2.step hst
  replace qx2 := qx2.step hst
  replace hY := hY.step hst
  replace qy := qy.step hst
  replace hY2 := hY2.step hst
  replace qy2 := qy2.step hst
  replace hZ := hZ.step hst
  replace qz := qz.step hst
  replace hZ2 := hZ2.step hst
  replace qz2 := qz2.step hst
  replace hB := hB.step hst
  clear hst
  have HQ := Lib.hid (And.intro qd (And.intro qo (And.intro hD (And.intro hO (And.intro hvb (And.intro hks (And.intro hW (And.intro qw (And.intro hP (And.intro hQ (And.intro hX (And.intro qx (And.intro hX2 (And.intro qx2 (And.intro hY (And.intro qy (And.intro hY2 (And.intro qy2 (And.intro hZ (And.intro qz (And.intro hZ2 (And.intro qz2 hB))))))))))))))))))))))
  clear qd qo hD hO hvb hks hW qw hP hQ hX qx hX2 qx2 hY qy hY2 qy2 hZ qz hZ2 qz2 hB
  have c_qd0 := LK.cell HQ.out.1 0
  have c_qd1 := LK.cell HQ.out.1 1
  have c_qo0 := LK.cell HQ.out.2.1 0
  have c_qo1 := LK.cell HQ.out.2.1 1
  have c_qw0 := LK.cell HQ.out.2.2.2.2.2.2.2.1 0
  have c_qw1 := LK.cell HQ.out.2.2.2.2.2.2.2.1 1
  have c_qx0 := LK.cell HQ.out.2.2.2.2.2.2.2.2.2.2.2.1 0
  have c_qx1 := LK.cell HQ.out.2.2.2.2.2.2.2.2.2.2.2.1 1
  have c_qx20 := LK.cell HQ.out.2.2.2.2.2.2.2.2.2.2.2.2.2.1 0
  have c_qx21 := LK.cell HQ.out.2.2.2.2.2.2.2.2.2.2.2.2.2.1 1
  have c_qy0 := LK.cell HQ.out.2.2.2.2.2.2.2.2.2.2.2.2.2.2.2.1 0
  have c_qy1 := LK.cell HQ.out.2.2.2.2.2.2.2.2.2.2.2.2.2.2.2.1 1
  have c_qy20 := LK.cell HQ.out.2.2.2.2.2.2.2.2.2.2.2.2.2.2.2.2.2.1 0
  have c_qy21 := LK.cell HQ.out.2.2.2.2.2.2.2.2.2.2.2.2.2.2.2.2.2.1 1
  have c_qz0 := LK.cell HQ.out.2.2.2.2.2.2.2.2.2.2.2.2.2.2.2.2.2.2.2.1 0
  have c_qz1 := LK.cell HQ.out.2.2.2.2.2.2.2.2.2.2.2.2.2.2.2.2.2.2.2.1 1
  have c_qz20 := LK.cell HQ.out.2.2.2.2.2.2.2.2.2.2.2.2.2.2.2.2.2.2.2.2.2.1 0
  have c_qz21 := LK.cell HQ.out.2.2.2.2.2.2.2.2.2.2.2.2.2.2.2.2.2.2.2.2.2.1 1
  simp at c_qd0 c_qd1 c_qo0 c_qo1 c_qw0 c_qw1 c_qx0 c_qx1 c_qx20 c_qx21 c_qy0 c_qy1 c_qy20 c_qy21 c_qz0 c_qz1 c_qz20 c_qz21
  go_wp2_with fail
  refine (HC.out.2.2.2.2.2.2.2.2.2.2.2.2.2.2.1 _ br _ _ _ _ HQ.out.2.2.2.2.2.2.2.2.2.2.2.2.2.2.1.v HQ.out.2.2.2.2.2.2.2.2.2.2.2.2.2.2.2.2.1.v).mono ?_
  rintro e w21 ⟨rfl, hst⟩
  clear c_qd0 c_qd1 c_qo0 c_qo1 c_qw0 c_qw1 c_qx0 c_qx1 c_qx20 c_qx21 c_qy0 c_qy1 c_qy20 c_qy21 c_qz0 c_qz1 c_qz20 c_qz21
  obtain ⟨qd, qo, hD, hO, hvb, hks, hW, qw, hP, hQ, hX, qx, hX2, qx2, hY, qy, hY2, qy2, hZ, qz, hZ2, qz2, hB⟩ := HQ.out
  clear HQ
  have sz_w21 : w20.heap.size ≤ w21.heap.size := hst.size
  replace qd := qd.step hst
  replace qo := qo.step hst
  replace hD := hD.step hst
  replace hO := hO.step hst
  replace hvb := hvb.step hst
  replace hks := hks.step hst
  replace hW := hW.step hst
  replace qw := qw.step hst
  replace hP := hP.step hst
  replace hQ := hQ.step hst
  replace hX := hX.step hst
  replace qx := qx.step hst
  replace hX2 := hX2.step hst
  replace qx2 := qx2.step hst
  replace hY := hY.step hst
  replace qy := qy.step hst
  replace hY2 := hY2.step hst
  replace qy2 := qy2.step hst
  replace hZ := hZ.step hst
  replace qz := qz.step hst
  replace hZ2 := hZ2.step hst
  replace qz2 := qz2.step hst
  replace hB := hB.step hst
  clear hst
  have HQ := Lib.hid (And.intro qd (And.intro qo (And.intro hD (And.intro hO (And.intro hvb (And.intro hks (And.intro hW (And.intro qw (And.intro hP (And.intro hQ (And.intro hX (And.intro qx (And.intro hX2 (And.intro qx2 (And.intro hY (And.intro qy (And.intro hY2 (And.intro qy2 (And.intro hZ (And.intro qz (And.intro hZ2 (And.intro qz2 hB))))))))))))))))))))))
  clear qd qo hD hO hvb hks hW qw hP hQ hX qx hX2 qx2 hY qy hY2 qy2 hZ qz hZ2 qz2 hB
  have c_qd0 := LK.cell HQ.out.1 0
  have c_qd1 := LK.cell HQ.out.1 1
  have c_qo0 := LK.cell HQ.out.2.1 0
  have c_qo1 := LK.cell HQ.out.2.1 1
  have c_qw0 := LK.cell HQ.out.2.2.2.2.2.2.2.1 0
  have c_qw1 := LK.cell HQ.out.2.2.2.2.2.2.2.1 1
  have c_qx0 := LK.cell HQ.out.2.2.2.2.2.2.2.2.2.2.2.1 0
  have c_qx1 := LK.cell HQ.out.2.2.2.2.2.2.2.2.2.2.2.1 1
  have c_qx20 := LK.cell HQ.out.2.2.2.2.2.2.2.2.2.2.2.2.2.1 0
  have c_qx21 := LK.cell HQ.out.2.2.2.2.2.2.2.2.2.2.2.2.2.1 1
  have c_qy0 := LK.cell HQ.out.2.2.2.2.2.2.2.2.2.2.2.2.2.2.2.1 0
  have c_qy1 := LK.cell HQ.out.2.2.2.2.2.2.2.2.2.2.2.2.2.2.2.1 1
  have c_qy20 := LK.cell HQ.out.2.2.2.2.2.2.2.2.2.2.2.2.2.2.2.2.2.1 0
  have c_qy21 := LK.cell HQ.out.2.2.2.2.2.2.2.2.2.2.2.2.2.2.2.2.2.1 1
  have c_qz0 := LK.cell HQ.out.2.2.2.2.2.2.2.2.2.2.2.2.2.2.2.2.2.2.2.1 0
  have c_qz1 := LK.cell HQ.out.2.2.2.2.2.2.2.2.2.2.2.2.2.2.2.2.2.2.2.1 1
  have c_qz20 := LK.cell HQ.out.2.2.2.2.2.2.2.2.2.2.2.2.2.2.2.2.2.2.2.2.2.1 0
  have c_qz21 := LK.cell HQ.out.2.2.2.2.2.2.2.2.2.2.2.2.2.2.2.2.2.2.2.2.2.1 1
  simp at c_qd0 c_qd1 c_qo0 c_qo1 c_qw0 c_qw1 c_qx0 c_qx1 c_qx20 c_qx21 c_qy0 c_qy1 c_qy20 c_qy21 c_qz0 c_qz1 c_qz20 c_qz21
  go_wp2_with fail
  refine (HC.out.2.2.2.2.2.2.2.2.2.2.2.2.2.2.1 _ cr _ _ _ _ HQ.out.2.2.2.2.2.2.2.2.2.2.2.2.2.2.2.2.2.2.1.v HQ.out.2.2.2.2.2.2.2.2.2.2.2.2.2.2.2.2.2.2.2.2.1.v).mono ?_
  rintro e w22 ⟨rfl, hst⟩
  clear c_qd0 c_qd1 c_qo0 c_qo1 c_qw0 c_qw1 c_qx0 c_qx1 c_qx20 c_qx21 c_qy0 c_qy1 c_qy20 c_qy21 c_qz0 c_qz1 c_qz20 c_qz21
  obtain ⟨qd, qo, hD, hO, hvb, hks, hW, qw, hP, hQ, hX, qx, hX2, qx2, hY, qy, hY2, qy2, hZ, qz, hZ2, qz2, hB⟩ := HQ.out
  clear HQ
  have sz_w22 : w21.heap.size ≤ w22.heap.size := hst.size
  replace qd := qd.step hst
  replace qo := qo.step hst
  replace hD := hD.step hst
  replace hO := hO.step hst
  replace hvb := hvb.step hst
  replace hks := hks.step hst
  replace hW := hW.step hst
  replace qw := qw.step hst
  replace hP := hP.step hst
  replace hQ := hQ.step hst
  replace hX := hX.step hst
  replace qx := qx.step hst
  replace hX2 := hX2.step hst
  replace qx2 := qx2.step hst
  replace hY := hY.step hst
  replace qy := qy.step hst
  replace hY2 := hY2.step hst
  replace qy2 := qy2.step hst
  replace hZ := hZ.step hst
  replace qz := qz.step hst
  replace hZ2 := hZ2.step hst
  replace qz2 := qz2.step hst
  replace hB := hB.step hst
  clear hst
  have HQ := Lib.hid (And.intro qd (And.intro qo (And.intro hD (And.intro hO (And.intro hvb (And.intro hks (And.intro hW (And.intro qw (And.intro hP (And.intro hQ (And.intro hX (And.intro qx (And.intro hX2 (And.intro qx2 (And.intro hY (And.intro qy (And.intro hY2 (And.intro qy2 (And.intro hZ (And.intro qz (And.intro hZ2 (And.intro qz2 hB))))))))))))))))))))))
  clear qd qo hD hO hvb hks hW qw hP hQ hX qx hX2 qx2 hY qy hY2 qy2 hZ qz hZ2 qz2 hB
  have c_qd0 := LK.cell HQ.out.1 0
  have c_qd1 := LK.cell HQ.out.1 1
  have c_qo0 := LK.cell HQ.out.2.1 0
  have c_qo1 := LK.cell HQ.out.2.1 1
  have c_qw0 := LK.cell HQ.out.2.2.2.2.2.2.2.1 0
  have c_qw1 := LK.cell HQ.out.2.2.2.2.2.2.2.1 1
  have c_qx0 := LK.cell HQ.out.2.2.2.2.2.2.2.2.2.2.2.1 0
  have c_qx1 := LK.cell HQ.out.2.2.2.2.2.2.2.2.2.2.2.1 1
  have c_qx20 := LK.cell HQ.out.2.2.2.2.2.2.2.2.2.2.2.2.2.1 0
  have c_qx21 := LK.cell HQ.out.2.2.2.2.2.2.2.2.2.2.2.2.2.1 1
  have c_qy0 := LK.cell HQ.out.2.2.2.2.2.2.2.2.2.2.2.2.2.2.2.1 0
  have c_qy1 := LK.cell HQ.out.2.2.2.2.2.2.2.2.2.2.2.2.2.2.2.1 1
  have c_qy20 := LK.cell HQ.out.2.2.2.2.2.2.2.2.2.2.2.2.2.2.2.2.2.1 0
  have c_qy21 := LK.cell HQ.out.2.2.2.2.2.2.2.2.2.2.2.2.2.2.2.2.2.1 1
  have c_qz0 := LK.cell HQ.out.2.2.2.2.2.2.2.2.2.2.2.2.2.2.2.2.2.2.2.1 0
  have c_qz1 := LK.cell HQ.out.2.2.2.2.2.2.2.2.2.2.2.2.2.2.2.2.2.2.2.1 1
  have c_qz20 := LK.cell HQ.out.2.2.2.2.2.2.2.2.2.2.2.2.2.2.2.2.2.2.2.2.2.1 0
  have c_qz21 := LK.cell HQ.out.2.2.2.2.2.2.2.2.2.2.2.2.2.2.2.2.2.2.2.2.2.1 1
  simp at c_qd0 c_qd1 c_qo0 c_qo1 c_qw0 c_qw1 c_qx0 c_qx1 c_qx20 c_qx21 c_qy0 c_qy1 c_qy20 c_qy21 c_qz0 c_qz1 c_qz20 c_qz21
  go_wp2_with fail
  refine (dnew_any _).mono ?_
  rintro e w23 ⟨b11, rfl, hm⟩
  clear c_qd0 c_qd1 c_qo0 c_qo1 c_qw0 c_qw1 c_qx0 c_qx1 c_qx20 c_qx21 c_qy0 c_qy1 c_qy20 c_qy21 c_qz0 c_qz1 c_qz20 c_qz21
  obtain ⟨qd, qo, hD, hO, hvb, hks, hW, qw, hP, hQ, hX, qx, hX2, qx2, hY, qy, hY2, qy2, hZ, qz, hZ2, qz2, hB⟩ := HQ.out
  clear HQ
  have hN := LT.of hm
  have hst := hm.below
  clear hm
  have sz_w23 : w22.heap.size ≤ w23.heap.size := hst.size
  replace qd := qd.step hst
  replace qo := qo.step hst
  replace hD := hD.step hst
  replace hO := hO.step hst
  replace hvb := hvb.step hst
  replace hks := hks.step hst
  replace hW := hW.step hst
  replace qw := qw.step hst
  replace hP := hP.step hst
  replace hQ := hQ.step hst
  replace hX := hX.step hst
  replace qx := qx.step hst
  replace hX2 := hX2.step hst
  replace qx2 := qx2.step hst
  replace hY := hY.step hst
  replace qy := qy.step hst
  replace hY2 := hY2.step hst
  replace qy2 := qy2.step hst
  replace hZ := hZ.step hst
  replace qz := qz.step hst
  replace hZ2 := hZ2.step hst
  replace qz2 := qz2.step hst
  replace hB := hB.step hst
  clear hst
  have HQ := Lib.hid (And.intro qd (And.intro qo (And.intro hD (And.intro hO (And.intro hvb (And.intro hks (And.intro hW (And.intro qw (And.intro hP (And.intro hQ (And.intro hX (And.intro qx (And.intro hX2 (And.intro qx2 (And.intro hY (And.intro qy (And.intro hY2 (And.intro qy2 (And.intro hZ (And.intro qz (And.intro hZ2 (And.intro qz2 (And.intro hN hB)))))))))))))))))))))))
  clear qd qo hD hO hvb hks hW qw hP hQ hX qx hX2 qx2 hY qy hY2 qy2 hZ qz hZ2 qz2 hN hB
  have c_qd0 := LK.cell HQ.out.1 0
  have c_qd1 := LK.cell HQ.out.1 1
  have c_qo0 := LK.cell HQ.out.2.1 0
  have c_qo1 := LK.cell HQ.out.2.1 1
  have c_qw0 := LK.cell HQ.out.2.2.2.2.2.2.2.1 0
  have c_qw1 := LK.cell HQ.out.2.2.2.2.2.2.2.1 1
  have c_qx0 := LK.cell HQ.out.2.2.2.2.2.2.2.2.2.2.2.1 0
  have c_qx1 := LK.cell HQ.out.2.2.2.2.2.2.2.2.2.2.2.1 1
  have c_qx20 := LK.cell HQ.out.2.2.2.2.2.2.2.2.2.2.2.2.2.1 0
  have c_qx21 := LK.cell HQ.out.2.2.2.2.2.2.2.2.2.2.2.2.2.1 1
  have c_qy0 := LK.cell HQ.out.2.2.2.2.2.2.2.2.2.2.2.2.2.2.2.1 0
  have c_qy1 := LK.cell HQ.out.2.2.2.2.2.2.2.2.2.2.2.2.2.2.2.1 1
  have c_qy20 := LK.cell HQ.out.2.2.2.2.2.2.2.2.2.2.2.2.2.2.2.2.2.1 0
  have c_qy21 := LK.cell HQ.out.2.2.2.2.2.2.2.2.2.2.2.2.2.2.2.2.2.1 1
  have c_qz0 := LK.cell HQ.out.2.2.2.2.2.2.2.2.2.2.2.2.2.2.2.2.2.2.2.1 0
  have c_qz1 := LK.cell HQ.out.2.2.2.2.2.2.2.2.2.2.2.2.2.2.2.2.2.2.2.1 1
  have c_qz20 := LK.cell HQ.out.2.2.2.2.2.2.2.2.2.2.2.2.2.2.2.2.2.2.2.2.2.1 0
  have c_qz21 := LK.cell HQ.out.2.2.2.2.2.2.2.2.2.2.2.2.2.2.2.2.2.2.2.2.2.1 1
  simp at c_qd0 c_qd1 c_qo0 c_qo1 c_qw0 c_qw1 c_qx0 c_qx1 c_qx20 c_qx21 c_qy0 c_qy1 c_qy20 c_qy21 c_qz0 c_qz1 c_qz20 c_qz21
  go_wp2_with fail
  refine (rdnew_any _).mono ?_
  rintro e w24 ⟨b12, u12, rfl, hm⟩
  clear c_qd0 c_qd1 c_qo0 c_qo1 c_qw0 c_qw1 c_qx0 c_qx1 c_qx20 c_qx21 c_qy0 c_qy1 c_qy20 c_qy21 c_qz0 c_qz1 c_qz20 c_qz21
  obtain ⟨qd, qo, hD, hO, hvb, hks, hW, qw, hP, hQ, hX, qx, hX2, qx2, hY, qy, hY2, qy2, hZ, qz, hZ2, qz2, hN, hB⟩ := HQ.out
  clear HQ
  have hN2 := LD.of hm.disk (Nat.le_refl _)
  have hst := hm.below
  clear hm
  have sz_w24 : w23.heap.size ≤ w24.heap.size := hst.size
  replace qd := qd.step hst
  replace qo := qo.step hst
  replace hD := hD.step hst
  replace hO := hO.step hst
  replace hvb := hvb.step hst
  replace hks := hks.step hst
  replace hW := hW.step hst
  replace qw := qw.step hst
  replace hP := hP.step hst
  replace hQ := hQ.step hst
  replace hX := hX.step hst
  replace qx := qx.step hst
  replace hX2 := hX2.step hst
  replace qx2 := qx2.step hst
  replace hY := hY.step hst
  replace qy := qy.step hst
  replace hY2 := hY2.step hst
  replace qy2 := qy2.step hst
  replace hZ := hZ.step hst
  replace qz := qz.step hst
  replace hZ2 := hZ2.step hst
  replace qz2 := qz2.step hst
  replace hN := hN.step hst
  replace hB := hB.step hst
  clear hst
  have HQ := Lib.hid (And.intro qd (And.intro qo (And.intro hD (And.intro hO (And.intro hvb (And.intro hks (And.intro hW (And.intro qw (And.intro hP (And.intro hQ (And.intro hX (And.intro qx (And.intro hX2 (And.intro qx2 (And.intro hY (And.intro qy (And.intro hY2 (And.intro qy2 (And.intro hZ (And.intro qz (And.intro hZ2 (And.intro qz2 (And.intro hN (And.intro hN2 hB))))))))))))))))))))))))
  clear qd qo hD hO hvb hks hW qw hP hQ hX qx hX2 qx2 hY qy hY2 qy2 hZ qz hZ2 qz2 hN hN2 hB
  have c_qd0 := LK.cell HQ.out.1 0
  have c_qd1 := LK.cell HQ.out.1 1
  have c_qo0 := LK.cell HQ.out.2.1 0
  have c_qo1 := LK.cell HQ.out.2.1 1
  have c_qw0 := LK.cell HQ.out.2.2.2.2.2.2.2.1 0
  have c_qw1 := LK.cell HQ.out.2.2.2.2.2.2.2.1 1
  have c_qx0 := LK.cell HQ.out.2.2.2.2.2.2.2.2.2.2.2.1 0
  have c_qx1 := LK.cell HQ.out.2.2.2.2.2.2.2.2.2.2.2.1 1
  have c_qx20 := LK.cell HQ.out.2.2.2.2.2.2.2.2.2.2.2.2.2.1 0
  have c_qx21 := LK.cell HQ.out.2.2.2.2.2.2.2.2.2.2.2.2.2.1 1
  have c_qy0 := LK.cell HQ.out.2.2.2.2.2.2.2.2.2.2.2.2.2.2.2.1 0
  have c_qy1 := LK.cell HQ.out.2.2.2.2.2.2.2.2.2.2.2.2.2.2.2.1 1
  have c_qy20 := LK.cell HQ.out.2.2.2.2.2.2.2.2.2.2.2.2.2.2.2.2.2.1 0
  have c_qy21 := LK.cell HQ.out.2.2.2.2.2.2.2.2.2.2.2.2.2.2.2.2.2.1 1
  have c_qz0 := LK.cell HQ.out.2.2.2.2.2.2.2.2.2.2.2.2.2.2.2.2.2.2.2.1 0
  have c_qz1 := LK.cell HQ.out.2.2.2.2.2.2.2.2.2.2.2.2.2.2.2.2.2.2.2.1 1
  have c_qz20 := LK.cell HQ.out.2.2.2.2.2.2.2.2.2.2.2.2.2.2.2.2.2.2.2.2.2.1 0
  have c_qz21 := LK.cell HQ.out.2.2.2.2.2.2.2.2.2.2.2.2.2.2.2.2.2.2.2.2.2.1 1
  simp at c_qd0 c_qd1 c_qo0 c_qo1 c_qw0 c_qw1 c_qx0 c_qx1 c_qx20 c_qx21 c_qy0 c_qy1 c_qy20 c_qy21 c_qz0 c_qz1 c_qz20 c_qz21
  go_wp2_with fail
  refine (HC.out.2.2.2.2.2.2.2.2.2.2.2.2.2.2.1 _ newD _ _ _ _ HQ.out.2.2.2.2.2.2.2.2.2.2.2.2.2.2.2.2.2.2.2.2.2.2.1.v HQ.out.2.2.2.2.2.2.2.2.2.2.2.2.2.2.2.2.2.2.2.2.2.2.2.1.v).mono ?_
  rintro e w25 ⟨rfl, hst⟩
  clear c_qd0 c_qd1 c_qo0 c_qo1 c_qw0 c_qw1 c_qx0 c_qx1 c_qx20 c_qx21 c_qy0 c_qy1 c_qy20 c_qy21 c_qz0 c_qz1 c_qz20 c_qz21
  obtain ⟨qd, qo, hD, hO, hvb, hks, hW, qw, hP, hQ, hX, qx, hX2, qx2, hY, qy, hY2, qy2, hZ, qz, hZ2, qz2, hN, hN2, hB⟩ := HQ.out
  clear HQ
  have sz_w25 : w24.heap.size ≤ w25.heap.size := hst.size
  replace qd := qd.step hst
  replace qo := qo.step hst
  replace hD := hD.step hst
  replace hO := hO.step hst
  replace hvb := hvb.step hst
  replace hks := hks.step hst
  replace hW := hW.step hst
  replace qw := qw.step hst
  replace hP := hP.step hst
  replace hQ := hQ.step hst
  replace hX := hX.step hst
  replace qx := qx.step hst
  replace hX2 := hX2.step hst
  replace qx2 := qx2.step hst
  replace hY := hY.step hst
  replace qy := qy.step hst
  replace hY2 := hY2.step hst
  replace qy2 := qy2.step hst
  replace hZ := hZ.step hst
  replace qz := qz.step hst
  replace hZ2 := hZ2.step hst
  replace qz2 := qz2.step hst
  replace hN := hN.step hst
  replace hN2 := hN2.step hst
  replace hB := hB.step hst
  clear hst
  have HQ := Lib.hid (And.intro qd (And.intro qo (And.intro hD (And.intro hO (And.intro hvb (And.intro hks (And.intro hW (And.intro qw (And.intro hP (And.intro hQ (And.intro hX (And.intro qx (And.intro hX2 (And.intro qx2 (And.intro hY (And.intro qy (And.intro hY2 (And.intro qy2 (And.intro hZ (And.intro qz (And.intro hZ2 (And.intro qz2 (And.intro hN (And.intro hN2 hB))))))))))))))))))))))))
  clear qd qo hD hO hvb hks hW qw hP hQ hX qx hX2 qx2 hY qy hY2 qy2 hZ qz hZ2 qz2 hN hN2 hB
  have c_qd0 := LK.cell HQ.out.1 0
  have c_qd1 := LK.cell HQ.out.1 1
  have c_qo0 := LK.cell HQ.out.2.1 0
  have c_qo1 := LK.cell HQ.out.2.1 1
  have c_qw0 := LK.cell HQ.out.2.2.2.2.2.2.2.1 0
  have c_qw1 := LK.cell HQ.out.2.2.2.2.2.2.2.1 1
  have c_qx0 := LK.cell HQ.out.2.2.2.2.2.2.2.2.2.2.2.1 0
  have c_qx1 := LK.cell HQ.out.2.2.2.2.2.2.2.2.2.2.2.1 1
  have c_qx20 := LK.cell HQ.out.2.2.2.2.2.2.2.2.2.2.2.2.2.1 0
  have c_qx21 := LK.cell HQ.out.2.2.2.2.2.2.2.2.2.2.2.2.2.1 1
  have c_qy0 := LK.cell HQ.out.2.2.2.2.2.2.2.2.2.2.2.2.2.2.2.1 0
  have c_qy1 := LK.cell HQ.out.2.2.2.2.2.2.2.2.2.2.2.2.2.2.2.1 1
  have c_qy20 := LK.cell HQ.out.2.2.2.2.2.2.2.2.2.2.2.2.2.2.2.2.2.1 0
  have c_qy21 := LK.cell HQ.out.2.2.2.2.2.2.2.2.2.2.2.2.2.2.2.2.2.1 1
  have c_qz0 := LK.cell HQ.out.2.2.2.2.2.2.2.2.2.2.2.2.2.2.2.2.2.2.2.1 0
  have c_qz1 := LK.cell HQ.out.2.2.2.2.2.2.2.2.2.2.2.2.2.2.2.2.2.2.2.1 1
  have c_qz20 := LK.cell HQ.out.2.2.2.2.2.2.2.2.2.2.2.2.2.2.2.2.2.2.2.2.2.1 0
  have c_qz21 := LK.cell HQ.out.2.2.2.2.2.2.2.2.2.2.2.2.2.2.2.2.2.2.2.2.2.1 1
  simp at c_qd0 c_qd1 c_qo0 c_qo1 c_qw0 c_qw1 c_qx0 c_qx1 c_qx20 c_qx21 c_qy0 c_qy1 c_qy20 c_qy21 c_qz0 c_qz1 c_qz20 c_qz21
  clear c_qd0 c_qd1 c_qo0 c_qo1 c_qw0 c_qw1 c_qx0 c_qx1 c_qx20 c_qx21 c_qy0 c_qy1 c_qy20 c_qy21 c_qz0 c_qz1 c_qz20 c_qz21
  obtain ⟨qd, qo, hD, hO, hvb, hks, hW, qw, hP, hQ, hX, qx, hX2, qx2, hY, qy, hY2, qy2, hZ, qz, hZ2, qz2, hN, hN2, hB⟩ := HQ.out
  clear HQ
  clear hN hN2 hX2 hY2 hZ2 qx2 qy2 qz2 hQ
  have HQ := Lib.hid (And.intro qd (And.intro qo (And.intro hD (And.intro hO (And.intro hvb (And.intro hks (And.intro hW (And.intro qw (And.intro hP (And.intro hX (And.intro qx (And.intro hY (And.intro qy (And.intro hZ (And.intro qz hB)))))))))))))))
  clear qd qo hD hO hvb hks hW qw hP hX qx hY qy hZ qz hB
  have c_qd0 := LK.cell HQ.out.1 0
  have c_qd1 := LK.cell HQ.out.1 1
  have c_qo0 := LK.cell HQ.out.2.1 0
  have c_qo1 := LK.cell HQ.out.2.1 1
  have c_qw0 := LK.cell HQ.out.2.2.2.2.2.2.2.1 0
  have c_qw1 := LK.cell HQ.out.2.2.2.2.2.2.2.1 1
  have c_qx0 := LK.cell HQ.out.2.2.2.2.2.2.2.2.2.2.1 0
  have c_qx1 := LK.cell HQ.out.2.2.2.2.2.2.2.2.2.2.1 1
  have c_qy0 := LK.cell HQ.out.2.2.2.2.2.2.2.2.2.2.2.2.1 0
  have c_qy1 := LK.cell HQ.out.2.2.2.2.2.2.2.2.2.2.2.2.1 1
  have c_qz0 := LK.cell HQ.out.2.2.2.2.2.2.2.2.2.2.2.2.2.2.1 0
  have c_qz1 := LK.cell HQ.out.2.2.2.2.2.2.2.2.2.2.2.2.2.2.1 1
  simp at c_qd0 c_qd1 c_qo0 c_qo1 c_qw0 c_qw1 c_qx0 c_qx1 c_qy0 c_qy1 c_qz0 c_qz1
  have hsp := HQ.out.2.2.2.2.2.2.2.2.2.1.sp
  have hlo := HQ.out.2.2.2.2.2.2.2.2.2.1.lo_le
  go_wp2_with fail
  refine (spoil_any _ _ _ _ _ _ _ hlo (by omega) hsp.1 hsp.2).mono ?_
  rintro e w26 ⟨⟨ve, rfl⟩, hbel, hfr⟩
  clear hsp hlo
  have sz_w26 : w25.heap.size ≤ w26.heap.size := hbel.size
  clear c_qd0 c_qd1 c_qo0 c_qo1 c_qw0 c_qw1 c_qx0 c_qx1 c_qy0 c_qy1 c_qz0 c_qz1
  obtain ⟨qd, qo, hD, hO, hvb, hks, hW, qw, hP, hX, qx, hY, qy, hZ, qz, hB⟩ := HQ.out
  clear HQ
  clear hX qx
  replace qd := qd.out hbel.size hfr (by omega)
  replace qo := qo.out hbel.size hfr (by omega)
  replace hD := hD.out hbel.size hfr (by omega)
  replace hO := hO.out hbel.size hfr (by omega)
  replace hvb := hvb.out hbel.size hfr (by omega)
  replace hks := hks.out hbel.size hfr (by omega)
  replace hW := hW.out hbel.size hfr (by omega)
  replace qw := qw.out hbel.size hfr (by omega)
  replace hP := hP.out hbel.size hfr (by omega)
  replace hY := hY.out hbel.size hfr (by omega)
  replace qy := qy.out hbel.size hfr (by omega)
  replace hZ := hZ.out hbel.size hfr (by omega)
  replace qz := qz.out hbel.size hfr (by omega)
  replace hB := hB.outB hbel (by omega)
  have HQ := Lib.hid (And.intro qd (And.intro qo (And.intro hD (And.intro hO (And.intro hvb (And.intro hks (And.intro hW (And.intro qw (And.intro hP (And.intro hY (And.intro qy (And.intro hZ (And.intro qz hB)))))))))))))
  clear qd qo hD hO hvb hks hW qw hP hY qy hZ qz hB
  clear hbel hfr
  have c_qd0 := LK.cell HQ.out.1 0
  have c_qd1 := LK.cell HQ.out.1 1
  have c_qo0 := LK.cell HQ.out.2.1 0
  have c_qo1 := LK.cell HQ.out.2.1 1
  have c_qw0 := LK.cell HQ.out.2.2.2.2.2.2.2.1 0
  have c_qw1 := LK.cell HQ.out.2.2.2.2.2.2.2.1 1
  have c_qy0 := LK.cell HQ.out.2.2.2.2.2.2.2.2.2.2.1 0
  have c_qy1 := LK.cell HQ.out.2.2.2.2.2.2.2.2.2.2.1 1
  have c_qz0 := LK.cell HQ.out.2.2.2.2.2.2.2.2.2.2.2.2.1 0
  have c_qz1 := LK.cell HQ.out.2.2.2.2.2.2.2.2.2.2.2.2.1 1
  simp at c_qd0 c_qd1 c_qo0 c_qo1 c_qw0 c_qw1 c_qy0 c_qy1 c_qz0 c_qz1
  have hsp := HQ.out.2.2.2.2.2.2.2.2.2.1.sp
  have hlo := HQ.out.2.2.2.2.2.2.2.2.2.1.lo_le
  go_wp2_with fail
  refine (spoil_any _ _ _ _ _ _ _ hlo (by omega) hsp.1 hsp.2).mono ?_
  rintro e w27 ⟨⟨ve, rfl⟩, hbel, hfr⟩
  clear hsp hlo
  have sz_w27 : w26.heap.size ≤ w27.heap.size := hbel.size
  clear c_qd0 c_qd1 c_qo0 c_qo1 c_qw0 c_qw1 c_qy0 c_qy1 c_qz0 c_qz1
  obtain ⟨qd, qo, hD, hO, hvb, hks, hW, qw, hP, hY, qy, hZ, qz, hB⟩ := HQ.out
  clear HQ
  clear hY qy
  replace qd := qd.out hbel.size hfr (by omega)
  replace qo := qo.out hbel.size hfr (by omega)
  replace hD := hD.out hbel.size hfr (by omega)
  replace hO := hO.out hbel.size hfr (by omega)
  replace hvb := hvb.out hbel.size hfr (by omega)
  replace hks := hks.out hbel.size hfr (by omega)
  replace hW := hW.out hbel.size hfr (by omega)
  replace qw := qw.out hbel.size hfr (by omega)
  replace hP := hP.out hbel.size hfr (by omega)
  replace hZ := hZ.out hbel.size hfr (by omega)
  replace qz := qz.out hbel.size hfr (by omega)
  replace hB := hB.outB hbel (by omega)
  have HQ := Lib.hid (And.intro qd (And.intro qo (And.intro hD (And.intro hO (And.intro hvb (And.intro hks (And.intro hW (And.intro qw (And.intro hP (And.intro hZ (And.intro qz hB)))))))))))
  clear qd qo hD hO hvb hks hW qw hP hZ qz hB
  clear hbel hfr
  have c_qd0 := LK.cell HQ.out.1 0
  have c_qd1 := LK.cell HQ.out.1 1
  have c_qo0 := LK.cell HQ.out.2.1 0
  have c_qo1 := LK.cell HQ.out.2.1 1
  have c_qw0 := LK.cell HQ.out.2.2.2.2.2.2.2.1 0
  have c_qw1 := LK.cell HQ.out.2.2.2.2.2.2.2.1 1
  have c_qz0 := LK.cell HQ.out.2.2.2.2.2.2.2.2.2.2.1 0
  have c_qz1 := LK.cell HQ.out.2.2.2.2.2.2.2.2.2.2.1 1
  simp at c_qd0 c_qd1 c_qo0 c_qo1 c_qw0 c_qw1 c_qz0 c_qz1
  have hsp := HQ.out.2.2.2.2.2.2.2.2.2.1.sp
  have hlo := HQ.out.2.2.2.2.2.2.2.2.2.1.lo_le
  go_wp2_with fail
  refine (spoil_any _ _ _ _ _ _ _ hlo (by omega) hsp.1 hsp.2).mono ?_
  rintro e w28 ⟨⟨ve, rfl⟩, hbel, hfr⟩
  clear hsp hlo
  have sz_w28 : w27.heap.size ≤ w28.heap.size := hbel.size
  clear c_qd0 c_qd1 c_qo0 c_qo1 c_qw0 c_qw1 c_qz0 c_qz1
  obtain ⟨qd, qo, hD, hO, hvb, hks, hW, qw, hP, hZ, qz, hB⟩ := HQ.out
  clear HQ
  clear hZ qz
  replace qd := qd.out hbel.size hfr (by omega)
  replace qo := qo.out hbel.size hfr (by omega)
  replace hD := hD.out hbel.size hfr (by omega)
  replace hO := hO.out hbel.size hfr (by omega)
  replace hvb := hvb.out hbel.size hfr (by omega)
  replace hks := hks.out hbel.size hfr (by omega)
  replace hW := hW.out hbel.size hfr (by omega)
  replace qw := qw.out hbel.size hfr (by omega)
  replace hP := hP.out hbel.size hfr (by omega)
  replace hB := hB.outB hbel (by omega)
  have HQ := Lib.hid (And.intro qd (And.intro qo (And.intro hD (And.intro hO (And.intro hvb (And.intro hks (And.intro hW (And.intro qw (And.intro hP hB)))))))))
  clear qd qo hD hO hvb hks hW qw hP hB
  clear hbel hfr
  have c_qd0 := LK.cell HQ.out.1 0
  have c_qd1 := LK.cell HQ.out.1 1
  have c_qo0 := LK.cell HQ.out.2.1 0
  have c_qo1 := LK.cell HQ.out.2.1 1
  have c_qw0 := LK.cell HQ.out.2.2.2.2.2.2.2.1 0
  have c_qw1 := LK.cell HQ.out.2.2.2.2.2.2.2.1 1
  simp at c_qd0 c_qd1 c_qo0 c_qo1 c_qw0 c_qw1
  go_wp2_with fail
  refine (HC.out.2.2.2.2.2.2.2.2.2.2.2.2.2.2.2.2 _ _ _ HQ.out.2.2.2.2.2.2.1.v (by omega) (by omega) (by omega)).mono ?_
  rintro e w29 ⟨gb1, gw1, g1n, cur1, rfl, htw, hst⟩
  clear c_qd0 c_qd1 c_qo0 c_qo1 c_qw0 c_qw1
  obtain ⟨qd, qo, hD, hO, hvb, hks, hW, qw, hP, hB⟩ := HQ.out
  clear HQ
  have hT := Lv.mk' (Nat.le_refl _) (fun _ hk => (htw.disk (by omega) (by omega) (by omega)).kept hk)
  replace hT : LT _ _ _ _ d _ := hT
  clear htw
  have sz_w29 : w28.heap.size ≤ w29.heap.size := hst.size
  replace qd := qd.step hst
  replace qo := qo.step hst
  replace hD := hD.step hst
  replace hO := hO.step hst
  replace hvb := hvb.step hst
  replace hks := hks.step hst
  replace hW := hW.step hst
  replace qw := qw.step hst
  replace hP := hP.step hst
  replace hB := hB.step hst
  clear hst
  have HQ := Lib.hid (And.intro qd (And.intro qo (And.intro hD (And.intro hO (And.intro hvb (And.intro hks (And.intro hW (And.intro qw (And.intro hP (And.intro hT hB))))))))))
  clear qd qo hD hO hvb hks hW qw hP hT hB
  have c_qd0 := LK.cell HQ.out.1 0
  have c_qd1 := LK.cell HQ.out.1 1
  have c_qo0 := LK.cell HQ.out.2.1 0
  have c_qo1 := LK.cell HQ.out.2.1 1
  have c_qw0 := LK.cell HQ.out.2.2.2.2.2.2.2.1 0
  have c_qw1 := LK.cell HQ.out.2.2.2.2.2.2.2.1 1
  simp at c_qd0 c_qd1 c_qo0 c_qo1 c_qw0 c_qw1
  have hsp := HQ.out.2.2.2.2.2.2.2.2.2.1.sp
  have hlo := HQ.out.2.2.2.2.2.2.2.2.2.1.lo_le
  go_wp2_with fail
  refine (spoil_any _ _ _ _ _ _ _ hlo (by omega) hsp.1 hsp.2).mono ?_
  rintro e w30 ⟨⟨ve, rfl⟩, hbel, hfr⟩
  clear hsp hlo
  have sz_w30 : w29.heap.size ≤ w30.heap.size := hbel.size
  clear c_qd0 c_qd1 c_qo0 c_qo1 c_qw0 c_qw1
  obtain ⟨qd, qo, hD, hO, hvb, hks, hW, qw, hP, hT, hB⟩ := HQ.out
  clear HQ
  clear hT
  replace qd := qd.out hbel.size hfr (by omega)
  replace qo := qo.out hbel.size hfr (by omega)
  replace hD := hD.out hbel.size hfr (by omega)
  replace hO := hO.out hbel.size hfr (by omega)
  replace hvb := hvb.out hbel.size hfr (by omega)
  replace hks := hks.out hbel.size hfr (by omega)
  replace hW := hW.out hbel.size hfr (by omega)
  replace qw := qw.out hbel.size hfr (by omega)
  replace hP := hP.out hbel.size hfr (by omega)
  replace hB := hB.outB hbel (by omega)
  have HQ := Lib.hid (And.intro qd (And.intro qo (And.intro hD (And.intro hO (And.intro hvb (And.intro hks (And.intro hW (And.intro qw (And.intro hP hB)))))))))
  clear qd qo hD hO hvb hks hW qw hP hB
  clear hbel hfr
  have c_qd0 := LK.cell HQ.out.1 0
  have c_qd1 := LK.cell HQ.out.1 1
  have c_qo0 := LK.cell HQ.out.2.1 0
  have c_qo1 := LK.cell HQ.out.2.1 1
  have c_qw0 := LK.cell HQ.out.2.2.2.2.2.2.2.1 0
  have c_qw1 := LK.cell HQ.out.2.2.2.2.2.2.2.1 1
  simp at c_qd0 c_qd1 c_qo0 c_qo1 c_qw0 c_qw1
  have hrl : rp.length ≤ 9223372036854775807 := by have := HQ.out.2.2.2.2.2.2.2.2.1.v.len_le; unfold maxLen at this; omega
  go_wp2_with fail
  go_loopw [28] (fun i wr => ∃ (j : Nat) (L : List UInt8), j ≤ rp.length ∧ i = .int .i64 j ∧ L.length = rp.length ∧ LM w5.heap.size w6.heap.size (.slice ra rp.length rc) L wr ∧ (Below w5.heap.size w30 wr ∧ ∀ x, x < w30.heap.size → (x < w5.heap.size ∨ w6.heap.size ≤ x) → wr.heap[x]? = w30.heap[x]?)) (fun i _ => rp.length - (intOf i).toNat)
  case atStart => exact ⟨0, rp, Nat.zero_le _, rfl, rfl, HQ.out.2.2.2.2.2.2.2.2.1, Below.refl _ _, fun _ _ _ => rfl⟩
  case round =>
  obtain ⟨j, L, hj, rfl, hL, hm, hF⟩ := hrel
  clear c_qd0 c_qd1 c_qo0 c_qo1 c_qw0 c_qw1
  by_cases hlt : j < rp.length
  · obtain ⟨xb, xo, xc2, he, y1, y2, y3, y4, y5⟩ := hm.m.1.at_n hL (by omega)
    cases he
    obtain ⟨z, hz⟩ : ∃ z, L[j]? = some z := ⟨L[j]'(by omega), by simp⟩
    have hcell := y5 j z hz
    have hfz := hm.m.2 _ _ _ _ rfl j hlt
    simp only [bV] at hcell
    have HP := Lib.hid (And.intro hm (And.intro hF (And.intro hL (spo_add z))))
    have hz1 : (z.toNat : Int) < 256 := by have := z.toNat_lt; omega
    unfold maxLen at y4
    clear hm hF hL y5 hz
    go_wp2
    go_roundw
    case rel =>
      obtain ⟨hm, hF, hL, hadd⟩ := HP.out
      rw [hadd]
      exact ⟨j + 1, L.set j (z + 1), by omega, by go_num, by rw [List.length_set]; exact hL, LM.set (V := wr) hm j (z + 1) (by omega), hF.1.setCell (p := ⟨xb, xo + j, none⟩) y1 _, fun x h1 h2 => (set_other wr xb (xo + j) _ x (by omega)).trans (hF.2 x h1 h2)⟩
    case measure => simp [intOf]; omega
  obtain rfl : j = rp.length := by omega
  obtain ⟨hbel, hfr⟩ := hF
  clear hm hL hj hlt
  have sz_wr : w30.heap.size ≤ wr.heap.size := hbel.size
  obtain ⟨qd, qo, hD, hO, hvb, hks, hW, qw, hP, hB⟩ := HQ.out
  clear HQ
  clear hP
  replace qd := qd.out hbel.size hfr (by omega)
  replace qo := qo.out hbel.size hfr (by omega)
  replace hD := hD.out hbel.size hfr (by omega)
  replace hO := hO.out hbel.size hfr (by omega)
  replace hvb := hvb.out hbel.size hfr (by omega)
  replace hks := hks.out hbel.size hfr (by omega)
  replace hW := hW.out hbel.size hfr (by omega)
  replace qw := qw.out hbel.size hfr (by omega)
  replace hB := hB.outB hbel (by omega)
  have HQ := Lib.hid (And.intro qd (And.intro qo (And.intro hD (And.intro hO (And.intro hvb (And.intro hks (And.intro hW (And.intro qw hB))))))))
  clear qd qo hD hO hvb hks hW qw hB
  clear hbel hfr
  have c_qd0 := LK.cell HQ.out.1 0
  have c_qd1 := LK.cell HQ.out.1 1
  have c_qo0 := LK.cell HQ.out.2.1 0
  have c_qo1 := LK.cell HQ.out.2.1 1
  have c_qw0 := LK.cell HQ.out.2.2.2.2.2.2.2.1 0
  have c_qw1 := LK.cell HQ.out.2.2.2.2.2.2.2.1 1
  simp at c_qd0 c_qd1 c_qo0 c_qo1 c_qw0 c_qw1
  go_wp2_with fail
  refine (HC.out.2.2.2.2.2.2.2.2.2.2.2.2.2.2.1 _ d _ _ _ _ HQ.out.2.2.2.2.2.2.1.v HQ.out.2.2.1.v).mono ?_
  rintro e w31 ⟨rfl, hst⟩
  clear c_qd0 c_qd1 c_qo0 c_qo1 c_qw0 c_qw1
  obtain ⟨qd, qo, hD, hO, hvb, hks, hW, qw, hB⟩ := HQ.out
  clear HQ
  have sz_w31 : wr.heap.size ≤ w31.heap.size := hst.size
  replace qd := qd.step hst
  replace qo := qo.step hst
  replace hD := hD.step hst
  replace hO := hO.step hst
  replace hvb := hvb.step hst
  replace hks := hks.step hst
  replace hW := hW.step hst
  replace qw := qw.step hst
  replace hB := hB.step hst
  clear hst
  have HQ := Lib.hid (And.intro qd (And.intro qo (And.intro hD (And.intro hO (And.intro hvb (And.intro hks (And.intro hW (And.intro qw hB))))))))
  clear qd qo hD hO hvb hks hW qw hB
  have c_qd0 := LK.cell HQ.out.1 0
  have c_qd1 := LK.cell HQ.out.1 1
  have c_qo0 := LK.cell HQ.out.2.1 0
  have c_qo1 := LK.cell HQ.out.2.1 1
  have c_qw0 := LK.cell HQ.out.2.2.2.2.2.2.2.1 0
  have c_qw1 := LK.cell HQ.out.2.2.2.2.2.2.2.1 1
  simp at c_qd0 c_qd1 c_qo0 c_qo1 c_qw0 c_qw1
  go_wp2
  go_ret
  exact ⟨rfl, HQ.out.2.2.2.2.2.2.2.2⟩
end Go.Proofs.Ytldidclnfkmonaa

