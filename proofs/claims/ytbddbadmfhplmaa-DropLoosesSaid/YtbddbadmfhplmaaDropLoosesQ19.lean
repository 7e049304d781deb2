/- DropLooses: the words and contracts, part 19. -/
import Derived.Test.YtbddbadmfhplmaaDropLoosesQ1
import Derived.Test.YtbddbadmfhplmaaDropLoosesQ2
import Derived.Test.YtbddbadmfhplmaaDropLoosesQ3
import Derived.Test.YtbddbadmfhplmaaDropLoosesQ4
import Derived.Test.YtbddbadmfhplmaaDropLoosesQ5
import Derived.Test.YtbddbadmfhplmaaDropLoosesQ6
import Derived.Test.YtbddbadmfhplmaaDropLoosesQ7
import Derived.Test.YtbddbadmfhplmaaDropLoosesQ8
import Derived.Test.YtbddbadmfhplmaaDropLoosesQ9
import Derived.Test.YtbddbadmfhplmaaDropLoosesQ10
import Derived.Test.YtbddbadmfhplmaaDropLoosesQ11
import Derived.Test.YtbddbadmfhplmaaDropLoosesQ12
import Derived.Test.YtbddbadmfhplmaaDropLoosesQ13
import Derived.Test.YtbddbadmfhplmaaDropLoosesQ14
import Derived.Test.YtbddbadmfhplmaaDropLoosesQ15
import Derived.Test.YtbddbadmfhplmaaDropLoosesQ16
import Derived.Test.YtbddbadmfhplmaaDropLoosesQ17
import Derived.Test.YtbddbadmfhplmaaDropLoosesQ18
import Derived.Test.YtbddbadmfhplmaaChecked
import Derived.WalkKit
import Derived.WalkLawsBesides
import Derived.WalkSpells
import Derived.Lib.Hide
import Derived.Laws.Rows
import Derived.Laws.AppendOwnNone
import Derived.Maps.AppendAt
import Derived.ProofKit
import Derived.Deep.Slices
import Derived.WideShapes
import Derived.RangeFuncNested
import Derived.RangeFuncBound
import Derived.RangeFuncCalls
import Derived.RangeFuncLeaves
import Derived.RangeFuncBox
import Derived.Shelf.Abstract
import Derived.Shelf.RegionOpen
import Derived.OwnWalkIn
import Derived.TacticsInMore
import Derived.LoopNIn
import Derived.LoopIn
import Derived.Lib.AppendZerosOnto
import Derived.Lib.SliceRun
import Derived.Lib.Walk
import Derived.Deep.LoopGhost
import Derived.Laws.CopyOwn
import Derived.Laws.CopyRow
import Derived.OrdersHeld
import Derived.Deep.QuietTactic
import Derived.BigQuiet
import Derived.StillTailTactics
import Derived.OpenShut
import Derived.Deep.DeepCutAuto
import Derived.Laws.MakeOwn
import Derived.Deep.RegionHeld
import Derived.KernelRfl
import Derived.BigFrameIn
import Derived.OrdersIn
import Derived.Sort.CutIn
import Derived.ArgAppend
import Derived.ShutString
import Derived.ChangeOld
import Derived.Below
namespace Go.Proofs.Ytbddbadmfhplmaa
open Go.RowKit

def n09 : NodeL := ⟨0, []⟩
theorem alive9_words : errDm newS n09 = 0 ∧ atD newS n09 = 8 ∧ (madS newS n09).now.length = 256 ∧ (madS newS n09).now[8]? = some 1 ∧ errLv (madS newS n09) 8 = 0 ∧ (leftS (madS newS n09) 8).now.length = 256 ∧ (leftS (madS newS n09) 8).now[8]? = some 0 := by decide +kernel

set_option maxRecDepth 100000 in
set_option maxHeartbeats 2000000 in
theorem alive9  (w : World)  :
    Calls Try.prog 46 #[] w fun e w' => e = .returned (.bool true) ∧ Below w.heap.size w w' := by
  have hB : LW w w := Below.refl _ _
  have HQ := Lib.hid (hB)
  clear hB
  obtain ⟨t1, t2, t3, t4, t5, t6, t7⟩ := alive9_words
  obtain ⟨N, hN⟩ : ∃ N, newS = N := ⟨_, rfl⟩
  obtain ⟨T, hT⟩ : ∃ T, madS newS n09 = T := ⟨_, rfl⟩
  obtain ⟨U, hU⟩ : ∃ U, leftS (madS newS n09) 8 = U := ⟨_, rfl⟩
  have k_t := fun V b u x y h1 => dmake_any b u x y newS n09 (.slice none 0 0) V h1 ⟨by decide, Sl.nil_ _ _ _⟩
  rw [t1, t2, hT] at k_t
  rw [show (n09.level) = 0 from rfl] at k_t
  have k_l := fun V b u x y h1 => dleave_any b u x y (madS newS n09) 8 V h1
  rw [t5, hU, hT] at k_l
  rw [hU] at t6 t7
  rw [hT] at t3 t4
  rw [hN] at k_t
  have k_n := fun V => snew_any V
  rw [hN] at k_n
  have HT := Lib.hid (And.intro t3 (And.intro t4 (And.intro t6 t7)))
  clear hN hT hU t1 t2 t3 t4 t5 t6 t7
  have HC := Lib.hid (And.intro k_t (And.intro k_n k_l))
  clear k_t k_n k_l
  go_enter Try.func46, Try.ntmps46
  go_wp2_with fail
  refine (HC.out.2.1 _).mono ?_
  rintro e w1 ⟨b0, u0, x0, y0, rfl, hm⟩
  have hB := HQ.out
  clear HQ
  have O_n := LP.of hm
  have hst := hm.below
  clear hm
  have sz_w1 : w.heap.size ≤ w1.heap.size := hst.size
  replace hB := hB.step hst
  clear hst
  have HQ := Lib.hid (And.intro O_n hB)
  clear O_n hB
  go_wp2_with fail
  refine (HC.out.1 _ _ _ _ _ HQ.out.1.v).mono ?_
  rintro e w2 ⟨b1, u1, x1, y1, rfl, hm⟩
  obtain ⟨O_n, hB⟩ := HQ.out
  clear HQ
  have P_t := LP.of hm
  have hst := hm.below
  obtain ⟨ab_t, cb_t, rfl, -, -, -, -⟩ := hm.store.v.1.1
  obtain ⟨au_t, cu_t, rfl, -, -, -, -⟩ := hm.store.v.1.2
  obtain ⟨ax_t, cx_t, rfl, -, -⟩ := hm.store.v.2.1.form rfl
  obtain ⟨ay_t, cy_t, rfl, -, -⟩ := hm.store.v.2.2.form rfl
  clear hm
  have sz_w2 : w1.heap.size ≤ w2.heap.size := hst.size
  replace O_n := O_n.step hst
  replace hB := hB.step hst
  clear hst
  have HQ := Lib.hid (And.intro O_n (And.intro P_t hB))
  clear O_n P_t hB
  go_upto_region 2 with (fail)
  obtain ⟨O_n, P_t, hB⟩ := HQ.out
  clear HQ
  have hst := (Below.refl w2.heap.size w2).alloc (Nat.le_refl _) (.cells #[.slice ab_t T.disk.blocks.length cb_t, .slice au_t T.disk.waits.length cu_t, .slice ax_t T.now.length cx_t, .slice ay_t T.last.length cy_t] 28)
  have hlt : w2.heap.size < (w2.alloc (.cells #[.slice ab_t T.disk.blocks.length cb_t, .slice au_t T.disk.waits.length cu_t, .slice ax_t T.now.length cx_t, .slice ay_t T.last.length cy_t] 28)).heap.size := by simp
  have q_T := LK.new w2 (.cells #[.slice ab_t T.disk.blocks.length cb_t, .slice au_t T.disk.waits.length cu_t, .slice ax_t T.now.length cx_t, .slice ay_t T.last.length cy_t] 28)
  replace O_n := O_n.step hst
  replace P_t := P_t.step hst
  replace hB := hB.step hst
  obtain ⟨w3, hw⟩ : ∃ v, w2.alloc (.cells #[.slice ab_t T.disk.blocks.length cb_t, .slice au_t T.disk.waits.length cu_t, .slice ax_t T.now.length cx_t, .slice ay_t T.last.length cy_t] 28) = v := ⟨_, rfl⟩
  rw [hw] at hlt q_T O_n P_t hB ⊢
  clear hw hst
  have sz_w3 := hlt
  clear hlt
  have HQ := Lib.hid (And.intro O_n (And.intro P_t (And.intro q_T hB)))
  clear O_n P_t q_T hB
  have c_q_T0 := LK.cell HQ.out.2.2.1 0
  have c_q_T1 := LK.cell HQ.out.2.2.1 1
  have c_q_T2 := LK.cell HQ.out.2.2.1 2
  have c_q_T3 := LK.cell HQ.out.2.2.1 3
  simp at c_q_T0 c_q_T1 c_q_T2 c_q_T3
  go_wp2_with fail
  refine (HC.out.2.2 _ _ _ _ _ HQ.out.2.1.v).mono ?_
  rintro e w4 ⟨b1, u1, x1, y1, rfl, hm⟩
  clear c_q_T0 c_q_T1 c_q_T2 c_q_T3
  obtain ⟨O_n, P_t, q_T, hB⟩ := HQ.out
  clear HQ
  have P_u := LP.of hm
  have hst := hm.below
  obtain ⟨ab_u, cb_u, rfl, -, -, -, -⟩ := hm.store.v.1.1
  obtain ⟨au_u, cu_u, rfl, -, -, -, -⟩ := hm.store.v.1.2
  obtain ⟨ax_u, cx_u, rfl, -, -⟩ := hm.store.v.2.1.form rfl
  obtain ⟨ay_u, cy_u, rfl, -, -⟩ := hm.store.v.2.2.form rfl
  clear hm
  have sz_w4 : w3.heap.size ≤ w4.heap.size := hst.size
  replace O_n := O_n.step hst
  replace P_t := P_t.step hst
  replace q_T := q_T.step hst
  replace hB := hB.step hst
  clear hst
  have HQ := Lib.hid (And.intro O_n (And.intro P_t (And.intro q_T (And.intro P_u hB))))
  clear O_n P_t q_T P_u hB
  have c_q_T0 := LK.cell HQ.out.2.2.1 0
  have c_q_T1 := LK.cell HQ.out.2.2.1 1
  have c_q_T2 := LK.cell HQ.out.2.2.1 2
  have c_q_T3 := LK.cell HQ.out.2.2.1 3
  simp at c_q_T0 c_q_T1 c_q_T2 c_q_T3
  go_upto_region 3 with (fail)
  clear c_q_T0 c_q_T1 c_q_T2 c_q_T3
  obtain ⟨O_n, P_t, q_T, P_u, hB⟩ := HQ.out
  clear HQ
  have hst := (Below.refl w4.heap.size w4).alloc (Nat.le_refl _) (.cells #[.slice ab_u U.disk.blocks.length cb_u, .slice au_u U.disk.waits.length cu_u, .slice ax_u U.now.length cx_u, .slice ay_u U.last.length cy_u] 28)
  have hlt : w4.heap.size < (w4.alloc (.cells #[.slice ab_u U.disk.blocks.length cb_u, .slice au_u U.disk.waits.length cu_u, .slice ax_u U.now.length cx_u, .slice ay_u U.last.length cy_u] 28)).heap.size := by simp
  have q_u := LK.new w4 (.cells #[.slice ab_u U.disk.blocks.length cb_u, .slice au_u U.disk.waits.length cu_u, .slice ax_u U.now.length cx_u, .slice ay_u U.last.length cy_u] 28)
  replace O_n := O_n.step hst
  replace P_t := P_t.step hst
  replace q_T := q_T.step hst
  replace P_u := P_u.step hst
  replace hB := hB.step hst
  obtain ⟨w5, hw⟩ : ∃ v, w4.alloc (.cells #[.slice ab_u U.disk.blocks.length cb_u, .slice au_u U.disk.waits.length cu_u, .slice ax_u U.now.length cx_u, .slice ay_u U.last.length cy_u] 28) = v := ⟨_, rfl⟩
  rw [hw] at hlt q_u O_n P_t q_T P_u hB ⊢
  clear hw hst
  have sz_w5 := hlt
  clear hlt
  have HQ := Lib.hid (And.intro O_n (And.intro P_t (And.intro q_T (And.intro P_u (And.intro q_u hB)))))
  clear O_n P_t q_T P_u q_u hB
  have c_q_T0 := LK.cell HQ.out.2.2.1 0
  have c_q_T1 := LK.cell HQ.out.2.2.1 1
  have c_q_T2 := LK.cell HQ.out.2.2.1 2
  have c_q_T3 := LK.cell HQ.out.2.2.1 3
  have c_q_u0 := LK.cell HQ.out.2.2.2.2.1 0
  have c_q_u1 := LK.cell HQ.out.2.2.2.2.1 1
  have c_q_u2 := LK.cell HQ.out.2.2.2.2.1 2
  have c_q_u3 := LK.cell HQ.out.2.2.2.2.1 3
  simp at c_q_T0 c_q_T1 c_q_T2 c_q_T3 c_q_u0 c_q_u1 c_q_u2 c_q_u3
  obtain ⟨xb, xo, xc, e1, -, -, x1, x2, hx⟩ := HQ.out.2.1.n.at_n HT.out.1 (by omega)
  injection e1 with e1 el e2
  subst e1 e2
  clear el
  have h8 := hx 8 1 HT.out.2.1
  obtain ⟨yb, yo, yc, e1, -, -, y1, y2, hy⟩ := HQ.out.2.2.2.1.n.at_n HT.out.2.2.1 (by omega)
  injection e1 with e1 el e2
  subst e1 e2
  have h9 := hy 8 0 HT.out.2.2.2
  unfold maxLen at x2 y2
  have e1 : bV 1 = .int .u8 1 := rfl
  have e2 : bV 0 = .int .u8 0 := rfl
  rw [e1] at h8
  rw [e2] at h9
  rw [HT.out.2.2.1] at c_q_u2
  rw [HT.out.1] at c_q_T2
  clear hx hy e1 e2 el
  go_wp2
  go_ret
  exact ⟨rfl, HQ.out.2.2.2.2.2⟩

end Go.Proofs.Ytbddbadmfhplmaa

namespace Go.Proofs.Ytbddbadmfhplmaa
open Go.RowKit

theorem looses_law {s : StoreL} {p : Int} (hm : mayS s = true) : s.now.length = 256 ∧ (((p < 8 ∨ 256 ≤ p) ∧ errAs s p = 2 ∧ errLv s p = 2) ∨ ∃ pn : Nat, p = pn ∧ 8 ≤ pn ∧ pn < 256 ∧ ((s.now.getD pn 0 = 0 ∧ errAs s p = 6 ∧ errLv s p = 6) ∨
    (s.now.getD pn 0 ≠ 0 ∧ errAs s p = 0 ∧ ∃ y : Nat, (s.now.getD pn 0).toNat = y + 1 ∧ ((loosS s p).now.getD pn 0).toNat = y ∧ (loosS s p).now.length = 256 ∧ (loosS s p).disk = s.disk ∧ (loosS s p).last = s.last ∧ (∀ j, j ≠ pn → (loosS s p).now.getD j 0 = s.now.getD j 0) ∧
      (errSh s p = 70 ∨ (errSh s p = 0 ∧ errAs (shareS s p) p = 0 ∧ loosS (shareS s p) p = s))))) := by
  have h256 := mayT_len (mayS_iff.1 hm).2.1
  have hlv : errAs s p ≠ 0 → errLv s p = errAs s p := fun h => by unfold errLv; rw [if_pos h]
  refine ⟨h256, ?_⟩
  by_cases hp : p < 8 ∨ 256 ≤ p
  · have h2 : errAs s p = 2 := by unfold errAs; rw [hm, if_pos rfl, if_pos hp]
    exact .inl ⟨hp, h2, by rw [hlv (by rw [h2]; decide), h2]⟩
  · obtain ⟨pn, rfl⟩ : ∃ pn : Nat, p = pn := ⟨p.toNat, by omega⟩
    refine .inr ⟨pn, rfl, by omega, by omega, ?_⟩
    by_cases hz : s.now.getD pn 0 = 0
    · have h6 : errAs s pn = 6 := by unfold errAs; rw [hm, if_pos rfl, if_neg hp, Int.toNat_natCast, if_pos hz]
      exact .inl ⟨hz, h6, by rw [hlv (by rw [h6]; decide), h6]⟩
    · have h0 : errAs s pn = 0 := by unfold errAs; rw [hm, if_pos rfl, if_neg hp, Int.toNat_natCast, if_neg hz]
      obtain ⟨e, -, -, -, -, -⟩ := loos_is h0
      rw [Int.toNat_natCast] at e
      have hzn : (s.now.getD pn 0).toNat ≠ 0 := fun e => hz (u8_inj e)
      refine .inr ⟨hz, h0, (s.now.getD pn 0).toNat - 1, by omega, ?_, ?_, by rw [e], by rw [e], fun j hj => ?_, ?_⟩
      · rw [e]
        show ((s.now.set pn (s.now.getD pn 0 + 255)).getD pn 0).toNat = _
        rw [cgetD_set_self _ _ _ (by omega), u8_down hz]
      · rw [e]
        show (s.now.set pn (s.now.getD pn 0 + 255)).length = 256
        simpa using h256
      · rw [e]
        exact bget_set_ne _ _ _ _ (fun e => hj e.symm)
      · by_cases hf : s.now.getD pn 0 = 255
        · refine .inl ?_
          unfold errSh
          rw [h0, if_neg (by decide), Int.toNat_natCast, if_pos hf]
        · have hs : errSh s pn = 0 := by unfold errSh; rw [h0, if_neg (by decide), Int.toNat_natCast, if_neg hf]
          obtain ⟨g1, g2, -⟩ := share_is hs
          rw [Int.toNat_natCast] at g1
          have hg : (s.now.set pn (s.now.getD pn 0 + 1)).getD pn 0 = s.now.getD pn 0 + 1 := cgetD_set_self _ _ _ (by omega)
          have ha : errAs (shareS s pn) pn = 0 := by
            unfold errAs
            rw [g2, if_pos rfl, if_neg hp, Int.toNat_natCast, g1]
            show (if (s.now.set pn (s.now.getD pn 0 + 1)).getD pn 0 = 0 then (6 : Int) else 0) = 0
            rw [hg, if_neg (u8_up0 hf)]
          refine .inr ⟨hs, ha, ?_⟩
          rw [(loos_is ha).1, Int.toNat_natCast, g1]
          show (⟨s.disk, (s.now.set pn (s.now.getD pn 0 + 1)).set pn ((s.now.set pn (s.now.getD pn 0 + 1)).getD pn 0 + 255), s.last⟩ : StoreL) = s
          rw [hg, u8_both, List.set_set, set_getD _ _ (by omega)]

set_option maxRecDepth 100000 in
set_option maxHeartbeats 4000000 in
theorem dropLooses_walk (b_s u_s x_s y_s : Value) (s : StoreL) (p : Int) (w : World) (h_s : StoreV w 0 w.heap.size b_s u_s x_s y_s s) (_wp : (Lit.int .i64 p).wf = true) :
    Calls Try.prog 14 #[.agg #[b_s, u_s, x_s, y_s], .int .i64 p] w fun e w' => e = .returned (.bool true) ∧ Below w.heap.size w w' := by
  obtain ⟨ab_s, cb_s, rfl, gb_s, gc_s, -, -⟩ := h_s.1.1
  obtain ⟨au_s, cu_s, rfl, gu_s, gv_s, -, -⟩ := h_s.1.2
  obtain ⟨ax_s, cx_s, rfl, gx_s, gz_s⟩ := h_s.2.1.form rfl
  obtain ⟨ay_s, cy_s, rfl, gy_s, gw_s⟩ := h_s.2.2.form rfl
  unfold maxLen at gc_s gv_s gz_s gw_s
  have hst := ((Below.refl w.heap.size w).alloc (Nat.le_refl _) (.cells #[.slice ab_s s.disk.blocks.length cb_s, .slice au_s s.disk.waits.length cu_s, .slice ax_s s.now.length cx_s, .slice ay_s s.last.length cy_s] 28))
  have q_s := LK.new w (.cells #[.slice ab_s s.disk.blocks.length cb_s, .slice au_s s.disk.waits.length cu_s, .slice ax_s s.now.length cx_s, .slice ay_s s.last.length cy_s] 28)
  have hB : LW w _ := hst
  have O_s := (LO.of h_s (Nat.le_refl _)).step hst
  have sz_V : w.heap.size + 0 < (w.alloc (.cells #[.slice ab_s s.disk.blocks.length cb_s, .slice au_s s.disk.waits.length cu_s, .slice ax_s s.now.length cx_s, .slice ay_s s.last.length cy_s] 28)).heap.size := by simp
  obtain ⟨V, hV⟩ : ∃ V, (w.alloc (.cells #[.slice ab_s s.disk.blocks.length cb_s, .slice au_s s.disk.waits.length cu_s, .slice ax_s s.now.length cx_s, .slice ay_s s.last.length cy_s] 28)) = V := ⟨_, rfl⟩
  rw [hV] at sz_V q_s O_s hB
  clear hst h_s
  have HQ := Lib.hid (And.intro q_s (And.intro O_s hB))
  clear q_s O_s hB
  have c_q_s0 := LK.cell HQ.out.1 0
  have c_q_s1 := LK.cell HQ.out.1 1
  have c_q_s2 := LK.cell HQ.out.1 2
  have c_q_s3 := LK.cell HQ.out.1 3
  simp at c_q_s0 c_q_s1 c_q_s2 c_q_s3
  have hlaw := looses_law (s := s) (p := p)
  have hes : (mayS s = false ∧ errS s = 8) ∨ (mayS s = true ∧ errS s = 0) := by
    unfold errS
    cases mayS s
    · exact .inl ⟨rfl, rfl⟩
    · exact .inr ⟨rfl, rfl⟩
  have k_g := fun V b u x y hh => great8_any b u x y s V hh
  have k_c := fun V b u x y hh => scheck_any b u x y s V hh
  have k_o := fun V b u x y hh => dloose_any b u x y s p V hh
  have k_l := fun V b u x y hh => dleave_any b u x y s p V hh
  have k_s := fun V b u x y hh => sshare_any b u x y s p V hh
  have k_v := fun V b u x y hh => dloose_any b u x y (shareS s p) p V hh
  obtain ⟨ec, hec⟩ : ∃ e, errS s = e := ⟨_, rfl⟩
  obtain ⟨ea, hea⟩ : ∃ e, errAs s p = e := ⟨_, rfl⟩
  obtain ⟨el, hel⟩ : ∃ e, errLv s p = e := ⟨_, rfl⟩
  obtain ⟨es, hes2⟩ : ∃ e, errSh s p = e := ⟨_, rfl⟩
  obtain ⟨ev, hev⟩ : ∃ e, errAs (shareS s p) p = e := ⟨_, rfl⟩
  obtain ⟨Q, hQ0⟩ : ∃ Q, loosS (shareS s p) p = Q := ⟨_, rfl⟩
  obtain ⟨R, hR⟩ : ∃ T, shareS s p = T := ⟨_, rfl⟩
  obtain ⟨T, hT⟩ : ∃ T, loosS s p = T := ⟨_, rfl⟩
  obtain ⟨U, hU⟩ : ∃ T, leftS s p = T := ⟨_, rfl⟩
  rw [hec] at k_c hes
  rw [hea, hT] at k_o
  rw [hel, hU] at k_l
  rw [hes2, hR] at k_s
  rw [hev, hQ0, hR] at k_v
  simp only [hea, hel, hes2, hev, hT, hQ0] at hlaw
  have k_d := fun V b u b2 u2 h1 h2 => dsame_any b u b2 u2 T.disk s.disk V h1 h2
  have k_e := fun V b u x y b2 u2 x2 y2 h1 h2 => ssame_any b u x y Q b2 u2 x2 y2 s V h1 h2
  have HN := Lib.hid hlaw
  clear hlaw hec hea hel hes2 hev hQ0 hR hT hU
  have HC := Lib.hid (And.intro k_g (And.intro k_c (And.intro k_o (And.intro k_l (And.intro k_s (And.intro k_v (And.intro k_d k_e)))))))
  clear k_g k_c k_o k_l k_s k_v k_d k_e
  go_enter Try.func14, Try.ntmps14
  go_upto_region 1 with (fail)
  clear hV
  go_wp2_with fail
  refine (alive9 V).mono ?_
  rintro e w1 ⟨rfl, hst⟩
  clear c_q_s0 c_q_s1 c_q_s2 c_q_s3
  obtain ⟨q_s, O_s, hB⟩ := HQ.out
  clear HQ
  have sz_w1 : V.heap.size ≤ w1.heap.size := hst.size
  replace q_s := q_s.step hst
  replace O_s := O_s.step hst
  replace hB := hB.step hst
  clear hst
  have HQ := Lib.hid (And.intro q_s (And.intro O_s hB))
  clear q_s O_s hB
  have c_q_s0 := LK.cell HQ.out.1 0
  have c_q_s1 := LK.cell HQ.out.1 1
  have c_q_s2 := LK.cell HQ.out.1 2
  have c_q_s3 := LK.cell HQ.out.1 3
  simp at c_q_s0 c_q_s1 c_q_s2 c_q_s3
  go_wp2_with fail
  refine (HC.out.1 _ _ _ _ _ HQ.out.2.1.v).mono ?_
  rintro e w2 ⟨g, rfl, hst, -⟩
  clear c_q_s0 c_q_s1 c_q_s2 c_q_s3
  obtain ⟨q_s, O_s, hB⟩ := HQ.out
  clear HQ
  have sz_w2 : w1.heap.size ≤ w2.heap.size := hst.size
  replace q_s := q_s.step hst
  replace O_s := O_s.step hst
  replace hB := hB.step hst
  clear hst
  have HQ := Lib.hid (And.intro q_s (And.intro O_s hB))
  clear q_s O_s hB
  have c_q_s0 := LK.cell HQ.out.1 0
  have c_q_s1 := LK.cell HQ.out.1 1
  have c_q_s2 := LK.cell HQ.out.1 2
  have c_q_s3 := LK.cell HQ.out.1 3
  simp at c_q_s0 c_q_s1 c_q_s2 c_q_s3
  cases g
  case true =>
    go_wp2
    go_ret
    exact ⟨rfl, HQ.out.2.2⟩
  go_wp2_with fail
  refine (HC.out.2.1 _ _ _ _ _ HQ.out.2.1.v).mono ?_
  rintro e w3 ⟨rfl, hst⟩
  clear c_q_s0 c_q_s1 c_q_s2 c_q_s3
  obtain ⟨q_s, O_s, hB⟩ := HQ.out
  clear HQ
  have sz_w3 : w2.heap.size ≤ w3.heap.size := hst.size
  replace q_s := q_s.step hst
  replace O_s := O_s.step hst
  replace hB := hB.step hst
  clear hst
  have HQ := Lib.hid (And.intro q_s (And.intro O_s hB))
  clear q_s O_s hB
  have c_q_s0 := LK.cell HQ.out.1 0
  have c_q_s1 := LK.cell HQ.out.1 1
  have c_q_s2 := LK.cell HQ.out.1 2
  have c_q_s3 := LK.cell HQ.out.1 3
  simp at c_q_s0 c_q_s1 c_q_s2 c_q_s3
  rcases hes with ⟨-, rfl⟩ | ⟨hm, rfl⟩
  case inl =>
    go_wp2
    go_ret
    exact ⟨rfl, HQ.out.2.2⟩
  have HL := Lib.hid (HN.out hm)
  clear HN
  go_wp2_with fail
  refine (HC.out.2.2.1 _ _ _ _ _ HQ.out.2.1.v).mono ?_
  rintro e w4 ⟨b1, u1, x1, y1, rfl, hm⟩
  clear c_q_s0 c_q_s1 c_q_s2 c_q_s3
  obtain ⟨q_s, O_s, hB⟩ := HQ.out
  clear HQ
  have P_t := LP.of hm
  have hst := hm.below
  obtain ⟨ab_t, cb_t, rfl, -, -, -, -⟩ := hm.store.v.1.1
  obtain ⟨au_t, cu_t, rfl, -, -, -, -⟩ := hm.store.v.1.2
  obtain ⟨ax_t, cx_t, rfl, -, -⟩ := hm.store.v.2.1.form rfl
  obtain ⟨ay_t, cy_t, rfl, -, -⟩ := hm.store.v.2.2.form rfl
  clear hm
  have sz_w4 : w3.heap.size ≤ w4.heap.size := hst.size
  replace q_s := q_s.step hst
  replace O_s := O_s.step hst
  replace hB := hB.step hst
  clear hst
  have HQ := Lib.hid (And.intro q_s (And.intro O_s (And.intro P_t hB)))
  clear q_s O_s P_t hB
  have c_q_s0 := LK.cell HQ.out.1 0
  have c_q_s1 := LK.cell HQ.out.1 1
  have c_q_s2 := LK.cell HQ.out.1 2
  have c_q_s3 := LK.cell HQ.out.1 3
  simp at c_q_s0 c_q_s1 c_q_s2 c_q_s3
  go_upto_region 5 with (fail)
  clear c_q_s0 c_q_s1 c_q_s2 c_q_s3
  obtain ⟨q_s, O_s, P_t, hB⟩ := HQ.out
  clear HQ
  have hst := (Below.refl w4.heap.size w4).alloc (Nat.le_refl _) (.cells #[.slice ab_t T.disk.blocks.length cb_t, .slice au_t T.disk.waits.length cu_t, .slice ax_t T.now.length cx_t, .slice ay_t T.last.length cy_t] 28)
  have hlt : w4.heap.size < (w4.alloc (.cells #[.slice ab_t T.disk.blocks.length cb_t, .slice au_t T.disk.waits.length cu_t, .slice ax_t T.now.length cx_t, .slice ay_t T.last.length cy_t] 28)).heap.size := by simp
  have q_t := LK.new w4 (.cells #[.slice ab_t T.disk.blocks.length cb_t, .slice au_t T.disk.waits.length cu_t, .slice ax_t T.now.length cx_t, .slice ay_t T.last.length cy_t] 28)
  replace q_s := q_s.step hst
  replace O_s := O_s.step hst
  replace P_t := P_t.step hst
  replace hB := hB.step hst
  obtain ⟨w5, hw⟩ : ∃ v, w4.alloc (.cells #[.slice ab_t T.disk.blocks.length cb_t, .slice au_t T.disk.waits.length cu_t, .slice ax_t T.now.length cx_t, .slice ay_t T.last.length cy_t] 28) = v := ⟨_, rfl⟩
  rw [hw] at hlt q_t q_s O_s P_t hB ⊢
  clear hw hst
  have sz_w5 := hlt
  clear hlt
  have HQ := Lib.hid (And.intro q_s (And.intro O_s (And.intro P_t (And.intro q_t hB))))
  clear q_s O_s P_t q_t hB
  have c_q_s0 := LK.cell HQ.out.1 0
  have c_q_s1 := LK.cell HQ.out.1 1
  have c_q_s2 := LK.cell HQ.out.1 2
  have c_q_s3 := LK.cell HQ.out.1 3
  have c_q_t0 := LK.cell HQ.out.2.2.2.1 0
  have c_q_t1 := LK.cell HQ.out.2.2.2.1 1
  have c_q_t2 := LK.cell HQ.out.2.2.2.1 2
  have c_q_t3 := LK.cell HQ.out.2.2.2.1 3
  simp at c_q_s0 c_q_s1 c_q_s2 c_q_s3 c_q_t0 c_q_t1 c_q_t2 c_q_t3
  go_wp2_with fail
  refine (HC.out.2.2.2.1 _ _ _ _ _ HQ.out.2.1.v).mono ?_
  rintro e w6 ⟨b2, u2, x2, y2, rfl, hm⟩
  clear c_q_s0 c_q_s1 c_q_s2 c_q_s3 c_q_t0 c_q_t1 c_q_t2 c_q_t3
  obtain ⟨q_s, O_s, P_t, q_t, hB⟩ := HQ.out
  clear HQ
  have P_u := LP.of hm
  have hst := hm.below
  obtain ⟨ab_u, cb_u, rfl, -, -, -, -⟩ := hm.store.v.1.1
  obtain ⟨au_u, cu_u, rfl, -, -, -, -⟩ := hm.store.v.1.2
  obtain ⟨ax_u, cx_u, rfl, -, -⟩ := hm.store.v.2.1.form rfl
  obtain ⟨ay_u, cy_u, rfl, -, -⟩ := hm.store.v.2.2.form rfl
  clear hm
  have sz_w6 : w5.heap.size ≤ w6.heap.size := hst.size
  replace q_s := q_s.step hst
  replace O_s := O_s.step hst
  replace P_t := P_t.step hst
  replace q_t := q_t.step hst
  replace hB := hB.step hst
  clear hst
  have HQ := Lib.hid (And.intro q_s (And.intro O_s (And.intro P_t (And.intro q_t (And.intro P_u hB)))))
  clear q_s O_s P_t q_t P_u hB
  have c_q_s0 := LK.cell HQ.out.1 0
  have c_q_s1 := LK.cell HQ.out.1 1
  have c_q_s2 := LK.cell HQ.out.1 2
  have c_q_s3 := LK.cell HQ.out.1 3
  have c_q_t0 := LK.cell HQ.out.2.2.2.1 0
  have c_q_t1 := LK.cell HQ.out.2.2.2.1 1
  have c_q_t2 := LK.cell HQ.out.2.2.2.1 2
  have c_q_t3 := LK.cell HQ.out.2.2.2.1 3
  simp at c_q_s0 c_q_s1 c_q_s2 c_q_s3 c_q_t0 c_q_t1 c_q_t2 c_q_t3
  go_upto_region 6 with (fail)
  clear c_q_s0 c_q_s1 c_q_s2 c_q_s3 c_q_t0 c_q_t1 c_q_t2 c_q_t3
  obtain ⟨q_s, O_s, P_t, q_t, P_u, hB⟩ := HQ.out
  clear HQ
  have hst := (Below.refl w6.heap.size w6).alloc (Nat.le_refl _) (.cells #[.slice ab_u U.disk.blocks.length cb_u, .slice au_u U.disk.waits.length cu_u, .slice ax_u U.now.length cx_u, .slice ay_u U.last.length cy_u] 28)
  have hlt : w6.heap.size < (w6.alloc (.cells #[.slice ab_u U.disk.blocks.length cb_u, .slice au_u U.disk.waits.length cu_u, .slice ax_u U.now.length cx_u, .slice ay_u U.last.length cy_u] 28)).heap.size := by simp
  have q_u := LK.new w6 (.cells #[.slice ab_u U.disk.blocks.length cb_u, .slice au_u U.disk.waits.length cu_u, .slice ax_u U.now.length cx_u, .slice ay_u U.last.length cy_u] 28)
  replace q_s := q_s.step hst
  replace O_s := O_s.step hst
  replace P_t := P_t.step hst
  replace q_t := q_t.step hst
  replace P_u := P_u.step hst
  replace hB := hB.step hst
  obtain ⟨w7, hw⟩ : ∃ v, w6.alloc (.cells #[.slice ab_u U.disk.blocks.length cb_u, .slice au_u U.disk.waits.length cu_u, .slice ax_u U.now.length cx_u, .slice ay_u U.last.length cy_u] 28) = v := ⟨_, rfl⟩
  rw [hw] at hlt q_u q_s O_s P_t q_t P_u hB ⊢
  clear hw hst
  have sz_w7 := hlt
  clear hlt
  have HQ := Lib.hid (And.intro q_s (And.intro O_s (And.intro P_t (And.intro q_t (And.intro P_u (And.intro q_u hB))))))
  clear q_s O_s P_t q_t P_u q_u hB
  have c_q_s0 := LK.cell HQ.out.1 0
  have c_q_s1 := LK.cell HQ.out.1 1
  have c_q_s2 := LK.cell HQ.out.1 2
  have c_q_s3 := LK.cell HQ.out.1 3
  have c_q_t0 := LK.cell HQ.out.2.2.2.1 0
  have c_q_t1 := LK.cell HQ.out.2.2.2.1 1
  have c_q_t2 := LK.cell HQ.out.2.2.2.1 2
  have c_q_t3 := LK.cell HQ.out.2.2.2.1 3
  have c_q_u0 := LK.cell HQ.out.2.2.2.2.2.1 0
  have c_q_u1 := LK.cell HQ.out.2.2.2.2.2.1 1
  have c_q_u2 := LK.cell HQ.out.2.2.2.2.2.1 2
  have c_q_u3 := LK.cell HQ.out.2.2.2.2.2.1 3
  simp at c_q_s0 c_q_s1 c_q_s2 c_q_s3 c_q_t0 c_q_t1 c_q_t2 c_q_t3 c_q_u0 c_q_u1 c_q_u2 c_q_u3
  rcases HL.out.2 with ⟨hp, rfl, rfl⟩ | ⟨pn, rfl, h8, h9, hc⟩
  case inl =>
    rcases hp with hp | hp
    · skip
      go_wp2
      go_ret
      exact ⟨rfl, HQ.out.2.2.2.2.2.2⟩
    · have i1 : ¬ p < 8 := by omega
      have i2 : (255 : Int) < p := by omega
      go_wp2
      go_ret
      exact ⟨rfl, HQ.out.2.2.2.2.2.2⟩
  have h256 := HL.out.1
  clear HL
  obtain ⟨nb, no, nc, e1, -, zb, z1, zc, hcs⟩ := HQ.out.2.1.n.at_n h256 (by omega)
  injection e1 with e1 el e2
  subst e1 e2
  clear el
  unfold maxLen at zc
  rw [h256] at c_q_s2
  have f1 := hcs pn (s.now.getD pn 0) (get_l _ _ _ (by omega))
  have i1 : ¬ (pn : Int) < 8 := by omega
  have i2 : ¬ (255 : Int) < pn := by omega
  have i3 : ¬ (256 : Int) ≤ pn := by omega
  have HCS := Lib.hid (And.intro hcs h256)
  clear hcs h256
  rcases hc with ⟨hz, rfl, rfl⟩ | ⟨hz, rfl, y, hsz, htz, htl, htd, htt, hoth, hsh⟩
  case inl =>
    rw [hz] at f1
    have e0 : bV 0 = .int .u8 0 := rfl
    rw [e0] at f1
    go_wp2
    go_ret
    exact ⟨rfl, HQ.out.2.2.2.2.2.2⟩
  have HSH := Lib.hid hsh
  clear hsh hz
  have hyl : y < 255 := by have := (s.now.getD pn 0).toNat_lt; omega
  have w1 : IntKind.u8.wrap ((y : Int) + 1 - 1) = (y : Int) := by rw [IntKind.wrap_u8]; omega
  have w2 : IntKind.u8.wrap (y : Int) = (y : Int) := by rw [IntKind.wrap_u8]; omega
  simp only [bV, hsz] at f1
  have i5 : ((y + 1 : Nat) : Int) = (y : Int) + 1 := by omega
  rw [i5] at f1
  have i6 : ¬ ((y : Int) + 1) = 0 := by omega
  obtain ⟨tb, tf, tc, e1, -, zd, z2, ze, hct⟩ := HQ.out.2.2.1.n.at_n htl (by omega)
  injection e1 with e1 el e2
  subst e1 e2
  clear el
  unfold maxLen at ze
  skip
  clear c_q_s0 c_q_s1 c_q_s2 c_q_s3 c_q_t0 c_q_t1 c_q_t2 c_q_t3 c_q_u0 c_q_u1 c_q_u2 c_q_u3
  have a0 := fun X => LK.cell (HQ.out.1.step (aft_below w7 X)) 0
  have a1 := fun X => LK.cell (HQ.out.1.step (aft_below w7 X)) 1
  have a2 := fun X => LK.cell (HQ.out.1.step (aft_below w7 X)) 2
  have a3 := fun X => LK.cell (HQ.out.1.step (aft_below w7 X)) 3
  have b0 := fun X => LK.cell (HQ.out.2.2.2.1.step (aft_below w7 X)) 0
  have b1 := fun X => LK.cell (HQ.out.2.2.2.1.step (aft_below w7 X)) 1
  have b2 := fun X => LK.cell (HQ.out.2.2.2.1.step (aft_below w7 X)) 2
  have b3 := fun X => LK.cell (HQ.out.2.2.2.1.step (aft_below w7 X)) 3
  simp at a0 a1 a2 a3 b0 b1 b2 b3
  simp only [HCS.out.2] at a2
  simp only [htl] at b2
  have g1 := fun X => ((aft_below w7 X).cell (p := ⟨nb, no + pn, none⟩) zb).trans f1
  have g2 := fun X => ((aft_below w7 X).cell (p := ⟨tb, tf + pn, none⟩) zd).trans (hct pn (T.now.getD pn 0) (get_l _ _ _ (by omega)))
  simp only [bV, htz] at g2
  have x1 := fun X => cv_of (HQ.out.2.1.step (aft_below w7 X)).l
  have x2 := fun X => cv_of (HQ.out.2.2.1.step (aft_below w7 X)).l
  simp only [htt] at x2 b3
  have hd : decide (T.disk = s.disk) = true := by simp [htd]
  have kd := HC.out.2.2.2.2.2.2.1
  rw [hd] at kd
  have KD := Lib.hid kd
  have HS := Lib.hid (And.intro hct (And.intro hoth htl))
  clear hct hoth htl htd htt hd kd htz hsz
  have c_q_s0 := LK.cell HQ.out.1 0
  have c_q_s1 := LK.cell HQ.out.1 1
  have c_q_s2 := LK.cell HQ.out.1 2
  have c_q_s3 := LK.cell HQ.out.1 3
  simp at c_q_s0 c_q_s1 c_q_s2 c_q_s3
  rw [HCS.out.2] at c_q_s2
  go_upto_region 10 with (fail)
  clear c_q_s0 c_q_s1 c_q_s2 c_q_s3
  refine wp_region_held_drew (S := Cls w7) (by kernel_rfl) (Cls.drew w7) (fun hCl => ?_)
  refine wpAnyH_seg (fuel := 12) (by kernel_rfl) (fun _ d _ _ _ h => by cases d <;> exact h) hCl [0, 1, 2, 3, 4, 5, 6, 7, 8, 9, 10, 11, 12, 13, 14, 15, 16, 17, 18, 19, 20] _ _ _ (by kernel_rfl) (by kernel_rfl) ?_
  simp only [opsOf_cons, opsOf_nil, consOp_some, List.getElem?_toArray, List.getElem?_cons_succ, List.getElem?_cons_zero]
  repeat (first | go_big_quiet_step (fail) | quiet_step (fail))
  refine wpQuiet_nil ?_
  refine wpAnyH_each (fuel := 11) [21] (by kernel_rfl) (by simp) (by kernel_rfl) ?_
  refine Each.cons _ rfl (fun K' hK => ?_) Each.nil
  go_simp
  refine (KD.out _ _ _ _ _ (HQ.out.2.2.1.step hCl.below).d (HQ.out.2.1.step hCl.below).d).mono ?_
  rintro e zq ⟨rfl, hb⟩
  have hst := below_step hCl.below hCl.below.size hb
  clear hb
  have hCl := Cls.of hst
  refine hK.out (Cls w7) (fun _ h => h) hCl ?_
  clear hK K'
  refine wpAnyH_seg (fuel := 0) (by kernel_rfl) (fun _ d _ _ _ h => by cases d <;> exact h) hCl [22, 23, 24, 25, 26, 27, 28, 29, 30, 31, 32] _ _ _ (by kernel_rfl) (by kernel_rfl) ?_
  simp only [opsOf_cons, opsOf_nil, consOp_some, List.getElem?_toArray, List.getElem?_cons_succ, List.getElem?_cons_zero]
  repeat (first | go_big_quiet_step (fail) | quiet_step (fail))
  refine wpQuiet_nil ?_
  refine wpAnyH_done (by kernel_rfl) ?_ _
  have zb2 : nb < w7.heap.size := by omega
  have zd2 : tb < w7.heap.size := by omega
  have hcs2 := fun i x hx => (hst.cell (p := ⟨nb, no + i, none⟩) zb2).trans (HCS.out.1 i x hx)
  have hct2 := fun i x hx => (hst.cell (p := ⟨tb, tf + i, none⟩) zd2).trans (HS.out.1 i x hx)
  have HC2 := Lib.hid (And.intro hcs2 hct2)
  clear hcs2 hct2 a0 a1 a2 a3 b0 b1 b2 b3 f1 g1 g2 x1 x2 i1 i2 i3 i6 i5
  obtain ⟨q_s, O_s, P_t, q_t, P_u, q_u, hB⟩ := HQ.out
  clear HQ
  have sz_zq : w7.heap.size ≤ zq.heap.size := hst.size
  replace q_s := q_s.step hst
  replace O_s := O_s.step hst
  replace P_t := P_t.step hst
  replace q_t := q_t.step hst
  replace P_u := P_u.step hst
  replace q_u := q_u.step hst
  replace hB := hB.step hst
  clear hst
  have HQ := Lib.hid (And.intro q_s (And.intro O_s (And.intro P_t (And.intro q_t (And.intro P_u (And.intro q_u hB))))))
  clear q_s O_s P_t q_t P_u q_u hB
  have c_q_s0 := LK.cell HQ.out.1 0
  have c_q_s1 := LK.cell HQ.out.1 1
  have c_q_s2 := LK.cell HQ.out.1 2
  have c_q_s3 := LK.cell HQ.out.1 3
  have c_q_t0 := LK.cell HQ.out.2.2.2.1 0
  have c_q_t1 := LK.cell HQ.out.2.2.2.1 1
  have c_q_t2 := LK.cell HQ.out.2.2.2.1 2
  have c_q_t3 := LK.cell HQ.out.2.2.2.1 3
  have c_q_u0 := LK.cell HQ.out.2.2.2.2.2.1 0
  have c_q_u1 := LK.cell HQ.out.2.2.2.2.2.1 1
  have c_q_u2 := LK.cell HQ.out.2.2.2.2.2.1 2
  have c_q_u3 := LK.cell HQ.out.2.2.2.2.2.1 3
  simp at c_q_s0 c_q_s1 c_q_s2 c_q_s3 c_q_t0 c_q_t1 c_q_t2 c_q_t3 c_q_u0 c_q_u1 c_q_u2 c_q_u3
  clear c_q_s0 c_q_s1 c_q_s2 c_q_s3 c_q_t0 c_q_t1 c_q_t2 c_q_t3 c_q_u0 c_q_u1 c_q_u2 c_q_u3
  go_wp2_with fail
  go_loopw [10] (fun i wr => ∃ j : Nat, j ≤ 256 ∧ i = .int .i64 j ∧ Below zq.heap.size zq wr) (fun i _ => 256 - (intOf i).toNat)
  case atStart => exact ⟨0, by omega, rfl, Below.refl _ _⟩
  case round =>
  obtain ⟨j, hj, rfl, hBr⟩ := hrel
  have sz_r := hBr.size
  by_cases hlt : j < 256
  · have i1 : ¬ (256 : Int) ≤ j := by omega
    have y1 := LK.cell (HQ.out.1.step hBr) 2
    have y2 := LK.cell (HQ.out.2.2.2.1.step hBr) 2
    simp at y1 y2
    rw [HCS.out.2] at y1
    rw [HS.out.2.2] at y2
    have e1 := (hBr.cell (p := ⟨nb, no + j, none⟩) (by show nb < zq.heap.size; omega)).trans (HC2.out.1 j (s.now.getD j 0) (get_l _ _ _ (by have := HCS.out.2; omega)))
    have e2 := (hBr.cell (p := ⟨tb, tf + j, none⟩) (by show tb < zq.heap.size; omega)).trans (HC2.out.2 j (T.now.getD j 0) (get_l _ _ _ (by have := HS.out.2.2; omega)))
    have hh : j ≠ pn → T.now.getD j 0 = s.now.getD j 0 := HS.out.2.1 j
    obtain ⟨q1, hq1⟩ : ∃ q, T.now.getD j 0 = q := ⟨_, rfl⟩
    obtain ⟨q2, hq2⟩ : ∃ q, s.now.getD j 0 = q := ⟨_, rfl⟩
    rw [hq2] at e1 hh
    rw [hq1] at e2 hh
    simp only [bV] at e1 e2
    clear hq1 hq2
    have HBR := Lib.hid hBr
    clear hBr
    by_cases he : j = pn
    · subst he
      clear hh
      go_wp2_with fail
      go_quiet (fail)
      go_wp2
      go_roundw
      case rel => exact ⟨j + 1, by omega, by go_num, HBR.out.trans (below_dn _ _ _)⟩
      case measure => simp [intOf]; omega
    · obtain rfl := hh he
      have i2 : ¬ (j : Int) = pn := by omega
      go_wp2_with fail
      go_quiet (fail)
      go_wp2
      go_roundw
      case rel => exact ⟨j + 1, by omega, by go_num, HBR.out.trans (below_dn _ _ _)⟩
      case measure => simp [intOf]; omega
  obtain rfl : j = 256 := by omega
  have hst := hBr
  rename World => w9
  obtain ⟨q_s, O_s, P_t, q_t, P_u, q_u, hB⟩ := HQ.out
  clear HQ
  replace q_s := q_s.step hst
  replace O_s := O_s.step hst
  replace P_t := P_t.step hst
  replace q_t := q_t.step hst
  replace P_u := P_u.step hst
  replace q_u := q_u.step hst
  replace hB := hB.step hst
  clear hst hBr HC2 KD HS HCS
  have HQ := Lib.hid (And.intro q_s (And.intro O_s (And.intro P_t (And.intro q_t (And.intro P_u (And.intro q_u hB))))))
  clear q_s O_s P_t q_t P_u q_u hB
  have c_q_s0 := LK.cell HQ.out.1 0
  have c_q_s1 := LK.cell HQ.out.1 1
  have c_q_s2 := LK.cell HQ.out.1 2
  have c_q_s3 := LK.cell HQ.out.1 3
  have c_q_t0 := LK.cell HQ.out.2.2.2.1 0
  have c_q_t1 := LK.cell HQ.out.2.2.2.1 1
  have c_q_t2 := LK.cell HQ.out.2.2.2.1 2
  have c_q_t3 := LK.cell HQ.out.2.2.2.1 3
  have c_q_u0 := LK.cell HQ.out.2.2.2.2.2.1 0
  have c_q_u1 := LK.cell HQ.out.2.2.2.2.2.1 1
  have c_q_u2 := LK.cell HQ.out.2.2.2.2.2.1 2
  have c_q_u3 := LK.cell HQ.out.2.2.2.2.2.1 3
  simp at c_q_s0 c_q_s1 c_q_s2 c_q_s3 c_q_t0 c_q_t1 c_q_t2 c_q_t3 c_q_u0 c_q_u1 c_q_u2 c_q_u3
  go_wp2_with fail
  refine (HC.out.2.2.2.2.1 _ _ _ _ _ HQ.out.2.1.v).mono ?_
  rintro e w8 ⟨b3, u3, x3, y3, rfl, hm⟩
  clear c_q_s0 c_q_s1 c_q_s2 c_q_s3 c_q_t0 c_q_t1 c_q_t2 c_q_t3 c_q_u0 c_q_u1 c_q_u2 c_q_u3
  obtain ⟨q_s, O_s, P_t, q_t, P_u, q_u, hB⟩ := HQ.out
  clear HQ
  have P_r := LP.of hm
  have hst := hm.below
  obtain ⟨ab_r, cb_r, rfl, -, -, -, -⟩ := hm.store.v.1.1
  obtain ⟨au_r, cu_r, rfl, -, -, -, -⟩ := hm.store.v.1.2
  obtain ⟨ax_r, cx_r, rfl, -, -⟩ := hm.store.v.2.1.form rfl
  obtain ⟨ay_r, cy_r, rfl, -, -⟩ := hm.store.v.2.2.form rfl
  clear hm
  have sz_w8 : w9.heap.size ≤ w8.heap.size := hst.size
  replace q_s := q_s.step hst
  replace O_s := O_s.step hst
  replace P_t := P_t.step hst
  replace q_t := q_t.step hst
  replace P_u := P_u.step hst
  replace q_u := q_u.step hst
  replace hB := hB.step hst
  clear hst
  have HQ := Lib.hid (And.intro q_s (And.intro O_s (And.intro P_t (And.intro q_t (And.intro P_u (And.intro q_u (And.intro P_r hB)))))))
  clear q_s O_s P_t q_t P_u q_u P_r hB
  have c_q_s0 := LK.cell HQ.out.1 0
  have c_q_s1 := LK.cell HQ.out.1 1
  have c_q_s2 := LK.cell HQ.out.1 2
  have c_q_s3 := LK.cell HQ.out.1 3
  have c_q_t0 := LK.cell HQ.out.2.2.2.1 0
  have c_q_t1 := LK.cell HQ.out.2.2.2.1 1
  have c_q_t2 := LK.cell HQ.out.2.2.2.1 2
  have c_q_t3 := LK.cell HQ.out.2.2.2.1 3
  have c_q_u0 := LK.cell HQ.out.2.2.2.2.2.1 0
  have c_q_u1 := LK.cell HQ.out.2.2.2.2.2.1 1
  have c_q_u2 := LK.cell HQ.out.2.2.2.2.2.1 2
  have c_q_u3 := LK.cell HQ.out.2.2.2.2.2.1 3
  simp at c_q_s0 c_q_s1 c_q_s2 c_q_s3 c_q_t0 c_q_t1 c_q_t2 c_q_t3 c_q_u0 c_q_u1 c_q_u2 c_q_u3
  go_upto_region 18 with (fail)
  clear c_q_s0 c_q_s1 c_q_s2 c_q_s3 c_q_t0 c_q_t1 c_q_t2 c_q_t3 c_q_u0 c_q_u1 c_q_u2 c_q_u3
  obtain ⟨q_s, O_s, P_t, q_t, P_u, q_u, P_r, hB⟩ := HQ.out
  clear HQ
  have hst := (Below.refl w8.heap.size w8).alloc (Nat.le_refl _) (.cells #[.slice ab_r R.disk.blocks.length cb_r, .slice au_r R.disk.waits.length cu_r, .slice ax_r R.now.length cx_r, .slice ay_r R.last.length cy_r] 28)
  have hlt : w8.heap.size < (w8.alloc (.cells #[.slice ab_r R.disk.blocks.length cb_r, .slice au_r R.disk.waits.length cu_r, .slice ax_r R.now.length cx_r, .slice ay_r R.last.length cy_r] 28)).heap.size := by simp
  have q_r := LK.new w8 (.cells #[.slice ab_r R.disk.blocks.length cb_r, .slice au_r R.disk.waits.length cu_r, .slice ax_r R.now.length cx_r, .slice ay_r R.last.length cy_r] 28)
  replace q_s := q_s.step hst
  replace O_s := O_s.step hst
  replace P_t := P_t.step hst
  replace q_t := q_t.step hst
  replace P_u := P_u.step hst
  replace q_u := q_u.step hst
  replace P_r := P_r.step hst
  replace hB := hB.step hst
  obtain ⟨w9, hw⟩ : ∃ v, w8.alloc (.cells #[.slice ab_r R.disk.blocks.length cb_r, .slice au_r R.disk.waits.length cu_r, .slice ax_r R.now.length cx_r, .slice ay_r R.last.length cy_r] 28) = v := ⟨_, rfl⟩
  rw [hw] at hlt q_r q_s O_s P_t q_t P_u q_u P_r hB ⊢
  clear hw hst
  have sz_w9 := hlt
  clear hlt
  have HQ := Lib.hid (And.intro q_s (And.intro O_s (And.intro P_t (And.intro q_t (And.intro P_u (And.intro q_u (And.intro P_r (And.intro q_r hB))))))))
  clear q_s O_s P_t q_t P_u q_u P_r q_r hB
  have c_q_s0 := LK.cell HQ.out.1 0
  have c_q_s1 := LK.cell HQ.out.1 1
  have c_q_s2 := LK.cell HQ.out.1 2
  have c_q_s3 := LK.cell HQ.out.1 3
  have c_q_t0 := LK.cell HQ.out.2.2.2.1 0
  have c_q_t1 := LK.cell HQ.out.2.2.2.1 1
  have c_q_t2 := LK.cell HQ.out.2.2.2.1 2
  have c_q_t3 := LK.cell HQ.out.2.2.2.1 3
  have c_q_u0 := LK.cell HQ.out.2.2.2.2.2.1 0
  have c_q_u1 := LK.cell HQ.out.2.2.2.2.2.1 1
  have c_q_u2 := LK.cell HQ.out.2.2.2.2.2.1 2
  have c_q_u3 := LK.cell HQ.out.2.2.2.2.2.1 3
  have c_q_r0 := LK.cell HQ.out.2.2.2.2.2.2.2.1 0
  have c_q_r1 := LK.cell HQ.out.2.2.2.2.2.2.2.1 1
  have c_q_r2 := LK.cell HQ.out.2.2.2.2.2.2.2.1 2
  have c_q_r3 := LK.cell HQ.out.2.2.2.2.2.2.2.1 3
  simp at c_q_s0 c_q_s1 c_q_s2 c_q_s3 c_q_t0 c_q_t1 c_q_t2 c_q_t3 c_q_u0 c_q_u1 c_q_u2 c_q_u3 c_q_r0 c_q_r1 c_q_r2 c_q_r3
  rcases HSH.out with rfl | ⟨rfl, rfl, rfl⟩
  case inl =>
    go_wp2
    go_ret
    exact ⟨rfl, HQ.out.2.2.2.2.2.2.2.2⟩
  go_wp2_with fail
  refine (HC.out.2.2.2.2.2.1 _ _ _ _ _ HQ.out.2.2.2.2.2.2.1.v).mono ?_
  rintro e w10 ⟨b4, u4, x4, y4, rfl, hm⟩
  clear c_q_s0 c_q_s1 c_q_s2 c_q_s3 c_q_t0 c_q_t1 c_q_t2 c_q_t3 c_q_u0 c_q_u1 c_q_u2 c_q_u3 c_q_r0 c_q_r1 c_q_r2 c_q_r3
  obtain ⟨q_s, O_s, P_t, q_t, P_u, q_u, P_r, q_r, hB⟩ := HQ.out
  clear HQ
  have P_v := LP.of hm
  have hst := hm.below
  obtain ⟨ab_v, cb_v, rfl, -, -, -, -⟩ := hm.store.v.1.1
  obtain ⟨au_v, cu_v, rfl, -, -, -, -⟩ := hm.store.v.1.2
  obtain ⟨ax_v, cx_v, rfl, -, -⟩ := hm.store.v.2.1.form rfl
  obtain ⟨ay_v, cy_v, rfl, -, -⟩ := hm.store.v.2.2.form rfl
  clear hm
  have sz_w10 : w9.heap.size ≤ w10.heap.size := hst.size
  replace q_s := q_s.step hst
  replace O_s := O_s.step hst
  replace P_t := P_t.step hst
  replace q_t := q_t.step hst
  replace P_u := P_u.step hst
  replace q_u := q_u.step hst
  replace P_r := P_r.step hst
  replace q_r := q_r.step hst
  replace hB := hB.step hst
  clear hst
  have HQ := Lib.hid (And.intro q_s (And.intro O_s (And.intro P_t (And.intro q_t (And.intro P_u (And.intro q_u (And.intro P_r (And.intro q_r (And.intro P_v hB)))))))))
  clear q_s O_s P_t q_t P_u q_u P_r q_r P_v hB
  have c_q_s0 := LK.cell HQ.out.1 0
  have c_q_s1 := LK.cell HQ.out.1 1
  have c_q_s2 := LK.cell HQ.out.1 2
  have c_q_s3 := LK.cell HQ.out.1 3
  have c_q_t0 := LK.cell HQ.out.2.2.2.1 0
  have c_q_t1 := LK.cell HQ.out.2.2.2.1 1
  have c_q_t2 := LK.cell HQ.out.2.2.2.1 2
  have c_q_t3 := LK.cell HQ.out.2.2.2.1 3
  have c_q_u0 := LK.cell HQ.out.2.2.2.2.2.1 0
  have c_q_u1 := LK.cell HQ.out.2.2.2.2.2.1 1
  have c_q_u2 := LK.cell HQ.out.2.2.2.2.2.1 2
  have c_q_u3 := LK.cell HQ.out.2.2.2.2.2.1 3
  have c_q_r0 := LK.cell HQ.out.2.2.2.2.2.2.2.1 0
  have c_q_r1 := LK.cell HQ.out.2.2.2.2.2.2.2.1 1
  have c_q_r2 := LK.cell HQ.out.2.2.2.2.2.2.2.1 2
  have c_q_r3 := LK.cell HQ.out.2.2.2.2.2.2.2.1 3
  simp at c_q_s0 c_q_s1 c_q_s2 c_q_s3 c_q_t0 c_q_t1 c_q_t2 c_q_t3 c_q_u0 c_q_u1 c_q_u2 c_q_u3 c_q_r0 c_q_r1 c_q_r2 c_q_r3
  go_upto_region 21 with (fail)
  clear c_q_s0 c_q_s1 c_q_s2 c_q_s3 c_q_t0 c_q_t1 c_q_t2 c_q_t3 c_q_u0 c_q_u1 c_q_u2 c_q_u3 c_q_r0 c_q_r1 c_q_r2 c_q_r3
  obtain ⟨q_s, O_s, P_t, q_t, P_u, q_u, P_r, q_r, P_v, hB⟩ := HQ.out
  clear HQ
  have hst := (Below.refl w10.heap.size w10).alloc (Nat.le_refl _) (.cells #[.slice ab_v Q.disk.blocks.length cb_v, .slice au_v Q.disk.waits.length cu_v, .slice ax_v Q.now.length cx_v, .slice ay_v Q.last.length cy_v] 28)
  have hlt : w10.heap.size < (w10.alloc (.cells #[.slice ab_v Q.disk.blocks.length cb_v, .slice au_v Q.disk.waits.length cu_v, .slice ax_v Q.now.length cx_v, .slice ay_v Q.last.length cy_v] 28)).heap.size := by simp
  have q_v := LK.new w10 (.cells #[.slice ab_v Q.disk.blocks.length cb_v, .slice au_v Q.disk.waits.length cu_v, .slice ax_v Q.now.length cx_v, .slice ay_v Q.last.length cy_v] 28)
  replace q_s := q_s.step hst
  replace O_s := O_s.step hst
  replace P_t := P_t.step hst
  replace q_t := q_t.step hst
  replace P_u := P_u.step hst
  replace q_u := q_u.step hst
  replace P_r := P_r.step hst
  replace q_r := q_r.step hst
  replace P_v := P_v.step hst
  replace hB := hB.step hst
  obtain ⟨w11, hw⟩ : ∃ v, w10.alloc (.cells #[.slice ab_v Q.disk.blocks.length cb_v, .slice au_v Q.disk.waits.length cu_v, .slice ax_v Q.now.length cx_v, .slice ay_v Q.last.length cy_v] 28) = v := ⟨_, rfl⟩
  rw [hw] at hlt q_v q_s O_s P_t q_t P_u q_u P_r q_r P_v hB ⊢
  clear hw hst
  have sz_w11 := hlt
  clear hlt
  have HQ := Lib.hid (And.intro q_s (And.intro O_s (And.intro P_t (And.intro q_t (And.intro P_u (And.intro q_u (And.intro P_r (And.intro q_r (And.intro P_v (And.intro q_v hB))))))))))
  clear q_s O_s P_t q_t P_u q_u P_r q_r P_v q_v hB
  have c_q_s0 := LK.cell HQ.out.1 0
  have c_q_s1 := LK.cell HQ.out.1 1
  have c_q_s2 := LK.cell HQ.out.1 2
  have c_q_s3 := LK.cell HQ.out.1 3
  have c_q_t0 := LK.cell HQ.out.2.2.2.1 0
  have c_q_t1 := LK.cell HQ.out.2.2.2.1 1
  have c_q_t2 := LK.cell HQ.out.2.2.2.1 2
  have c_q_t3 := LK.cell HQ.out.2.2.2.1 3
  have c_q_u0 := LK.cell HQ.out.2.2.2.2.2.1 0
  have c_q_u1 := LK.cell HQ.out.2.2.2.2.2.1 1
  have c_q_u2 := LK.cell HQ.out.2.2.2.2.2.1 2
  have c_q_u3 := LK.cell HQ.out.2.2.2.2.2.1 3
  have c_q_r0 := LK.cell HQ.out.2.2.2.2.2.2.2.1 0
  have c_q_r1 := LK.cell HQ.out.2.2.2.2.2.2.2.1 1
  have c_q_r2 := LK.cell HQ.out.2.2.2.2.2.2.2.1 2
  have c_q_r3 := LK.cell HQ.out.2.2.2.2.2.2.2.1 3
  have c_q_v0 := LK.cell HQ.out.2.2.2.2.2.2.2.2.2.1 0
  have c_q_v1 := LK.cell HQ.out.2.2.2.2.2.2.2.2.2.1 1
  have c_q_v2 := LK.cell HQ.out.2.2.2.2.2.2.2.2.2.1 2
  have c_q_v3 := LK.cell HQ.out.2.2.2.2.2.2.2.2.2.1 3
  simp at c_q_s0 c_q_s1 c_q_s2 c_q_s3 c_q_t0 c_q_t1 c_q_t2 c_q_t3 c_q_u0 c_q_u1 c_q_u2 c_q_u3 c_q_r0 c_q_r1 c_q_r2 c_q_r3 c_q_v0 c_q_v1 c_q_v2 c_q_v3
  have ke := fun V b u x y b2 u2 x2 y2 h1 h2 => HC.out.2.2.2.2.2.2.2 V b u x y b2 u2 x2 y2 h1 h2
  simp only [decide_true] at ke
  have KE := Lib.hid ke
  clear ke
  go_wp2_with fail
  refine (KE.out _ _ _ _ _ _ _ _ _ HQ.out.2.2.2.2.2.2.2.2.1.v HQ.out.2.1.v).mono ?_
  rintro e w12 ⟨rfl, hst⟩
  clear c_q_s0 c_q_s1 c_q_s2 c_q_s3 c_q_t0 c_q_t1 c_q_t2 c_q_t3 c_q_u0 c_q_u1 c_q_u2 c_q_u3 c_q_r0 c_q_r1 c_q_r2 c_q_r3 c_q_v0 c_q_v1 c_q_v2 c_q_v3
  obtain ⟨q_s, O_s, P_t, q_t, P_u, q_u, P_r, q_r, P_v, q_v, hB⟩ := HQ.out
  clear HQ
  have sz_w12 : w11.heap.size ≤ w12.heap.size := hst.size
  replace q_s := q_s.step hst
  replace O_s := O_s.step hst
  replace P_t := P_t.step hst
  replace q_t := q_t.step hst
  replace P_u := P_u.step hst
  replace q_u := q_u.step hst
  replace P_r := P_r.step hst
  replace q_r := q_r.step hst
  replace P_v := P_v.step hst
  replace q_v := q_v.step hst
  replace hB := hB.step hst
  clear hst
  have HQ := Lib.hid (And.intro q_s (And.intro O_s (And.intro P_t (And.intro q_t (And.intro P_u (And.intro q_u (And.intro P_r (And.intro q_r (And.intro P_v (And.intro q_v hB))))))))))
  clear q_s O_s P_t q_t P_u q_u P_r q_r P_v q_v hB
  have c_q_s0 := LK.cell HQ.out.1 0
  have c_q_s1 := LK.cell HQ.out.1 1
  have c_q_s2 := LK.cell HQ.out.1 2
  have c_q_s3 := LK.cell HQ.out.1 3
  have c_q_t0 := LK.cell HQ.out.2.2.2.1 0
  have c_q_t1 := LK.cell HQ.out.2.2.2.1 1
  have c_q_t2 := LK.cell HQ.out.2.2.2.1 2
  have c_q_t3 := LK.cell HQ.out.2.2.2.1 3
  have c_q_u0 := LK.cell HQ.out.2.2.2.2.2.1 0
  have c_q_u1 := LK.cell HQ.out.2.2.2.2.2.1 1
  have c_q_u2 := LK.cell HQ.out.2.2.2.2.2.1 2
  have c_q_u3 := LK.cell HQ.out.2.2.2.2.2.1 3
  have c_q_r0 := LK.cell HQ.out.2.2.2.2.2.2.2.1 0
  have c_q_r1 := LK.cell HQ.out.2.2.2.2.2.2.2.1 1
  have c_q_r2 := LK.cell HQ.out.2.2.2.2.2.2.2.1 2
  have c_q_r3 := LK.cell HQ.out.2.2.2.2.2.2.2.1 3
  have c_q_v0 := LK.cell HQ.out.2.2.2.2.2.2.2.2.2.1 0
  have c_q_v1 := LK.cell HQ.out.2.2.2.2.2.2.2.2.2.1 1
  have c_q_v2 := LK.cell HQ.out.2.2.2.2.2.2.2.2.2.1 2
  have c_q_v3 := LK.cell HQ.out.2.2.2.2.2.2.2.2.2.1 3
  simp at c_q_s0 c_q_s1 c_q_s2 c_q_s3 c_q_t0 c_q_t1 c_q_t2 c_q_t3 c_q_u0 c_q_u1 c_q_u2 c_q_u3 c_q_r0 c_q_r1 c_q_r2 c_q_r3 c_q_v0 c_q_v1 c_q_v2 c_q_v3
  go_wp2
  go_ret
  exact ⟨rfl, HQ.out.2.2.2.2.2.2.2.2.2.2⟩

end Go.Proofs.Ytbddbadmfhplmaa

namespace Go.Proofs.Ytbddbadmfhplmaa
open Go.ChangeShapes Go.WideShapes Go.ChangeAt Go.RowKit

theorem own_ : ownKnob Try.prog.godebug = none := by kernel_rfl
theorem laidOut_ : laidOutB Try.prog = true := by kernel_rfl

end Go.Proofs.Ytbddbadmfhplmaa

namespace Go.Proofs.Ytbddbadmfhplmaa
open Go.ChangeShapes Go.WideShapes Go.ChangeAt Go.RowKit

section
variable {H : Type} {enc : TypeId × Value → H} {W : World} {r : Reach} {base : Nat} {spare : Nat → Bool} {held : Bool} {v : Value} {d : DataW H} {p : List MemPlace}
set_option maxRecDepth 100000 in
theorem arg_store (hv : Value.okWide Try.prog W r base 28 v) (h : DataW.Trod enc Try.prog W 0 spare held 28 v d p) :
    ∃ (s : StoreL) (b u x y : Value), v = .agg #[b, u, x, y] ∧ StoreV W 0 W.heap.size b u x y s := by
  have ht : fieldsOf Try.prog 28 = some [(0, 25), (2, 26), (3, 26)] := by kernel_rfl
  have hd : fieldsOf Try.prog 25 = some [(0, 22), (1, 23)] := by kernel_rfl
  have htw : fieldsOf Try.prog 92 = some [(0, 3), (1, 26)] := by kernel_rfl
  have hcb : Try.prog.cellsOf 26 = 1 := by kernel_rfl
  have hcd : Try.prog.cellsOf 25 = 2 := by kernel_rfl
  have ce : Try.prog.cellsOf 28 = 4 := by kernel_rfl
  obtain ⟨cs, rfl, hsz⟩ := okW_struct ht hv
  obtain ⟨fuel, hf⟩ := h
  obtain ⟨hl, n, hf⟩ := trod_parts ht hf
  obtain ⟨y0, h0⟩ := hf (0, 25) (by simp)
  obtain ⟨y1, h1⟩ := hf (2, 26) (by simp)
  obtain ⟨y2, h2⟩ := hf (3, 26) (by simp)
  dsimp only at h0 h1 h2
  rw [hcb] at h1 h2
  rw [hcd] at h0
  rw [ce] at hsz
  obtain ⟨b, u, x, e0, hD⟩ := open_disk hd Try.underlying22 Try.underlying23 (by kernel_rfl) (by kernel_rfl) htw (by kernel_rfl) Try.underlying3 (by kernel_rfl) (by kernel_rfl) (by kernel_rfl) Try.underlying26 Try.underlying5 (by kernel_rfl) h0
  obtain ⟨v1, l1, e1, B1⟩ := open_bytes Try.underlying26 Try.underlying5 (by kernel_rfl) h1
  obtain ⟨v2, l2, e2, B2⟩ := open_bytes Try.underlying26 Try.underlying5 (by kernel_rfl) h2
  refine ⟨⟨x, l1, l2⟩, b, u, v1, v2, ?_, hD, B1, B2⟩
  congr 1
  apply Array.toList_inj.1
  obtain ⟨cl⟩ := cs
  match cl, hsz with
  | [c0, c1, c2, c3], _ =>
    simp [Value.cells] at e0 e1 e2
    simp [e0, e1, e2]
end
end Go.Proofs.Ytbddbadmfhplmaa

