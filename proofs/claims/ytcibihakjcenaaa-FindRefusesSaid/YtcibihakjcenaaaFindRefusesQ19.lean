/- FindRefuses: the words and contracts, part 19. -/
import Derived.Test.YtcibihakjcenaaaFindRefusesQ1
import Derived.Test.YtcibihakjcenaaaFindRefusesQ2
import Derived.Test.YtcibihakjcenaaaFindRefusesQ3
import Derived.Test.YtcibihakjcenaaaFindRefusesQ4
import Derived.Test.YtcibihakjcenaaaFindRefusesQ5
import Derived.Test.YtcibihakjcenaaaFindRefusesQ6
import Derived.Test.YtcibihakjcenaaaFindRefusesQ7
import Derived.Test.YtcibihakjcenaaaFindRefusesQ8
import Derived.Test.YtcibihakjcenaaaFindRefusesQ9
import Derived.Test.YtcibihakjcenaaaFindRefusesQ10
import Derived.Test.YtcibihakjcenaaaFindRefusesQ11
import Derived.Test.YtcibihakjcenaaaFindRefusesQ12
import Derived.Test.YtcibihakjcenaaaFindRefusesQ13
import Derived.Test.YtcibihakjcenaaaFindRefusesQ14
import Derived.Test.YtcibihakjcenaaaFindRefusesQ15
import Derived.Test.YtcibihakjcenaaaFindRefusesQ16
import Derived.Test.YtcibihakjcenaaaFindRefusesQ17
import Derived.Test.YtcibihakjcenaaaFindRefusesQ18
import Derived.Test.YtcibihakjcenaaaChecked
import Derived.WalkKit
import Derived.WalkLawsBesides
import Derived.WalkSpells
import Derived.Lib.Hide
import Derived.Laws.Rows
import Derived.Laws.AppendOwnNone
import Derived.Maps.AppendAt
import Derived.ProofKit
import Derived.Deep.Slices
import Derived.WideShapes
import Derived.RangeFuncNested
import Derived.RangeFuncBound
import Derived.RangeFuncCalls
import Derived.RangeFuncLeaves
import Derived.RangeFuncBox
import Derived.Shelf.Abstract
import Derived.Shelf.RegionOpen
import Derived.OwnWalkIn
import Derived.TacticsInMore
import Derived.LoopNIn
import Derived.LoopIn
import Derived.Lib.AppendZerosOnto
import Derived.Lib.SliceRun
import Derived.Lib.Walk
import Derived.Deep.LoopGhost
import Derived.Laws.CopyOwn
import Derived.Laws.CopyRow
import Derived.OrdersHeld
import Derived.Deep.QuietTactic
import Derived.BigQuiet
import Derived.StillTailTactics
import Derived.OpenShut
import Derived.Deep.DeepCutAuto
import Derived.Laws.MakeOwn
import Derived.Deep.RegionHeld
import Derived.KernelRfl
import Derived.BigFrameIn
import Derived.OrdersIn
import Derived.Laws.EntriesVeiled
import Derived.Sort.CutIn
import Derived.ArgAppend
import Derived.ShutString
import Derived.ChangeOld
import Derived.Below
namespace Go.Proofs.Ytcibihakjcenaaa
open Go.RowKit

theorem tree_ways (s : StoreL) (p : Int) (K : KeyL) : (errCk s p ≠ 0 ∧ heiC s p = 0 ∧ errFd s p K = errCk s p ∧ itmF s p K = nokI) ∨ (errCk s p = 0 ∧ mayS s = true ∧ ∃ pn l : Nat, p = pn ∧ 8 ≤ pn ∧ pn < 256 ∧ errBn s pn = 0 ∧ (nodeB s pn).level = (l : Int) ∧
    (l = 0 ∨ ∃ r, wkGo (oneW s l) none (nodeB s pn).items = some r) ∧ heiC s p = (l : Int) + 1 ∧ l < 6 ∧ allW s l (nodeB s pn).items = lstC s p ∧ (lstC s p).length ≤ 15625) := by
  by_cases h : errCk s p = 0
  case neg =>
    have e : errFd s p K = errCk s p := by unfold errFd; rw [if_pos h]
    exact .inl ⟨h, by unfold heiC; rw [if_neg h], e, by unfold itmF; rw [e, if_neg h]⟩
  have T := errCk_zero h
  obtain ⟨pn, rfl⟩ : ∃ pn : Nat, p = pn := ⟨p.toNat, by have := T.lo; omega⟩
  have t1 := T.lo
  have t2 := T.hi
  obtain ⟨-, -, hl, -⟩ := tree_law h
  have hH : heiC s (pn : Int) = (nodeB s pn).level + 1 := by unfold heiC; rw [if_pos h, Int.toNat_natCast]
  refine .inr ⟨h, T.may, pn, (nodeB s pn).level.toNat, rfl, by omega, by omega, T.err, T.level, ?_, by rw [hH]; have := T.level; rw [Int.toNat_natCast] at this; omega, T.lev, rfl, hl⟩
  rcases T.top with ⟨_, h3⟩ | h3
  · exact .inl h3
  · exact .inr h3
/-- How many items have a key. -/
def cntK (L : List ItemL) (K : KeyL) (j : Nat) : Nat := ((L.take j).filter fun x => decide (x.key = K)).length
theorem cntK_succ (L : List ItemL) (K : KeyL) (j : Nat) (h : j < L.length) : cntK L K (j + 1) = cntK L K j + if (L.getD j nokI).key = K then 1 else 0 := by
  unfold cntK
  rw [take_snocI L j h, List.filter_append, List.length_append]
  by_cases hk : (L.getD j nokI).key = K
  · rw [if_pos hk, List.filter_cons_of_pos (by simpa using hk)]; rfl
  · rw [if_neg hk, List.filter_cons_of_neg (by simpa using hk)]; rfl
theorem cntK_le (L : List ItemL) (K : KeyL) (j : Nat) : cntK L K j ≤ j := Nat.le_trans (List.length_filter_le _ _) (by rw [List.length_take]; omega)
theorem ris_one {K : KeyL} : ∀ {L : List ItemL}, Ris L → (∃ y ∈ L, y.key = K) → (L.filter fun x => decide (x.key = K)).length = 1
  | [], _, h => by obtain ⟨y, hy, -⟩ := h; cases hy
  | a :: L, hr, h => by
    have hp := List.pairwise_cons.1 hr
    by_cases hk : a.key = K
    · rw [List.filter_cons_of_pos (by simpa using hk), List.length_cons, List.filter_eq_nil_iff.2 (fun y hy => ?_)]
      · rfl
      · intro e
        have h1 := hp.1 y hy
        rw [hk, of_decide_eq_true e, lessK_self] at h1
        cases h1
    · rw [List.filter_cons_of_neg (by simpa using hk)]
      obtain ⟨y, hy, e⟩ := h
      rcases List.mem_cons.1 hy with rfl | hy
      · exact absurd e hk
      · exact ris_one hp.2 ⟨y, hy, e⟩
theorem refuse_law {s : StoreL} {p : Int} (K : KeyL) (h : errCk s p = 0) : (cntK (lstC s p) K (lstC s p).length = 1 ∧ errFd s p K = 0 ∧ (itmF s p K).key = K) ∨ (cntK (lstC s p) K (lstC s p).length = 0 ∧ errFd s p K = 6) := by
  obtain ⟨-, -, -, hr, h1, h2, -, h4⟩ := tree_law h
  unfold cntK
  rw [List.take_length]
  by_cases hy : ∃ y ∈ lstC s p, y.key = K
  · refine .inl ⟨ris_one hr hy, ?_⟩
    obtain ⟨y, hy, rfl⟩ := hy
    obtain ⟨g1, g2⟩ := h1 y hy
    exact ⟨g1, by rw [g2]⟩
  · refine .inr ⟨?_, h4 K fun y hy' e => hy ⟨y, hy', e⟩⟩
    rw [List.filter_eq_nil_iff.2 fun y hy' e => hy ⟨y, hy', of_decide_eq_true e⟩]
    rfl
set_option maxRecDepth 100000 in
set_option maxHeartbeats 4000000 in
theorem findRefuses_walk (b_s u_s x_s y_s : Value) (s : StoreL) (p : Int) (k : KeyL) (w : World) (h_s : StoreV w 0 w.heap.size b_s u_s x_s y_s s) (_wp : (Lit.int .i64 p).wf = true) :
    Calls Try.prog 6 #[.agg #[b_s, u_s, x_s, y_s], .int .i64 p, .agg #[bV k.kind, wV k.id, wV k.off]] w fun e w' => e = .returned (.bool true) ∧ Below w.heap.size w w' := by
  obtain ⟨ab_s, cb_s, rfl, gb_s, gc_s, -, -⟩ := h_s.1.1
  obtain ⟨au_s, cu_s, rfl, gu_s, gv_s, -, -⟩ := h_s.1.2
  obtain ⟨ax_s, cx_s, rfl, gx_s, gz_s⟩ := h_s.2.1.form rfl
  obtain ⟨ay_s, cy_s, rfl, gy_s, gw_s⟩ := h_s.2.2.form rfl
  unfold maxLen at gc_s gv_s gz_s gw_s
  obtain ⟨k_k, k_i, k_o⟩ := k
  simp only [bV, wV]
  have hst := (((Below.refl w.heap.size w).alloc (Nat.le_refl _) (.cells #[.slice ab_s s.disk.blocks.length cb_s, .slice au_s s.disk.waits.length cu_s, .slice ax_s s.now.length cx_s, .slice ay_s s.last.length cy_s] 46)).alloc (by simp) (.cells #[.int .u8 (k_k.toNat : Int), .int .u32 (k_i.toNat : Int), .int .u32 (k_o.toNat : Int)] 48))
  have hq := two_new w (.cells #[.slice ab_s s.disk.blocks.length cb_s, .slice au_s s.disk.waits.length cu_s, .slice ax_s s.now.length cx_s, .slice ay_s s.last.length cy_s] 46) (.cells #[.int .u8 (k_k.toNat : Int), .int .u32 (k_i.toNat : Int), .int .u32 (k_o.toNat : Int)] 48)
  have q_s := LK.of hq.1
  have q_k := LK.of hq.2
  have hB : LW w _ := hst
  have O_s := (LO.of h_s (Nat.le_refl _)).step hst
  have sz_V : w.heap.size + 1 < ((w.alloc (.cells #[.slice ab_s s.disk.blocks.length cb_s, .slice au_s s.disk.waits.length cu_s, .slice ax_s s.now.length cx_s, .slice ay_s s.last.length cy_s] 46)).alloc (.cells #[.int .u8 (k_k.toNat : Int), .int .u32 (k_i.toNat : Int), .int .u32 (k_o.toNat : Int)] 48)).heap.size := by simp
  obtain ⟨V, hV⟩ : ∃ V, ((w.alloc (.cells #[.slice ab_s s.disk.blocks.length cb_s, .slice au_s s.disk.waits.length cu_s, .slice ax_s s.now.length cx_s, .slice ay_s s.last.length cy_s] 46)).alloc (.cells #[.int .u8 (k_k.toNat : Int), .int .u32 (k_i.toNat : Int), .int .u32 (k_o.toNat : Int)] 48)) = V := ⟨_, rfl⟩
  rw [hV] at sz_V q_s q_k O_s hB
  clear hst h_s hq
  have HQ := Lib.hid (And.intro q_s (And.intro q_k (And.intro O_s hB)))
  clear q_s q_k O_s hB
  have c_q_s0 := LK.cell HQ.out.1 0
  have c_q_s1 := LK.cell HQ.out.1 1
  have c_q_s2 := LK.cell HQ.out.1 2
  have c_q_s3 := LK.cell HQ.out.1 3
  have c_q_k0 := LK.cell HQ.out.2.1 0
  have c_q_k1 := LK.cell HQ.out.2.1 1
  have c_q_k2 := LK.cell HQ.out.2.1 2
  simp at c_q_s0 c_q_s1 c_q_s2 c_q_s3 c_q_k0 c_q_k1 c_q_k2
  have hE := tree_ways s p ⟨k_k, k_i, k_o⟩
  have hR := fun h => refuse_law (s := s) (p := p) ⟨k_k, k_i, k_o⟩ h
  have m_g := fun V b u x y hh => great8_any b u x y s V hh
  have m_c := fun V b u x y hh => fcheck_any b u x y s p V hh
  have m_f := fun V b u x y hh => ffind_any b u x y s p ⟨k_k, k_i, k_o⟩ V hh
  have m_a := fun l q V b u x y hh => all_any l b u x y s q V hh
  obtain ⟨ec, hec⟩ : ∃ e, errCk s p = e := ⟨_, rfl⟩
  obtain ⟨hc, hhc⟩ : ∃ e, heiC s p = e := ⟨_, rfl⟩
  obtain ⟨ef, hef⟩ : ∃ e, errFd s p ⟨k_k, k_i, k_o⟩ = e := ⟨_, rfl⟩
  obtain ⟨it, hit⟩ : ∃ e, itmF s p ⟨k_k, k_i, k_o⟩ = e := ⟨_, rfl⟩
  obtain ⟨L, hL⟩ : ∃ e, lstC s p = e := ⟨_, rfl⟩
  simp only [hec, hhc, hef, hit, hL] at hE
  simp only [hec, hef, hit, hL] at hR
  simp only [hec, hhc] at m_c
  simp only [hef, hit] at m_f
  simp only [itemV, bV, wV] at m_f
  clear hec hhc hef hit hL
  have HE := Lib.hid (And.intro hE hR)
  clear hE hR
  have HC := Lib.hid (And.intro m_g (And.intro m_c (And.intro m_f m_a)))
  clear m_g m_c m_f m_a
  go_enter Try.func6, Try.ntmps6
  go_upto_region 1 with (fail)
  clear hV
  go_wp2_with fail
  refine (aliveF V).mono ?_
  rintro e w1 ⟨rfl, hst⟩
  clear c_q_s0 c_q_s1 c_q_s2 c_q_s3 c_q_k0 c_q_k1 c_q_k2
  obtain ⟨q_s, q_k, O_s, hB⟩ := HQ.out
  clear HQ
  have sz_w1 : V.heap.size ≤ w1.heap.size := hst.size
  replace q_s := q_s.step hst
  replace q_k := q_k.step hst
  replace O_s := O_s.step hst
  replace hB := hB.step hst
  clear hst
  have HQ := Lib.hid (And.intro q_s (And.intro q_k (And.intro O_s hB)))
  clear q_s q_k O_s hB
  have c_q_s0 := LK.cell HQ.out.1 0
  have c_q_s1 := LK.cell HQ.out.1 1
  have c_q_s2 := LK.cell HQ.out.1 2
  have c_q_s3 := LK.cell HQ.out.1 3
  have c_q_k0 := LK.cell HQ.out.2.1 0
  have c_q_k1 := LK.cell HQ.out.2.1 1
  have c_q_k2 := LK.cell HQ.out.2.1 2
  simp at c_q_s0 c_q_s1 c_q_s2 c_q_s3 c_q_k0 c_q_k1 c_q_k2
  go_wp2_with fail
  refine (HC.out.1 _ _ _ _ _ HQ.out.2.2.1.v).mono ?_
  rintro e w2 ⟨g, rfl, hst, -⟩
  clear c_q_s0 c_q_s1 c_q_s2 c_q_s3 c_q_k0 c_q_k1 c_q_k2
  obtain ⟨q_s, q_k, O_s, hB⟩ := HQ.out
  clear HQ
  have sz_w2 : w1.heap.size ≤ w2.heap.size := hst.size
  replace q_s := q_s.step hst
  replace q_k := q_k.step hst
  replace O_s := O_s.step hst
  replace hB := hB.step hst
  clear hst
  have HQ := Lib.hid (And.intro q_s (And.intro q_k (And.intro O_s hB)))
  clear q_s q_k O_s hB
  have c_q_s0 := LK.cell HQ.out.1 0
  have c_q_s1 := LK.cell HQ.out.1 1
  have c_q_s2 := LK.cell HQ.out.1 2
  have c_q_s3 := LK.cell HQ.out.1 3
  have c_q_k0 := LK.cell HQ.out.2.1 0
  have c_q_k1 := LK.cell HQ.out.2.1 1
  have c_q_k2 := LK.cell HQ.out.2.1 2
  simp at c_q_s0 c_q_s1 c_q_s2 c_q_s3 c_q_k0 c_q_k1 c_q_k2
  cases g
  case true =>
    go_wp2
    go_ret
    exact ⟨rfl, HQ.out.2.2.2⟩
  go_wp2_with fail
  refine (HC.out.2.1 _ _ _ _ _ HQ.out.2.2.1.v).mono ?_
  rintro e w3 ⟨rfl, hst⟩
  clear c_q_s0 c_q_s1 c_q_s2 c_q_s3 c_q_k0 c_q_k1 c_q_k2
  obtain ⟨q_s, q_k, O_s, hB⟩ := HQ.out
  clear HQ
  have sz_w3 : w2.heap.size ≤ w3.heap.size := hst.size
  replace q_s := q_s.step hst
  replace q_k := q_k.step hst
  replace O_s := O_s.step hst
  replace hB := hB.step hst
  clear hst
  have HQ := Lib.hid (And.intro q_s (And.intro q_k (And.intro O_s hB)))
  clear q_s q_k O_s hB
  have c_q_s0 := LK.cell HQ.out.1 0
  have c_q_s1 := LK.cell HQ.out.1 1
  have c_q_s2 := LK.cell HQ.out.1 2
  have c_q_s3 := LK.cell HQ.out.1 3
  have c_q_k0 := LK.cell HQ.out.2.1 0
  have c_q_k1 := LK.cell HQ.out.2.1 1
  have c_q_k2 := LK.cell HQ.out.2.1 2
  simp at c_q_s0 c_q_s1 c_q_s2 c_q_s3 c_q_k0 c_q_k1 c_q_k2
  go_wp2_with fail
  refine (HC.out.2.2.1 _ _ _ _ _ HQ.out.2.2.1.v).mono ?_
  rintro e w4 ⟨v9, rfl, hm⟩
  clear c_q_s0 c_q_s1 c_q_s2 c_q_s3 c_q_k0 c_q_k1 c_q_k2
  obtain ⟨q_s, q_k, O_s, hB⟩ := HQ.out
  clear HQ
  have hst := hm.below
  have hvb := hm.bytes
  obtain ⟨a_x, c_x, rfl, -, -⟩ := hvb.form rfl
  have B_x := LB.of hvb (Nat.le_refl _)
  clear hvb hm
  have sz_w4 : w3.heap.size ≤ w4.heap.size := hst.size
  replace q_s := q_s.step hst
  replace q_k := q_k.step hst
  replace O_s := O_s.step hst
  replace hB := hB.step hst
  clear hst
  have HQ := Lib.hid (And.intro q_s (And.intro q_k (And.intro O_s (And.intro B_x hB))))
  clear q_s q_k O_s B_x hB
  have c_q_s0 := LK.cell HQ.out.1 0
  have c_q_s1 := LK.cell HQ.out.1 1
  have c_q_s2 := LK.cell HQ.out.1 2
  have c_q_s3 := LK.cell HQ.out.1 3
  have c_q_k0 := LK.cell HQ.out.2.1 0
  have c_q_k1 := LK.cell HQ.out.2.1 1
  have c_q_k2 := LK.cell HQ.out.2.1 2
  simp at c_q_s0 c_q_s1 c_q_s2 c_q_s3 c_q_k0 c_q_k1 c_q_k2
  go_upto_region 6 with (fail)
  clear c_q_s0 c_q_s1 c_q_s2 c_q_s3 c_q_k0 c_q_k1 c_q_k2
  obtain ⟨q_s, q_k, O_s, B_x, hB⟩ := HQ.out
  clear HQ
  have hst := (Below.refl w4.heap.size w4).alloc (Nat.le_refl _) (.cells #[.int .u8 (it.key.kind.toNat : Int), .int .u32 (it.key.id.toNat : Int), .int .u32 (it.key.off.toNat : Int), .int .i64 it.ref, .slice a_x it.val.length c_x] 56)
  have hlt : w4.heap.size < (w4.alloc (.cells #[.int .u8 (it.key.kind.toNat : Int), .int .u32 (it.key.id.toNat : Int), .int .u32 (it.key.off.toNat : Int), .int .i64 it.ref, .slice a_x it.val.length c_x] 56)).heap.size := by simp
  have q_x := LK.new w4 (.cells #[.int .u8 (it.key.kind.toNat : Int), .int .u32 (it.key.id.toNat : Int), .int .u32 (it.key.off.toNat : Int), .int .i64 it.ref, .slice a_x it.val.length c_x] 56)
  replace q_s := q_s.step hst
  replace q_k := q_k.step hst
  replace O_s := O_s.step hst
  replace B_x := B_x.step hst
  replace hB := hB.step hst
  obtain ⟨w5, hw⟩ : ∃ v, w4.alloc (.cells #[.int .u8 (it.key.kind.toNat : Int), .int .u32 (it.key.id.toNat : Int), .int .u32 (it.key.off.toNat : Int), .int .i64 it.ref, .slice a_x it.val.length c_x] 56) = v := ⟨_, rfl⟩
  rw [hw] at hlt q_x q_s q_k O_s B_x hB ⊢
  clear hw hst
  have sz_w5 := hlt
  clear hlt
  have HQ := Lib.hid (And.intro q_s (And.intro q_k (And.intro O_s (And.intro B_x (And.intro q_x hB)))))
  clear q_s q_k O_s B_x q_x hB
  have c_q_s0 := LK.cell HQ.out.1 0
  have c_q_s1 := LK.cell HQ.out.1 1
  have c_q_s2 := LK.cell HQ.out.1 2
  have c_q_s3 := LK.cell HQ.out.1 3
  have c_q_k0 := LK.cell HQ.out.2.1 0
  have c_q_k1 := LK.cell HQ.out.2.1 1
  have c_q_k2 := LK.cell HQ.out.2.1 2
  have c_q_x0 := LK.cell HQ.out.2.2.2.2.1 0
  have c_q_x1 := LK.cell HQ.out.2.2.2.2.1 1
  have c_q_x2 := LK.cell HQ.out.2.2.2.2.1 2
  have c_q_x3 := LK.cell HQ.out.2.2.2.2.1 3
  have c_q_x4 := LK.cell HQ.out.2.2.2.2.1 4
  simp at c_q_s0 c_q_s1 c_q_s2 c_q_s3 c_q_k0 c_q_k1 c_q_k2 c_q_x0 c_q_x1 c_q_x2 c_q_x3 c_q_x4
  obtain ⟨hE, hR⟩ := HE.out
  clear HE
  rcases hE with ⟨hn, rfl, rfl, rfl⟩ | ⟨rfl, hm, pn, l, rfl, h8, h9, he, hlv, ht, rfl, hl6, hLL, hlen⟩
  case inl =>
    have i2 : (ef == 0) = false := by simp [hn]
    have i3 : (ef != 0) = true := by simp [hn]
    have i4 : ((nokI.val.length : Nat) : Int) = 0 := rfl
    rw [show nokI.val.length = 0 from rfl] at *
    go_wp2
    go_ret
    exact ⟨rfl, HQ.out.2.2.2.2.2⟩
  have hr := hR rfl
  have HR := Lib.hid hr
  have ka := fun b u x y V hh => HC.out.2.2.2 l pn V b u x y hh hm h8 h9 he hlv ht
  rw [hLL] at ka
  have KA := Lib.hid ka
  clear hr hR ka hm he hlv ht hLL
  have i2 : (l : Int) + 1 - 1 = (l : Int) := by omega
  have i3 : ¬ (l : Int) + 1 < 1 := by omega
  have i4 : ¬ (6 : Int) < (l : Int) + 1 := by omega
  have i5 : ¬ (15625 : Int) < L.length := by omega
  clear c_q_s0 c_q_s1 c_q_s2 c_q_s3 c_q_k0 c_q_k1 c_q_k2 c_q_x0 c_q_x1 c_q_x2 c_q_x3 c_q_x4
  have c_q_s0 := LK.cell HQ.out.1 0
  have c_q_s1 := LK.cell HQ.out.1 1
  have c_q_s2 := LK.cell HQ.out.1 2
  have c_q_s3 := LK.cell HQ.out.1 3
  have c_q_k0 := LK.cell HQ.out.2.1 0
  have c_q_k1 := LK.cell HQ.out.2.1 1
  have c_q_k2 := LK.cell HQ.out.2.1 2
  simp at c_q_s0 c_q_s1 c_q_s2 c_q_s3 c_q_k0 c_q_k1 c_q_k2
  go_wp2_with fail
  refine (KA.out _ _ _ _ _ HQ.out.2.2.1.v).mono ?_
  rintro e w6 ⟨vl, rfl, hsl, hst⟩
  clear c_q_s0 c_q_s1 c_q_s2 c_q_s3 c_q_k0 c_q_k1 c_q_k2
  obtain ⟨q_s, q_k, O_s, B_x, q_x, hB⟩ := HQ.out
  clear HQ
  have S_l := LS.of hsl (Nat.le_refl _)
  obtain ⟨al, cl, rfl, gl1, gl2, -, -⟩ := id hsl
  unfold maxLen at gl2
  clear hsl
  have sz_w6 : w5.heap.size ≤ w6.heap.size := hst.size
  replace q_s := q_s.step hst
  replace q_k := q_k.step hst
  replace O_s := O_s.step hst
  replace B_x := B_x.step hst
  replace q_x := q_x.step hst
  replace hB := hB.step hst
  clear hst
  have HQ := Lib.hid (And.intro q_s (And.intro q_k (And.intro O_s (And.intro B_x (And.intro q_x (And.intro S_l hB))))))
  clear q_s q_k O_s B_x q_x S_l hB
  have c_q_s0 := LK.cell HQ.out.1 0
  have c_q_s1 := LK.cell HQ.out.1 1
  have c_q_s2 := LK.cell HQ.out.1 2
  have c_q_s3 := LK.cell HQ.out.1 3
  have c_q_k0 := LK.cell HQ.out.2.1 0
  have c_q_k1 := LK.cell HQ.out.2.1 1
  have c_q_k2 := LK.cell HQ.out.2.1 2
  simp at c_q_s0 c_q_s1 c_q_s2 c_q_s3 c_q_k0 c_q_k1 c_q_k2
  go_wp2_with fail
  go_loopw [14, 15] (fun m i wr => ∃ j c : Nat, j ≤ L.length ∧ i = .int .i64 j ∧ m = .int .i64 c ∧ c = cntK L ⟨k_k, k_i, k_o⟩ j ∧ Below w6.heap.size w6 wr) (fun _ i _ => L.length - (intOf i).toNat)
  case atStart => exact ⟨0, 0, Nat.zero_le _, rfl, rfl, rfl, Below.refl _ _⟩
  case round =>
  obtain ⟨j, c, hj, rfl, rfl, hc, hst⟩ := hrel
  clear c_q_s0 c_q_s1 c_q_s2 c_q_s3 c_q_k0 c_q_k1 c_q_k2
  obtain ⟨q_s, q_k, O_s, B_x, q_x, S_l, hB⟩ := HQ.out
  clear HQ
  replace q_s := q_s.step hst
  replace q_k := q_k.step hst
  replace O_s := O_s.step hst
  replace B_x := B_x.step hst
  replace q_x := q_x.step hst
  replace S_l := S_l.step hst
  replace hB := hB.step hst
  have sz_wr := hst.size
  have hW : LW w6 wr := hst
  clear hst
  have HQ := Lib.hid (And.intro q_s (And.intro q_k (And.intro O_s (And.intro B_x (And.intro q_x (And.intro S_l (And.intro hW hB)))))))
  clear q_s q_k O_s B_x q_x S_l hW hB
  have c_q_k0 := LK.cell HQ.out.2.1 0
  have c_q_k1 := LK.cell HQ.out.2.1 1
  have c_q_k2 := LK.cell HQ.out.2.1 2
  simp at c_q_k0 c_q_k1 c_q_k2
  have hcj : c ≤ j := hc ▸ cntK_le _ _ _
  have HJ := Lib.hid hc
  clear hc
  by_cases hlt : j < L.length
  case pos =>
    obtain ⟨bb, bo, cb, e1, -, zb, -, zc, hcell⟩ := Sl.at_ HQ.out.2.2.2.2.2.1.v (by omega)
    injection e1 with e1 _ e2
    subst e1 e2
    obtain ⟨f0, f1, f2, -⟩ := hcell j (L.getD j nokI) (get_l _ _ _ hlt)
    have hn5 : rItem.n = 5 := rfl
    rw [hn5] at f0 f1 f2
    simp only [bV, wV, Nat.add_zero] at f0 f1 f2
    unfold maxLen at zc
    have hcs := cntK_succ L ⟨k_k, k_i, k_o⟩ j hlt
    obtain ⟨y, hy⟩ : ∃ y, L.getD j nokI = y := ⟨_, rfl⟩
    rw [hy] at f0 f1 f2 hcs
    have HCS := Lib.hid hcs
    clear hcs hcell hn5 hy
    have i6 : (j : Int) < L.length := by omega
    by_cases hk : y.key = ⟨k_k, k_i, k_o⟩
    case pos =>
      have ek : ∀ W, (Op.equalIn 10000 48 (.agg #[.int .u8 (y.key.kind.toNat : Int), .int .u32 (y.key.id.toNat : Int), .int .u32 (y.key.off.toNat : Int)]) (.agg #[.int .u8 (k_k.toNat : Int), .int .u32 (k_i.toNat : Int), .int .u32 (k_o.toNat : Int)])).run Try.prog W = .ok true W := fun W => (eq_key y.key ⟨k_k, k_i, k_o⟩ W).trans (congrArg (fun z => Result.ok z W) (decide_eq_true hk))
      go_wp2_with fail
      go_quiet (fail)
      go_wp2
      go_roundw
      case rel =>
        refine ⟨j + 1, c + 1, by omega, by go_num, by go_num, ?_, Below.trans HQ.out.2.2.2.2.2.2.1 (below_dn _ _ _)⟩
        rw [HCS.out, ← HJ.out]
        exact (if_pos hk).symm ▸ rfl
      case measure => simp [intOf]; omega
    have ek : ∀ W, (Op.equalIn 10000 48 (.agg #[.int .u8 (y.key.kind.toNat : Int), .int .u32 (y.key.id.toNat : Int), .int .u32 (y.key.off.toNat : Int)]) (.agg #[.int .u8 (k_k.toNat : Int), .int .u32 (k_i.toNat : Int), .int .u32 (k_o.toNat : Int)])).run Try.prog W = .ok false W := fun W => (eq_key y.key ⟨k_k, k_i, k_o⟩ W).trans (congrArg (fun z => Result.ok z W) (decide_eq_false hk))
    go_wp2_with fail
    go_quiet (fail)
    go_wp2
    go_roundw
    case rel =>
      refine ⟨j + 1, c, by omega, by go_num, rfl, ?_, Below.trans HQ.out.2.2.2.2.2.2.1 (below_dn _ _ _)⟩
      rw [HCS.out, ← HJ.out]
      rw [if_neg hk]; rfl
    case measure => simp [intOf]; omega
  obtain rfl : j = L.length := by omega
  clear c_q_k0 c_q_k1 c_q_k2
  have c_q_x0 := LK.cell HQ.out.2.2.2.2.1 0
  have c_q_x1 := LK.cell HQ.out.2.2.2.2.1 1
  have c_q_x2 := LK.cell HQ.out.2.2.2.2.1 2
  have c_q_x3 := LK.cell HQ.out.2.2.2.2.1 3
  have c_q_x4 := LK.cell HQ.out.2.2.2.2.1 4
  have c_q_k0 := LK.cell HQ.out.2.1 0
  have c_q_k1 := LK.cell HQ.out.2.1 1
  have c_q_k2 := LK.cell HQ.out.2.1 2
  simp at c_q_x0 c_q_x1 c_q_x2 c_q_x3 c_q_x4 c_q_k0 c_q_k1 c_q_k2
  rcases HR.out with ⟨h1, rfl, h3⟩ | ⟨h1, rfl⟩
  case inl =>
    obtain rfl : c = 1 := HJ.out.trans h1
    have ek : ∀ W, (Op.equalIn 10000 48 (.agg #[.int .u8 (it.key.kind.toNat : Int), .int .u32 (it.key.id.toNat : Int), .int .u32 (it.key.off.toNat : Int)]) (.agg #[.int .u8 (k_k.toNat : Int), .int .u32 (k_i.toNat : Int), .int .u32 (k_o.toNat : Int)])).run Try.prog W = .ok true W := fun W => (eq_key it.key ⟨k_k, k_i, k_o⟩ W).trans (congrArg (fun z => Result.ok z W) (decide_eq_true h3))
    clear h1 h3
    go_wp2
    go_ret
    exact ⟨rfl, HQ.out.2.2.2.2.2.2.2⟩
  obtain rfl : c = 0 := HJ.out.trans h1
  clear h1
  go_wp2
  go_ret
  exact ⟨rfl, HQ.out.2.2.2.2.2.2.2⟩

end Go.Proofs.Ytcibihakjcenaaa

namespace Go.Proofs.Ytcibihakjcenaaa
open Go.ChangeShapes Go.WideShapes Go.ChangeAt Go.RowKit

theorem own_ : ownKnob Try.prog.godebug = none := by kernel_rfl
theorem laidOut_ : laidOutB Try.prog = true := by kernel_rfl

end Go.Proofs.Ytcibihakjcenaaa

namespace Go.Proofs.Ytcibihakjcenaaa
open Go.ChangeShapes Go.WideShapes Go.ChangeAt Go.RowKit

section
variable {H : Type} {enc : TypeId × Value → H} {W : World} {r : Reach} {base : Nat} {spare : Nat → Bool} {held : Bool} {v : Value} {d : DataW H} {p : List MemPlace}
set_option maxRecDepth 100000 in
theorem arg_key (hv : Value.okWide Try.prog W r base 48 v) (h : DataW.Trod enc Try.prog W 0 spare held 48 v d p) : ∃ k : KeyL, v = .agg #[bV k.kind, wV k.id, wV k.off] := by
  have ht : fieldsOf Try.prog 48 = some [(0, 5), (1, 22), (2, 22)] := by kernel_rfl
  obtain ⟨cs, rfl, hsz⟩ := okW_struct ht hv
  obtain ⟨fuel, hf⟩ := h
  obtain ⟨k, hk⟩ := open_key ht Try.underlying5 Try.underlying22 (by kernel_rfl) (by kernel_rfl) (by kernel_rfl) hf
  refine ⟨k, ?_⟩
  congr 1
  apply Array.toList_inj.1
  exact hk
end
end Go.Proofs.Ytcibihakjcenaaa

namespace Go.Proofs.Ytcibihakjcenaaa
open Go.ChangeShapes Go.WideShapes Go.ChangeAt Go.RowKit

section
variable {H : Type} {enc : TypeId × Value → H} {W : World} {r : Reach} {base : Nat} {spare : Nat → Bool} {held : Bool} {v : Value} {d : DataW H} {p : List MemPlace}
set_option maxRecDepth 100000 in
theorem arg_store (hv : Value.okWide Try.prog W r base 46 v) (h : DataW.Trod enc Try.prog W 0 spare held 46 v d p) :
    ∃ (s : StoreL) (b u x y : Value), v = .agg #[b, u, x, y] ∧ StoreV W 0 W.heap.size b u x y s := by
  have ht : fieldsOf Try.prog 46 = some [(0, 44), (2, 26), (3, 26)] := by kernel_rfl
  have hd : fieldsOf Try.prog 44 = some [(0, 41), (1, 42)] := by kernel_rfl
  have htw : fieldsOf Try.prog 143 = some [(0, 3), (1, 26)] := by kernel_rfl
  have hcb : Try.prog.cellsOf 26 = 1 := by kernel_rfl
  have hcd : Try.prog.cellsOf 44 = 2 := by kernel_rfl
  have ce : Try.prog.cellsOf 46 = 4 := by kernel_rfl
  obtain ⟨cs, rfl, hsz⟩ := okW_struct ht hv
  obtain ⟨fuel, hf⟩ := h
  obtain ⟨hl, n, hf⟩ := trod_parts ht hf
  obtain ⟨y0, h0⟩ := hf (0, 44) (by simp)
  obtain ⟨y1, h1⟩ := hf (2, 26) (by simp)
  obtain ⟨y2, h2⟩ := hf (3, 26) (by simp)
  dsimp only at h0 h1 h2
  rw [hcb] at h1 h2
  rw [hcd] at h0
  rw [ce] at hsz
  obtain ⟨b, u, x, e0, hD⟩ := open_disk hd Try.underlying41 Try.underlying42 (by kernel_rfl) (by kernel_rfl) htw (by kernel_rfl) Try.underlying3 (by kernel_rfl) (by kernel_rfl) (by kernel_rfl) Try.underlying26 Try.underlying5 (by kernel_rfl) h0
  obtain ⟨v1, l1, e1, B1⟩ := open_bytes Try.underlying26 Try.underlying5 (by kernel_rfl) h1
  obtain ⟨v2, l2, e2, B2⟩ := open_bytes Try.underlying26 Try.underlying5 (by kernel_rfl) h2
  refine ⟨⟨x, l1, l2⟩, b, u, v1, v2, ?_, hD, B1, B2⟩
  congr 1
  apply Array.toList_inj.1
  obtain ⟨cl⟩ := cs
  match cl, hsz with
  | [c0, c1, c2, c3], _ =>
    simp [Value.cells] at e0 e1 e2
    simp [e0, e1, e2]
end
end Go.Proofs.Ytcibihakjcenaaa

