/- FindAll: the words and contracts, part 19. -/
import Derived.Test.YtcibihakjcenaaaFindAllQ1
import Derived.Test.YtcibihakjcenaaaFindAllQ2
import Derived.Test.YtcibihakjcenaaaFindAllQ3
import Derived.Test.YtcibihakjcenaaaFindAllQ4
import Derived.Test.YtcibihakjcenaaaFindAllQ5
import Derived.Test.YtcibihakjcenaaaFindAllQ6
import Derived.Test.YtcibihakjcenaaaFindAllQ7
import Derived.Test.YtcibihakjcenaaaFindAllQ8
import Derived.Test.YtcibihakjcenaaaFindAllQ9
import Derived.Test.YtcibihakjcenaaaFindAllQ10
import Derived.Test.YtcibihakjcenaaaFindAllQ11
import Derived.Test.YtcibihakjcenaaaFindAllQ12
import Derived.Test.YtcibihakjcenaaaFindAllQ13
import Derived.Test.YtcibihakjcenaaaFindAllQ14
import Derived.Test.YtcibihakjcenaaaFindAllQ15
import Derived.Test.YtcibihakjcenaaaFindAllQ16
import Derived.Test.YtcibihakjcenaaaFindAllQ17
import Derived.Test.YtcibihakjcenaaaFindAllQ18
import Derived.Test.YtcibihakjcenaaaChecked
import Derived.WalkKit
import Derived.WalkLawsBesides
import Derived.WalkSpells
import Derived.Lib.Hide
import Derived.Laws.Rows
import Derived.Laws.AppendOwnNone
import Derived.Maps.AppendAt
import Derived.ProofKit
import Derived.Deep.Slices
import Derived.WideShapes
import Derived.RangeFuncNested
import Derived.RangeFuncBound
import Derived.RangeFuncCalls
import Derived.RangeFuncLeaves
import Derived.RangeFuncBox
import Derived.Shelf.Abstract
import Derived.Shelf.RegionOpen
import Derived.OwnWalkIn
import Derived.TacticsInMore
import Derived.LoopNIn
import Derived.LoopIn
import Derived.Lib.AppendZerosOnto
import Derived.Lib.SliceRun
import Derived.Lib.Walk
import Derived.Deep.LoopGhost
import Derived.Laws.CopyOwn
import Derived.Laws.CopyRow
import Derived.OrdersHeld
import Derived.Deep.QuietTactic
import Derived.BigQuiet
import Derived.StillTailTactics
import Derived.OpenShut
import Derived.Deep.DeepCutAuto
import Derived.Laws.MakeOwn
import Derived.Deep.RegionHeld
import Derived.KernelRfl
import Derived.BigFrameIn
import Derived.OrdersIn
import Derived.Laws.EntriesVeiled
import Derived.Sort.CutIn
import Derived.ArgAppend
import Derived.ShutString
import Derived.ChangeOld
import Derived.Below
namespace Go.Proofs.Ytcibihakjcenaaa
open Go.RowKit

/-- Has one of the first items a key? -/
def hasK (L : List ItemL) (K : KeyL) (j : Nat) : Bool := (L.take j).any fun x => decide (x.key = K)
theorem hasK_succ (L : List ItemL) (K : KeyL) (j : Nat) (h : j < L.length) : hasK L K (j + 1) = (hasK L K j || decide ((L.getD j nokI).key = K)) := by
  unfold hasK
  rw [take_snocI L j h, List.any_append]
  simp
theorem all_ways (s : StoreL) (p : Int) (K : KeyL) : (errCk s p ≠ 0 ∧ heiC s p = 0) ∨ (errCk s p = 0 ∧ mayS s = true ∧ ∃ pn l : Nat, p = pn ∧ 8 ≤ pn ∧ pn < 256 ∧ errBn s pn = 0 ∧ (nodeB s pn).level = (l : Int) ∧
    (l = 0 ∨ ∃ r, wkGo (oneW s l) none (nodeB s pn).items = some r) ∧ heiC s p = (l : Int) + 1 ∧ l < 6 ∧ allW s l (nodeB s pn).items = lstC s p ∧ (lstC s p).length ≤ 15625 ∧
    (∀ j, j < (lstC s p).length → errFd s p ((lstC s p).getD j nokI).key = 0 ∧ itmF s p ((lstC s p).getD j nokI).key = (lstC s p).getD j nokI) ∧
    (∀ j, 0 < j → j < (lstC s p).length → lessK ((lstC s p).getD (j - 1) nokI).key ((lstC s p).getD j nokI).key = true) ∧
    ((hasK (lstC s p) K (lstC s p).length = true ∧ errFd s p K = 0) ∨ (hasK (lstC s p) K (lstC s p).length = false ∧ errFd s p K = 6))) := by
  by_cases h : errCk s p = 0
  case neg => exact .inl ⟨h, by unfold heiC; rw [if_neg h]⟩
  have T := errCk_zero h
  obtain ⟨pn, rfl⟩ : ∃ pn : Nat, p = pn := ⟨p.toNat, by have := T.lo; omega⟩
  have t1 := T.lo
  have t2 := T.hi
  obtain ⟨-, -, hl, hr, hown, -, -, hno⟩ := tree_law h
  have hH : heiC s (pn : Int) = (nodeB s pn).level + 1 := by unfold heiC; rw [if_pos h, Int.toNat_natCast]
  have hin : ∀ j, j < (lstC s (pn : Int)).length → (lstC s (pn : Int)).getD j nokI ∈ lstC s (pn : Int) := fun j hj => by
    rw [List.getD_eq_getElem?_getD, List.getElem?_eq_getElem hj]
    exact List.getElem_mem hj
  refine .inr ⟨h, T.may, pn, (nodeB s pn).level.toNat, rfl, by omega, by omega, T.err, T.level, ?_, by rw [hH]; have := T.level; rw [Int.toNat_natCast] at this; omega, T.lev, rfl, hl, fun j hj => hown _ (hin j hj), fun j h0 hj => ?_, ?_⟩
  · rcases T.top with ⟨_, h3⟩ | h3
    · exact .inl h3
    · exact .inr h3
  · have := List.pairwise_iff_getElem.1 hr (j - 1) j (by omega) hj (by omega)
    rw [List.getD_eq_getElem?_getD, List.getElem?_eq_getElem (by omega), List.getD_eq_getElem?_getD, List.getElem?_eq_getElem hj]
    exact this
  · unfold hasK
    rw [List.take_length]
    by_cases hy : ∃ y ∈ lstC s (pn : Int), y.key = K
    · obtain ⟨y, hy, rfl⟩ := hy
      exact .inl ⟨List.any_eq_true.2 ⟨y, hy, decide_eq_true rfl⟩, (hown y hy).1⟩
    · refine .inr ⟨?_, hno K fun y hy' e => hy ⟨y, hy', e⟩⟩
      rw [List.any_eq_false]
      intro y hy' e
      exact hy ⟨y, hy', of_decide_eq_true e⟩

set_option maxRecDepth 100000 in
set_option maxHeartbeats 4000000 in
theorem findAll_walk (b_s u_s x_s y_s : Value) (s : StoreL) (p : Int) (k : KeyL) (w : World) (h_s : StoreV w 0 w.heap.size b_s u_s x_s y_s s) (_wp : (Lit.int .i64 p).wf = true) :
    Calls Try.prog 7 #[.agg #[b_s, u_s, x_s, y_s], .int .i64 p, .agg #[bV k.kind, wV k.id, wV k.off]] w fun e w' => e = .returned (.bool true) ∧ Below w.heap.size w w' := by
  obtain ⟨ab_s, cb_s, rfl, gb_s, gc_s, -, -⟩ := h_s.1.1
  obtain ⟨au_s, cu_s, rfl, gu_s, gv_s, -, -⟩ := h_s.1.2
  obtain ⟨ax_s, cx_s, rfl, gx_s, gz_s⟩ := h_s.2.1.form rfl
  obtain ⟨ay_s, cy_s, rfl, gy_s, gw_s⟩ := h_s.2.2.form rfl
  unfold maxLen at gc_s gv_s gz_s gw_s
  obtain ⟨k_k, k_i, k_o⟩ := k
  simp only [bV, wV]
  have hst := (((Below.refl w.heap.size w).alloc (Nat.le_refl _) (.cells #[.slice ab_s s.disk.blocks.length cb_s, .slice au_s s.disk.waits.length cu_s, .slice ax_s s.now.length cx_s, .slice ay_s s.last.length cy_s] 46)).alloc (by simp) (.cells #[.int .u8 (k_k.toNat : Int), .int .u32 (k_i.toNat : Int), .int .u32 (k_o.toNat : Int)] 48))
  have hq := two_new w (.cells #[.slice ab_s s.disk.blocks.length cb_s, .slice au_s s.disk.waits.length cu_s, .slice ax_s s.now.length cx_s, .slice ay_s s.last.length cy_s] 46) (.cells #[.int .u8 (k_k.toNat : Int), .int .u32 (k_i.toNat : Int), .int .u32 (k_o.toNat : Int)] 48)
  have q_s := LK.of hq.1
  have q_k := LK.of hq.2
  have hB : LW w _ := hst
  have O_s := (LO.of h_s (Nat.le_refl _)).step hst
  have sz_V : w.heap.size + 1 < ((w.alloc (.cells #[.slice ab_s s.disk.blocks.length cb_s, .slice au_s s.disk.waits.length cu_s, .slice ax_s s.now.length cx_s, .slice ay_s s.last.length cy_s] 46)).alloc (.cells #[.int .u8 (k_k.toNat : Int), .int .u32 (k_i.toNat : Int), .int .u32 (k_o.toNat : Int)] 48)).heap.size := by simp
  obtain ⟨V, hV⟩ : ∃ V, ((w.alloc (.cells #[.slice ab_s s.disk.blocks.length cb_s, .slice au_s s.disk.waits.length cu_s, .slice ax_s s.now.length cx_s, .slice ay_s s.last.length cy_s] 46)).alloc (.cells #[.int .u8 (k_k.toNat : Int), .int .u32 (k_i.toNat : Int), .int .u32 (k_o.toNat : Int)] 48)) = V := ⟨_, rfl⟩
  rw [hV] at sz_V q_s q_k O_s hB
  clear hst h_s hq
  have HQ := Lib.hid (And.intro q_s (And.intro q_k (And.intro O_s hB)))
  clear q_s q_k O_s hB
  have c_q_s0 := LK.cell HQ.out.1 0
  have c_q_s1 := LK.cell HQ.out.1 1
  have c_q_s2 := LK.cell HQ.out.1 2
  have c_q_s3 := LK.cell HQ.out.1 3
  have c_q_k0 := LK.cell HQ.out.2.1 0
  have c_q_k1 := LK.cell HQ.out.2.1 1
  have c_q_k2 := LK.cell HQ.out.2.1 2
  simp at c_q_s0 c_q_s1 c_q_s2 c_q_s3 c_q_k0 c_q_k1 c_q_k2
  have hE := all_ways s p ⟨k_k, k_i, k_o⟩
  have m_g := fun V b u x y hh => great8_any b u x y s V hh
  have m_c := fun V b u x y hh => fcheck_any b u x y s p V hh
  have m_f := fun V b u x y hh => ffind_any b u x y s p ⟨k_k, k_i, k_o⟩ V hh
  have m_y := fun (y : ItemL) V b u x z hh => ffind_any b u x z s p y.key V hh
  have m_a := fun l q V b u x y hh => all_any l b u x y s q V hh
  have m_l := fun (y z : ItemL) V => less_any y.key z.key V
  have m_i := fun (y : ItemL) V v u hv hu => isame_any y y v u V hv hu
  obtain ⟨ec, hec⟩ : ∃ e, errCk s p = e := ⟨_, rfl⟩
  obtain ⟨hc, hhc⟩ : ∃ e, heiC s p = e := ⟨_, rfl⟩
  obtain ⟨ef, hef⟩ : ∃ e, errFd s p ⟨k_k, k_i, k_o⟩ = e := ⟨_, rfl⟩
  obtain ⟨it, hit⟩ : ∃ e, itmF s p ⟨k_k, k_i, k_o⟩ = e := ⟨_, rfl⟩
  obtain ⟨L, hL⟩ : ∃ e, lstC s p = e := ⟨_, rfl⟩
  simp only [hec, hhc, hef, hL] at hE
  simp only [hec, hhc] at m_c
  simp only [hef, hit] at m_f
  simp only [itemV, bV, wV] at m_f
  simp only [keyV, bV, wV] at m_l
  simp only [itemV, bV, wV, decide_true] at m_i
  simp only [itemV, bV, wV] at m_y
  clear hec hhc hef hit hL
  have HE := Lib.hid hE
  clear hE
  have HC := Lib.hid (And.intro m_g (And.intro m_c (And.intro m_f (And.intro m_y (And.intro m_a (And.intro m_l m_i))))))
  clear m_g m_c m_f m_y m_a m_l m_i
  go_enter Try.func7, Try.ntmps7
  go_upto_region 1 with (fail)
  clear hV
  go_wp2_with fail
  refine (aliveF V).mono ?_
  rintro e w1 ⟨rfl, hst⟩
  clear c_q_s0 c_q_s1 c_q_s2 c_q_s3 c_q_k0 c_q_k1 c_q_k2
  obtain ⟨q_s, q_k, O_s, hB⟩ := HQ.out
  clear HQ
  have sz_w1 : V.heap.size ≤ w1.heap.size := hst.size
  replace q_s := q_s.step hst
  replace q_k := q_k.step hst
  replace O_s := O_s.step hst
  replace hB := hB.step hst
  clear hst
  have HQ := Lib.hid (And.intro q_s (And.intro q_k (And.intro O_s hB)))
  clear q_s q_k O_s hB
  have c_q_s0 := LK.cell HQ.out.1 0
  have c_q_s1 := LK.cell HQ.out.1 1
  have c_q_s2 := LK.cell HQ.out.1 2
  have c_q_s3 := LK.cell HQ.out.1 3
  have c_q_k0 := LK.cell HQ.out.2.1 0
  have c_q_k1 := LK.cell HQ.out.2.1 1
  have c_q_k2 := LK.cell HQ.out.2.1 2
  simp at c_q_s0 c_q_s1 c_q_s2 c_q_s3 c_q_k0 c_q_k1 c_q_k2
  go_wp2_with fail
  refine (HC.out.2.1 _ _ _ _ _ HQ.out.2.2.1.v).mono ?_
  rintro e w2 ⟨rfl, hst⟩
  clear c_q_s0 c_q_s1 c_q_s2 c_q_s3 c_q_k0 c_q_k1 c_q_k2
  obtain ⟨q_s, q_k, O_s, hB⟩ := HQ.out
  clear HQ
  have sz_w2 : w1.heap.size ≤ w2.heap.size := hst.size
  replace q_s := q_s.step hst
  replace q_k := q_k.step hst
  replace O_s := O_s.step hst
  replace hB := hB.step hst
  clear hst
  have HQ := Lib.hid (And.intro q_s (And.intro q_k (And.intro O_s hB)))
  clear q_s q_k O_s hB
  have c_q_s0 := LK.cell HQ.out.1 0
  have c_q_s1 := LK.cell HQ.out.1 1
  have c_q_s2 := LK.cell HQ.out.1 2
  have c_q_s3 := LK.cell HQ.out.1 3
  have c_q_k0 := LK.cell HQ.out.2.1 0
  have c_q_k1 := LK.cell HQ.out.2.1 1
  have c_q_k2 := LK.cell HQ.out.2.1 2
  simp at c_q_s0 c_q_s1 c_q_s2 c_q_s3 c_q_k0 c_q_k1 c_q_k2
  go_wp2_with fail
  refine (HC.out.1 _ _ _ _ _ HQ.out.2.2.1.v).mono ?_
  rintro e w3 ⟨g, rfl, hst, -⟩
  clear c_q_s0 c_q_s1 c_q_s2 c_q_s3 c_q_k0 c_q_k1 c_q_k2
  obtain ⟨q_s, q_k, O_s, hB⟩ := HQ.out
  clear HQ
  have sz_w3 : w2.heap.size ≤ w3.heap.size := hst.size
  replace q_s := q_s.step hst
  replace q_k := q_k.step hst
  replace O_s := O_s.step hst
  replace hB := hB.step hst
  clear hst
  have HQ := Lib.hid (And.intro q_s (And.intro q_k (And.intro O_s hB)))
  clear q_s q_k O_s hB
  have c_q_s0 := LK.cell HQ.out.1 0
  have c_q_s1 := LK.cell HQ.out.1 1
  have c_q_s2 := LK.cell HQ.out.1 2
  have c_q_s3 := LK.cell HQ.out.1 3
  have c_q_k0 := LK.cell HQ.out.2.1 0
  have c_q_k1 := LK.cell HQ.out.2.1 1
  have c_q_k2 := LK.cell HQ.out.2.1 2
  simp at c_q_s0 c_q_s1 c_q_s2 c_q_s3 c_q_k0 c_q_k1 c_q_k2
  rcases HE.out with ⟨hn, rfl⟩ | ⟨rfl, hm, pn, l, rfl, h8, h9, he, hlv, ht, rfl, hl6, hLL, hlen, hT, hR, hF⟩
  case inl =>
    have i2 : (ec == 0) = false := by simp [hn]
    have i3 : (ec != 0) = true := by simp [hn]
    cases g
    case false =>
      go_wp2
      go_ret
      exact ⟨rfl, HQ.out.2.2.2⟩
    case true =>
      go_wp2
      go_ret
      exact ⟨rfl, HQ.out.2.2.2⟩
  clear HE
  cases g
  case true =>
    go_wp2
    go_ret
    exact ⟨rfl, HQ.out.2.2.2⟩
  have ka := fun b u x y V hh => HC.out.2.2.2.2.1 l pn V b u x y hh hm h8 h9 he hlv ht
  rw [hLL] at ka
  have KA := Lib.hid ka
  have HT := Lib.hid (And.intro hT (And.intro hR hF))
  clear ka hm he hlv ht hLL hT hR hF
  have i2 : (l : Int) + 1 - 1 = (l : Int) := by omega
  have i3 : ¬ (l : Int) + 1 < 1 := by omega
  have i4 : ¬ (6 : Int) < (l : Int) + 1 := by omega
  have i5 : ¬ (15625 : Int) < L.length := by omega
  go_wp2_with fail
  refine (KA.out _ _ _ _ _ HQ.out.2.2.1.v).mono ?_
  rintro e w4 ⟨vl, rfl, hsl, hst⟩
  clear c_q_s0 c_q_s1 c_q_s2 c_q_s3 c_q_k0 c_q_k1 c_q_k2
  obtain ⟨q_s, q_k, O_s, hB⟩ := HQ.out
  clear HQ
  have S_l := LS.of hsl (Nat.le_refl _)
  obtain ⟨al, cl, rfl, gl1, gl2, -, -⟩ := id hsl
  unfold maxLen at gl2
  clear hsl
  have sz_w4 : w3.heap.size ≤ w4.heap.size := hst.size
  replace q_s := q_s.step hst
  replace q_k := q_k.step hst
  replace O_s := O_s.step hst
  replace hB := hB.step hst
  clear hst
  have HQ := Lib.hid (And.intro q_s (And.intro q_k (And.intro O_s (And.intro S_l hB))))
  clear q_s q_k O_s S_l hB
  have c_q_s0 := LK.cell HQ.out.1 0
  have c_q_s1 := LK.cell HQ.out.1 1
  have c_q_s2 := LK.cell HQ.out.1 2
  have c_q_s3 := LK.cell HQ.out.1 3
  have c_q_k0 := LK.cell HQ.out.2.1 0
  have c_q_k1 := LK.cell HQ.out.2.1 1
  have c_q_k2 := LK.cell HQ.out.2.1 2
  simp at c_q_s0 c_q_s1 c_q_s2 c_q_s3 c_q_k0 c_q_k1 c_q_k2
  go_wp2_with fail
  go_loopw [12, 13] (fun m i wr => ∃ (j : Nat) (c : Bool), j ≤ L.length ∧ i = .int .i64 j ∧ m = .bool c ∧ c = hasK L ⟨k_k, k_i, k_o⟩ j ∧ Below w4.heap.size w4 wr) (fun _ i _ => L.length - (intOf i).toNat)
  case atStart => exact ⟨0, false, Nat.zero_le _, rfl, rfl, rfl, Below.refl _ _⟩
  case round =>
  obtain ⟨j, c, hj, rfl, rfl, hc, hst⟩ := hrel
  clear c_q_s0 c_q_s1 c_q_s2 c_q_s3 c_q_k0 c_q_k1 c_q_k2
  obtain ⟨q_s, q_k, O_s, S_l, hB⟩ := HQ.out
  clear HQ
  replace q_s := q_s.step hst
  replace q_k := q_k.step hst
  replace O_s := O_s.step hst
  replace S_l := S_l.step hst
  replace hB := hB.step hst
  have sz_wr := hst.size
  have hW : LW w4 wr := hst
  clear hst
  have HQ := Lib.hid (And.intro q_s (And.intro q_k (And.intro O_s (And.intro S_l (And.intro hW hB)))))
  clear q_s q_k O_s S_l hW hB
  have c_q_s0 := LK.cell HQ.out.1 0
  have c_q_s1 := LK.cell HQ.out.1 1
  have c_q_s2 := LK.cell HQ.out.1 2
  have c_q_s3 := LK.cell HQ.out.1 3
  have c_q_k0 := LK.cell HQ.out.2.1 0
  have c_q_k1 := LK.cell HQ.out.2.1 1
  have c_q_k2 := LK.cell HQ.out.2.1 2
  simp at c_q_s0 c_q_s1 c_q_s2 c_q_s3 c_q_k0 c_q_k1 c_q_k2
  have HJ := Lib.hid hc
  clear hc
  by_cases hlt : j < L.length
  case pos =>
    obtain ⟨bb, bo, cb, e1, -, zb, -, zc, -⟩ := Sl.at_ HQ.out.2.2.2.1.v (by omega)
    injection e1 with e1 _ e2
    subst e1 e2
    unfold maxLen at zc
    have hcs := hasK_succ L ⟨k_k, k_i, k_o⟩ j hlt
    have ht := HT.out.1 j hlt
    have hr := HT.out.2.1 j
    have hyl := get_l L nokI j hlt
    have hxl := get_l L nokI (j - 1) (by omega)
    obtain ⟨y, hy⟩ : ∃ y, L.getD j nokI = y := ⟨_, rfl⟩
    obtain ⟨x, hx⟩ : ∃ x, L.getD (j - 1) nokI = x := ⟨_, rfl⟩
    rw [hy] at hcs ht hr hyl
    rw [hx] at hr hxl
    have kf := HC.out.2.2.2.1 y
    rw [ht.1, ht.2] at kf
    have KF := Lib.hid kf
    have HY := Lib.hid (And.intro hcs (And.intro hr (And.intro hyl hxl)))
    clear hcs hr hyl hxl kf ht hx hy
    have i6 : (j : Int) < L.length := by omega
    have i7 : ¬ (L.length : Int) ≤ j := by omega
    clear c_q_s0 c_q_s1 c_q_s2 c_q_s3 c_q_k0 c_q_k1 c_q_k2
    go_upto_region 14 with (fail)
    go_cut [87] (fun t wx => t = .bool false ∧ Below wr.heap.size wr wx)
    case first =>
      by_cases hj0 : j = 0
      case pos =>
        subst hj0
        go_quiet (fail)
        go_wp2
        go_meet
        exact ⟨rfl, below_dn _ _ _⟩
      have i8 : ¬ (j : Int) - 1 < 0 := by omega
      have i9 : (0 : Int) < j := by omega
      have i9b : 0 < j := by omega
      have i9c : decide (0 < j) = true := by simp; omega
      have i10 : (j : Int) - 1 = ((j - 1 : Nat) : Int) := by omega
      have i11 : ((j - 1 : Nat) : Int) < L.length := by omega
      have i12 : ¬ (L.length : Int) ≤ ((j - 1 : Nat) : Int) := by omega
      have kl := HC.out.2.2.2.2.2.1 x y
      rw [HY.out.2.1 (by omega) hlt] at kl
      have KL := Lib.hid kl
      clear kl
      obtain ⟨f0, f1, f2, f3, -, fv, f4, fb⟩ := Sl.cellAt HQ.out.2.2.2.1.v j _ HY.out.2.2.1
      have hn5 : rItem.n = 5 := rfl
      rw [hn5] at f0 f1 f2 f3 f4
      simp only [bV, wV, Nat.add_zero] at f0 f1 f2
      clear fb f3 f4
      clear hn5
      obtain ⟨g0, g1, g2, g3, -, gv, g4, gb⟩ := Sl.cellAt HQ.out.2.2.2.1.v (j - 1) _ HY.out.2.2.2
      have hn5 : rItem.n = 5 := rfl
      rw [hn5] at g0 g1 g2 g3 g4
      simp only [bV, wV, Nat.add_zero] at g0 g1 g2
      clear gb g3 g4
      clear hn5
      have zz : bb < wr.heap.size := by omega
      replace f0 := fun X => ((aft_below wr X).cell (p := ⟨bb, bo + j * 5, none⟩) zz).trans f0
      replace f1 := fun X => ((aft_below wr X).cell (p := ⟨bb, bo + j * 5 + 1, none⟩) zz).trans f1
      replace f2 := fun X => ((aft_below wr X).cell (p := ⟨bb, bo + j * 5 + 2, none⟩) zz).trans f2
      clear zz
      have zz : bb < wr.heap.size := by omega
      replace g0 := fun X => ((aft_below wr X).cell (p := ⟨bb, bo + (j - 1) * 5, none⟩) zz).trans g0
      replace g1 := fun X => ((aft_below wr X).cell (p := ⟨bb, bo + (j - 1) * 5 + 1, none⟩) zz).trans g1
      replace g2 := fun X => ((aft_below wr X).cell (p := ⟨bb, bo + (j - 1) * 5 + 2, none⟩) zz).trans g2
      clear zz
      refine wp_region_held_drew (S := Cls wr) (by kernel_rfl) (Cls.drew wr) (fun hCl => ?_)
      refine wpAnyH_seg (fuel := 3) (by kernel_rfl) (fun _ d _ _ _ h => by cases d <;> exact h) hCl [0, 1, 2, 3, 4, 5, 6, 7, 8, 9, 10, 11, 12, 13] _ _ _ (by kernel_rfl) (by kernel_rfl) ?_
      simp only [opsOf_cons, opsOf_nil, consOp_some, List.getElem?_toArray, List.getElem?_cons_succ, List.getElem?_cons_zero]
      repeat (first | go_big_quiet_step (fail) | quiet_step (fail))
      refine wpQuiet_nil ?_
      refine wpAnyH_each (fuel := 2) [14] (by kernel_rfl) (by simp) (by kernel_rfl) ?_
      refine Each.cons _ rfl (fun K' hK => ?_) Each.nil
      go_simp
      refine (KL.out _).mono ?_
      rintro e z1 ⟨rfl, hb⟩
      have hst := below_step hCl.below hCl.below.size hb
      clear hb
      have hCl := Cls.of hst
      refine hK.out (Cls wr) (fun _ h => h) hCl ?_
      clear hK K'
      refine wpAnyH_seg (fuel := 0) (by kernel_rfl) (fun _ d _ _ _ h => by cases d <;> exact h) hCl [15, 16] _ _ _ (by kernel_rfl) (by kernel_rfl) ?_
      simp only [opsOf_cons, opsOf_nil, consOp_some, List.getElem?_toArray, List.getElem?_cons_succ, List.getElem?_cons_zero]
      repeat (first | go_big_quiet_step (fail) | quiet_step (fail))
      refine wpQuiet_nil ?_
      refine wpAnyH_done (by kernel_rfl) ?_ _
      go_wp2
      go_meet
      exact ⟨rfl, hst⟩
    case rest =>
    obtain ⟨rfl, hst⟩ := hcut
    obtain ⟨wn, hwn⟩ := named_w hst
    subst hwn
    obtain ⟨w5, hwn⟩ : ∃ v, v = wn := ⟨_, rfl⟩
    subst hwn
    obtain ⟨q_s, q_k, O_s, S_l, hW, hB⟩ := HQ.out
    clear HQ
    have sz_w5 : wr.heap.size ≤ w5.heap.size := hst.size
    replace q_s := q_s.step hst
    replace q_k := q_k.step hst
    replace O_s := O_s.step hst
    replace S_l := S_l.step hst
    replace hW := hW.step hst
    replace hB := hB.step hst
    clear hst
    have HQ := Lib.hid (And.intro q_s (And.intro q_k (And.intro O_s (And.intro S_l (And.intro hW hB)))))
    clear q_s q_k O_s S_l hW hB
    by_cases h20 : j < 20
    case neg =>
      have i20 : ¬ (j : Int) < 20 := by omega
      have c_q_k0 := LK.cell HQ.out.2.1 0
      have c_q_k1 := LK.cell HQ.out.2.1 1
      have c_q_k2 := LK.cell HQ.out.2.1 2
      simp at c_q_k0 c_q_k1 c_q_k2
      obtain ⟨f0, f1, f2, f3, -, fv, f4, fb⟩ := Sl.cellAt HQ.out.2.2.2.1.v j _ HY.out.2.2.1
      have hn5 : rItem.n = 5 := rfl
      rw [hn5] at f0 f1 f2 f3 f4
      simp only [bV, wV, Nat.add_zero] at f0 f1 f2
      clear fb f3 f4
      clear hn5
      cases c
      case true =>
        go_upto_region 20 with (fail)
        go_quiet (fail)
        go_wp2
        go_roundw
        case rel =>
          refine ⟨j + 1, true, by omega, by go_num, rfl, ?_, Below.trans HQ.out.2.2.2.2.1 (below_dn _ _ _)⟩
          rw [HY.out.1, ← HJ.out]
          rfl
        case measure => simp [intOf]; omega
      case false =>
        by_cases hk : y.key = ⟨k_k, k_i, k_o⟩
        case pos =>
          have ek : ∀ W, (Op.equalIn 10000 48 (.agg #[.int .u8 (y.key.kind.toNat : Int), .int .u32 (y.key.id.toNat : Int), .int .u32 (y.key.off.toNat : Int)]) (.agg #[.int .u8 (k_k.toNat : Int), .int .u32 (k_i.toNat : Int), .int .u32 (k_o.toNat : Int)])).run Try.prog W = .ok true W := fun W => (eq_key y.key ⟨k_k, k_i, k_o⟩ W).trans (congrArg (fun z => Result.ok z W) (decide_eq_true hk))
          go_upto_region 20 with (fail)
          go_quiet (fail)
          go_wp2
          go_roundw
          case rel =>
            refine ⟨j + 1, true, by omega, by go_num, rfl, ?_, Below.trans HQ.out.2.2.2.2.1 (below_dn _ _ _)⟩
            rw [HY.out.1, ← HJ.out]
            rw [decide_eq_true hk]; rfl
          case measure => simp [intOf]; omega
        have ek : ∀ W, (Op.equalIn 10000 48 (.agg #[.int .u8 (y.key.kind.toNat : Int), .int .u32 (y.key.id.toNat : Int), .int .u32 (y.key.off.toNat : Int)]) (.agg #[.int .u8 (k_k.toNat : Int), .int .u32 (k_i.toNat : Int), .int .u32 (k_o.toNat : Int)])).run Try.prog W = .ok false W := fun W => (eq_key y.key ⟨k_k, k_i, k_o⟩ W).trans (congrArg (fun z => Result.ok z W) (decide_eq_false hk))
        go_upto_region 20 with (fail)
        go_quiet (fail)
        go_wp2
        go_roundw
        case rel =>
          refine ⟨j + 1, false, by omega, by go_num, rfl, ?_, Below.trans HQ.out.2.2.2.2.1 (below_dn _ _ _)⟩
          rw [HY.out.1, ← HJ.out]
          rw [decide_eq_false hk]; rfl
        case measure => simp [intOf]; omega
    have i20 : (j : Int) < 20 := by omega
    go_upto_region 17 with (fail)
    go_cut [14, 15] (fun t1 t2 wx => ∃ (g lo hi : Nat) (va : Option Addr) (vc : Nat), t1 = .pointer (some ⟨g, 0, none⟩) ∧ t2 = .int .i64 0 ∧ LK g (.cells #[.int .u8 (y.key.kind.toNat : Int), .int .u32 (y.key.id.toNat : Int), .int .u32 (y.key.off.toNat : Int), .int .i64 y.ref, .slice va y.val.length vc] 56) wx ∧ LB lo hi (.slice va y.val.length vc) y.val wx ∧ Below w5.heap.size w5 wx)
    case first =>
      have x_q_s0 := fun X => LK.cell (HQ.out.1.step (aft_below w5 X)) 0
      have x_q_s1 := fun X => LK.cell (HQ.out.1.step (aft_below w5 X)) 1
      have x_q_s2 := fun X => LK.cell (HQ.out.1.step (aft_below w5 X)) 2
      have x_q_s3 := fun X => LK.cell (HQ.out.1.step (aft_below w5 X)) 3
      simp at x_q_s0 x_q_s1 x_q_s2 x_q_s3
      obtain ⟨f0, f1, f2, f3, -, fv, f4, fb⟩ := Sl.cellAt HQ.out.2.2.2.1.v j _ HY.out.2.2.1
      have hn5 : rItem.n = 5 := rfl
      rw [hn5] at f0 f1 f2 f3 f4
      simp only [bV, wV, Nat.add_zero] at f0 f1 f2
      clear fb f3 f4
      clear hn5
      have zz : bb < w5.heap.size := by omega
      replace f0 := fun X => ((aft_below w5 X).cell (p := ⟨bb, bo + j * 5, none⟩) zz).trans f0
      replace f1 := fun X => ((aft_below w5 X).cell (p := ⟨bb, bo + j * 5 + 1, none⟩) zz).trans f1
      replace f2 := fun X => ((aft_below w5 X).cell (p := ⟨bb, bo + j * 5 + 2, none⟩) zz).trans f2
      clear zz
      refine wp_region_held_drew (S := Cls w5) (by kernel_rfl) (Cls.drew w5) (fun hCl => ?_)
      refine wpAnyH_seg (fuel := 7) (by kernel_rfl) (fun _ d _ _ _ h => by cases d <;> exact h) hCl [0, 1, 2, 3, 4, 5, 6] _ _ _ (by kernel_rfl) (by kernel_rfl) ?_
      simp only [opsOf_cons, opsOf_nil, consOp_some, List.getElem?_toArray, List.getElem?_cons_succ, List.getElem?_cons_zero]
      repeat (first | go_big_quiet_step (fail) | quiet_step (fail))
      refine wpQuiet_nil ?_
      refine wpAnyH_each (fuel := 6) [7, 11] (by kernel_rfl) (by simp) (by kernel_rfl) ?_
      refine Each.cons _ rfl (fun K' hK => ?_) ?_
      · go_simp
        refine (KF.out _ _ _ _ _ (HQ.out.2.2.1.step hCl.below).v).mono ?_
        rintro e z1 ⟨v9, rfl, hm⟩
        have hs := hm.below
        obtain ⟨va, vc, rfl, -, -⟩ := hm.bytes.form rfl
        have F7 := LM.b (LM.of hm)
        have sz_z1 : w5.drew.heap.size ≤ z1.heap.size := hs.size
        have hst := below_step hCl.below hCl.below.size hs
        clear hs
        have hCl := Cls.of hst
        refine hK.out (Cls w5) (fun _ h => h) hCl ?_
        clear hK K'
        refine wpAnyH_seg (fuel := 3) (by kernel_rfl) (fun _ d _ _ _ h => by cases d <;> exact h) hCl [8, 9, 10] _ _ _ (by kernel_rfl) (by kernel_rfl) ?_
        simp only [opsOf_cons, opsOf_nil, consOp_some, List.getElem?_toArray, List.getElem?_cons_succ, List.getElem?_cons_zero]
        repeat (first | go_big_quiet_step (fail) | quiet_step (fail))
        refine wpQuiet_nil ?_
        refine wpAnyH_each (fuel := 2) [11] (by kernel_rfl) (by simp) (by kernel_rfl) ?_
        refine Each.cons _ rfl (fun K' hK => ?_) Each.nil
        go_simp
        have hs := cls_alloc hCl (.cells #[.int .u8 0, .int .u32 0, .int .u32 0, .int .i64 0, .slice none 0 0] 56)
        have F11 : LK z1.heap.size (.cells #[.int .u8 0, .int .u32 0, .int .u32 0, .int .i64 0, .slice none 0 0] 56) _ := cls_new hCl (.cells #[.int .u8 0, .int .u32 0, .int .u32 0, .int .i64 0, .slice none 0 0] 56)
        have hlt : z1.heap.size < (z1.alloc (.cells #[.int .u8 0, .int .u32 0, .int .u32 0, .int .i64 0, .slice none 0 0] 56)).heap.size := by simp
        replace F7 := F7.step hs
        have hst := below_step hCl.below hCl.below.size hs
        have lo_F11 := hCl.below.size
        obtain ⟨z2, hz⟩ : ∃ v, z1.alloc (.cells #[.int .u8 0, .int .u32 0, .int .u32 0, .int .i64 0, .slice none 0 0] 56) = v := ⟨_, rfl⟩
        have hz2 : z1.alloc (.cells #[.int .u8 0, .int .u32 0, .int .u32 0, .int .i64 0, .slice none 0 0] 56) = z2 := hz
        rw [hz] at ⊢
        rw [hz2] at hst hlt F7 F11
        have sz_z2 := hlt
        clear hz hz2 hs hlt
        have hCl := Cls.of hst
        refine hK.out (Cls w5) (fun _ h => h) hCl ?_
        clear hK K'
        refine wpAnyH_each (fuel := 1) [12] (by kernel_rfl) (by simp) (by kernel_rfl) ?_
        refine Each.cons _ rfl (fun K' hK => ?_) Each.nil
        have hcb := LK.blk F11
        have r0 := LK.cell F11 0
        have r1 := LK.cell F11 1
        have r2 := LK.cell F11 2
        have r3 := LK.cell F11 3
        have r4 := LK.cell F11 4
        simp at r0 r1 r2 r3 r4
        have s0 := LK.frozen F11 0
        have s1 := LK.frozen F11 1
        have s2 := LK.frozen F11 2
        have s3 := LK.frozen F11 3
        have s4 := LK.frozen F11 4
        go_simp
        have F12 : LK (z1.heap.size) (.cells #[.int .u8 (y.key.kind.toNat : Int), .int .u32 (y.key.id.toNat : Int), .int .u32 (y.key.off.toNat : Int), .int .i64 y.ref, .slice va y.val.length vc] 56) (((((z2.setCell ⟨z1.heap.size, 0, none⟩ (.int .u8 (y.key.kind.toNat : Int))).setCell ⟨z1.heap.size, 1, none⟩ (.int .u32 (y.key.id.toNat : Int))).setCell ⟨z1.heap.size, 2, none⟩ (.int .u32 (y.key.off.toNat : Int))).setCell ⟨z1.heap.size, 3, none⟩ (.int .i64 y.ref)).setCell ⟨z1.heap.size, 4, none⟩ (.slice va y.val.length vc)) := LK.of (set_block (set_block (set_block (set_block (set_block hcb 0 _) 1 _) 2 _) 3 _) 4 _)
        have hb5 : Below (z1.heap.size) z2 (((((z2.setCell ⟨z1.heap.size, 0, none⟩ (.int .u8 (y.key.kind.toNat : Int))).setCell ⟨z1.heap.size, 1, none⟩ (.int .u32 (y.key.id.toNat : Int))).setCell ⟨z1.heap.size, 2, none⟩ (.int .u32 (y.key.off.toNat : Int))).setCell ⟨z1.heap.size, 3, none⟩ (.int .i64 y.ref)).setCell ⟨z1.heap.size, 4, none⟩ (.slice va y.val.length vc)) := (((((Below.refl (z1.heap.size) z2).setCell (p := ⟨z1.heap.size, 0, none⟩) (Nat.le_refl _) (.int .u8 (y.key.kind.toNat : Int))).setCell (p := ⟨z1.heap.size, 1, none⟩) (Nat.le_refl _) (.int .u32 (y.key.id.toNat : Int))).setCell (p := ⟨z1.heap.size, 2, none⟩) (Nat.le_refl _) (.int .u32 (y.key.off.toNat : Int))).setCell (p := ⟨z1.heap.size, 3, none⟩) (Nat.le_refl _) (.int .i64 y.ref)).setCell (p := ⟨z1.heap.size, 4, none⟩) (Nat.le_refl _) (.slice va y.val.length vc)
        have hst := Below.trans hCl.below (hb5.mono lo_F11)
        have hfr : ∀ x, x < z2.heap.size → (x < z1.heap.size ∨ z1.heap.size + 1 ≤ x) → (((((z2.setCell ⟨z1.heap.size, 0, none⟩ (.int .u8 (y.key.kind.toNat : Int))).setCell ⟨z1.heap.size, 1, none⟩ (.int .u32 (y.key.id.toNat : Int))).setCell ⟨z1.heap.size, 2, none⟩ (.int .u32 (y.key.off.toNat : Int))).setCell ⟨z1.heap.size, 3, none⟩ (.int .i64 y.ref)).setCell ⟨z1.heap.size, 4, none⟩ (.slice va y.val.length vc)).heap[x]? = z2.heap[x]? := fun x _ h => (set_other _ _ _ _ _ (by omega)).trans ((set_other _ _ _ _ _ (by omega)).trans ((set_other _ _ _ _ _ (by omega)).trans ((set_other _ _ _ _ _ (by omega)).trans ((set_other _ _ _ _ _ (by omega))))))
        have F13 := LB.out (V' := (((((z2.setCell ⟨z1.heap.size, 0, none⟩ (.int .u8 (y.key.kind.toNat : Int))).setCell ⟨z1.heap.size, 1, none⟩ (.int .u32 (y.key.id.toNat : Int))).setCell ⟨z1.heap.size, 2, none⟩ (.int .u32 (y.key.off.toNat : Int))).setCell ⟨z1.heap.size, 3, none⟩ (.int .i64 y.ref)).setCell ⟨z1.heap.size, 4, none⟩ (.slice va y.val.length vc))) F7 (by simp only [World.size_setCell]; omega) hfr (by omega)
        clear hb5 hfr hcb r0 r1 r2 r3 r4 s0 s1 s2 s3 s4
        have hCl := Cls.of hst
        refine hK.out (Cls w5) (fun _ h => h) hCl ?_
        clear hK K'
        refine wpAnyH_seg (fuel := 0) (by kernel_rfl) (fun _ d _ _ _ h => by cases d <;> exact h) hCl [13] _ _ _ (by kernel_rfl) (by kernel_rfl) ?_
        simp only [opsOf_cons, opsOf_nil, consOp_some, List.getElem?_toArray, List.getElem?_cons_succ, List.getElem?_cons_zero]
        repeat (first | go_big_quiet_step (fail) | quiet_step (fail))
        refine wpQuiet_nil ?_
        refine wpAnyH_done (by kernel_rfl) ?_ _
        go_wp2
        go_meet
        exact ⟨_, _, _, _, _, rfl, rfl, F12, F13, hst⟩
      refine Each.cons _ rfl (fun K' hK => ?_) ?_
      · go_simp
        have hs := cls_alloc hCl (.cells #[.int .u8 0, .int .u32 0, .int .u32 0, .int .i64 0, .slice none 0 0] 56)
        have F11 : LK w5.heap.size (.cells #[.int .u8 0, .int .u32 0, .int .u32 0, .int .i64 0, .slice none 0 0] 56) _ := cls_new hCl (.cells #[.int .u8 0, .int .u32 0, .int .u32 0, .int .i64 0, .slice none 0 0] 56)
        have hlt : w5.drew.heap.size < (w5.drew.alloc (.cells #[.int .u8 0, .int .u32 0, .int .u32 0, .int .i64 0, .slice none 0 0] 56)).heap.size := by simp
        have hst := below_step hCl.below hCl.below.size hs
        have lo_F11 := hCl.below.size
        obtain ⟨z4, hz⟩ : ∃ v, (w5.alloc (.cells #[.int .u8 0, .int .u32 0, .int .u32 0, .int .i64 0, .slice none 0 0] 56)).drew = v := ⟨_, rfl⟩
        have hz2 : w5.drew.alloc (.cells #[.int .u8 0, .int .u32 0, .int .u32 0, .int .i64 0, .slice none 0 0] 56) = z4 := hz
        rw [hz] at ⊢
        rw [hz2] at hst hlt F11
        have sz_z4 := hlt
        clear hz hz2 hs hlt
        have hCl := Cls.of hst
        refine hK.out (Cls w5) (fun _ h => h) hCl ?_
        clear hK K'
        refine wpAnyH_each (fuel := 5) [7] (by kernel_rfl) (by simp) (by kernel_rfl) ?_
        refine Each.cons _ rfl (fun K' hK => ?_) Each.nil
        go_simp
        refine (KF.out _ _ _ _ _ (HQ.out.2.2.1.step hCl.below).v).mono ?_
        rintro e z5 ⟨v9, rfl, hm⟩
        have hs := hm.below
        obtain ⟨va, vc, rfl, -, -⟩ := hm.bytes.form rfl
        replace F11 := F11.step hs
        have F7 := LM.b (LM.of hm)
        have sz_z5 : z4.heap.size ≤ z5.heap.size := hs.size
        have hst := below_step hCl.below hCl.below.size hs
        clear hs
        have hCl := Cls.of hst
        refine hK.out (Cls w5) (fun _ h => h) hCl ?_
        clear hK K'
        refine wpAnyH_seg (fuel := 2) (by kernel_rfl) (fun _ d _ _ _ h => by cases d <;> exact h) hCl [8, 9, 10] _ _ _ (by kernel_rfl) (by kernel_rfl) ?_
        simp only [opsOf_cons, opsOf_nil, consOp_some, List.getElem?_toArray, List.getElem?_cons_succ, List.getElem?_cons_zero]
        repeat (first | go_big_quiet_step (fail) | quiet_step (fail))
        refine wpQuiet_nil ?_
        refine wpAnyH_each (fuel := 1) [12] (by kernel_rfl) (by simp) (by kernel_rfl) ?_
        refine Each.cons _ rfl (fun K' hK => ?_) Each.nil
        have hcb := LK.blk F11
        have r0 := LK.cell F11 0
        have r1 := LK.cell F11 1
        have r2 := LK.cell F11 2
        have r3 := LK.cell F11 3
        have r4 := LK.cell F11 4
        simp at r0 r1 r2 r3 r4
        have s0 := LK.frozen F11 0
        have s1 := LK.frozen F11 1
        have s2 := LK.frozen F11 2
        have s3 := LK.frozen F11 3
        have s4 := LK.frozen F11 4
        go_simp
        have F12 : LK (w5.heap.size) (.cells #[.int .u8 (y.key.kind.toNat : Int), .int .u32 (y.key.id.toNat : Int), .int .u32 (y.key.off.toNat : Int), .int .i64 y.ref, .slice va y.val.length vc] 56) (((((z5.setCell ⟨w5.heap.size, 0, none⟩ (.int .u8 (y.key.kind.toNat : Int))).setCell ⟨w5.heap.size, 1, none⟩ (.int .u32 (y.key.id.toNat : Int))).setCell ⟨w5.heap.size, 2, none⟩ (.int .u32 (y.key.off.toNat : Int))).setCell ⟨w5.heap.size, 3, none⟩ (.int .i64 y.ref)).setCell ⟨w5.heap.size, 4, none⟩ (.slice va y.val.length vc)) := LK.of (set_block (set_block (set_block (set_block (set_block hcb 0 _) 1 _) 2 _) 3 _) 4 _)
        have hb5 : Below (w5.heap.size) z5 (((((z5.setCell ⟨w5.heap.size, 0, none⟩ (.int .u8 (y.key.kind.toNat : Int))).setCell ⟨w5.heap.size, 1, none⟩ (.int .u32 (y.key.id.toNat : Int))).setCell ⟨w5.heap.size, 2, none⟩ (.int .u32 (y.key.off.toNat : Int))).setCell ⟨w5.heap.size, 3, none⟩ (.int .i64 y.ref)).setCell ⟨w5.heap.size, 4, none⟩ (.slice va y.val.length vc)) := (((((Below.refl (w5.heap.size) z5).setCell (p := ⟨w5.heap.size, 0, none⟩) (Nat.le_refl _) (.int .u8 (y.key.kind.toNat : Int))).setCell (p := ⟨w5.heap.size, 1, none⟩) (Nat.le_refl _) (.int .u32 (y.key.id.toNat : Int))).setCell (p := ⟨w5.heap.size, 2, none⟩) (Nat.le_refl _) (.int .u32 (y.key.off.toNat : Int))).setCell (p := ⟨w5.heap.size, 3, none⟩) (Nat.le_refl _) (.int .i64 y.ref)).setCell (p := ⟨w5.heap.size, 4, none⟩) (Nat.le_refl _) (.slice va y.val.length vc)
        have hst := Below.trans hCl.below (hb5.mono lo_F11)
        have hfr : ∀ x, x < z5.heap.size → (x < w5.heap.size ∨ w5.heap.size + 1 ≤ x) → (((((z5.setCell ⟨w5.heap.size, 0, none⟩ (.int .u8 (y.key.kind.toNat : Int))).setCell ⟨w5.heap.size, 1, none⟩ (.int .u32 (y.key.id.toNat : Int))).setCell ⟨w5.heap.size, 2, none⟩ (.int .u32 (y.key.off.toNat : Int))).setCell ⟨w5.heap.size, 3, none⟩ (.int .i64 y.ref)).setCell ⟨w5.heap.size, 4, none⟩ (.slice va y.val.length vc)).heap[x]? = z5.heap[x]? := fun x _ h => (set_other _ _ _ _ _ (by omega)).trans ((set_other _ _ _ _ _ (by omega)).trans ((set_other _ _ _ _ _ (by omega)).trans ((set_other _ _ _ _ _ (by omega)).trans ((set_other _ _ _ _ _ (by omega))))))
        have F13 := LB.out (V' := (((((z5.setCell ⟨w5.heap.size, 0, none⟩ (.int .u8 (y.key.kind.toNat : Int))).setCell ⟨w5.heap.size, 1, none⟩ (.int .u32 (y.key.id.toNat : Int))).setCell ⟨w5.heap.size, 2, none⟩ (.int .u32 (y.key.off.toNat : Int))).setCell ⟨w5.heap.size, 3, none⟩ (.int .i64 y.ref)).setCell ⟨w5.heap.size, 4, none⟩ (.slice va y.val.length vc))) F7 (by simp only [World.size_setCell]; omega) hfr (by omega)
        clear hb5 hfr hcb r0 r1 r2 r3 r4 s0 s1 s2 s3 s4
        have hCl := Cls.of hst
        refine hK.out (Cls w5) (fun _ h => h) hCl ?_
        clear hK K'
        refine wpAnyH_seg (fuel := 0) (by kernel_rfl) (fun _ d _ _ _ h => by cases d <;> exact h) hCl [13] _ _ _ (by kernel_rfl) (by kernel_rfl) ?_
        simp only [opsOf_cons, opsOf_nil, consOp_some, List.getElem?_toArray, List.getElem?_cons_succ, List.getElem?_cons_zero]
        repeat (first | go_big_quiet_step (fail) | quiet_step (fail))
        refine wpQuiet_nil ?_
        refine wpAnyH_done (by kernel_rfl) ?_ _
        go_wp2
        go_meet
        exact ⟨_, _, _, _, _, rfl, rfl, F12, F13, hst⟩
      exact Each.nil
    case rest =>
    obtain ⟨gx, lox, hix, va, vc, rfl, rfl, q_x, B_x, hst⟩ := hcut
    obtain ⟨wn, hwn⟩ := named_w hst
    subst hwn
    obtain ⟨w6, hwn⟩ : ∃ v, v = wn := ⟨_, rfl⟩
    subst hwn
    obtain ⟨q_s, q_k, O_s, S_l, hW, hB⟩ := HQ.out
    clear HQ
    have sz_w6 : w5.heap.size ≤ w6.heap.size := hst.size
    replace q_s := q_s.step hst
    replace q_k := q_k.step hst
    replace O_s := O_s.step hst
    replace S_l := S_l.step hst
    replace hW := hW.step hst
    replace hB := hB.step hst
    clear hst
    have HQ := Lib.hid (And.intro q_s (And.intro q_k (And.intro O_s (And.intro S_l (And.intro hW (And.intro q_x (And.intro B_x hB)))))))
    clear q_s q_k O_s S_l hW q_x B_x hB
    go_upto_region 18 with (fail)
    go_cut [111] (fun t wx => t = .bool false ∧ Below w6.heap.size w6 wx)
    case first =>
      have x_q_x0 := fun X => LK.cell (HQ.out.2.2.2.2.2.1.step (aft_below w6 X)) 0
      have x_q_x1 := fun X => LK.cell (HQ.out.2.2.2.2.2.1.step (aft_below w6 X)) 1
      have x_q_x2 := fun X => LK.cell (HQ.out.2.2.2.2.2.1.step (aft_below w6 X)) 2
      have x_q_x3 := fun X => LK.cell (HQ.out.2.2.2.2.2.1.step (aft_below w6 X)) 3
      have x_q_x4 := fun X => LK.cell (HQ.out.2.2.2.2.2.1.step (aft_below w6 X)) 4
      simp at x_q_x0 x_q_x1 x_q_x2 x_q_x3 x_q_x4
      obtain ⟨f0, f1, f2, f3, -, fv, f4, fb⟩ := Sl.cellAt HQ.out.2.2.2.1.v j _ HY.out.2.2.1
      have hn5 : rItem.n = 5 := rfl
      rw [hn5] at f0 f1 f2 f3 f4
      simp only [bV, wV, Nat.add_zero] at f0 f1 f2
      obtain ⟨fa, fc, rfl, -, -⟩ := fb.form rfl
      replace fb := Bytes.all0 fb
      clear hn5
      have zz : bb < w6.heap.size := by omega
      replace f0 := fun X => ((aft_below w6 X).cell (p := ⟨bb, bo + j * 5, none⟩) zz).trans f0
      replace f1 := fun X => ((aft_below w6 X).cell (p := ⟨bb, bo + j * 5 + 1, none⟩) zz).trans f1
      replace f2 := fun X => ((aft_below w6 X).cell (p := ⟨bb, bo + j * 5 + 2, none⟩) zz).trans f2
      replace f3 := fun X => ((aft_below w6 X).cell (p := ⟨bb, bo + j * 5 + 3, none⟩) zz).trans f3
      replace f4 := fun X => ((aft_below w6 X).cell (p := ⟨bb, bo + j * 5 + 4, none⟩) zz).trans f4
      clear zz
      refine wp_region_held_drew (S := Cls w6) (by kernel_rfl) (Cls.drew w6) (fun hCl => ?_)
      refine wpAnyH_seg (fuel := 3) (by kernel_rfl) (fun _ d _ _ _ h => by cases d <;> exact h) hCl [0, 1, 2, 3, 4, 5, 6, 7] _ _ _ (by kernel_rfl) (by kernel_rfl) ?_
      simp only [opsOf_cons, opsOf_nil, consOp_some, List.getElem?_toArray, List.getElem?_cons_succ, List.getElem?_cons_zero]
      repeat (first | go_big_quiet_step (fail) | quiet_step (fail))
      refine wpQuiet_nil ?_
      refine wpAnyH_each (fuel := 2) [8] (by kernel_rfl) (by simp) (by kernel_rfl) ?_
      refine Each.cons _ rfl (fun K' hK => ?_) Each.nil
      go_simp
      refine (HC.out.2.2.2.2.2.2 y _ _ _ (HQ.out.2.2.2.2.2.2.1.step hCl.below).v (Bytes.step fb hCl.below)).mono ?_
      rintro e z1 ⟨rfl, hb⟩
      have hst := below_step hCl.below hCl.below.size hb
      clear hb
      have hCl := Cls.of hst
      refine hK.out (Cls w6) (fun _ h => h) hCl ?_
      clear hK K'
      refine wpAnyH_seg (fuel := 0) (by kernel_rfl) (fun _ d _ _ _ h => by cases d <;> exact h) hCl [9, 10] _ _ _ (by kernel_rfl) (by kernel_rfl) ?_
      simp only [opsOf_cons, opsOf_nil, consOp_some, List.getElem?_toArray, List.getElem?_cons_succ, List.getElem?_cons_zero]
      repeat (first | go_big_quiet_step (fail) | quiet_step (fail))
      refine wpQuiet_nil ?_
      refine wpAnyH_done (by kernel_rfl) ?_ _
      go_wp2
      go_meet
      exact ⟨rfl, hst⟩
    case rest =>
    obtain ⟨rfl, hst⟩ := hcut
    obtain ⟨wn, hwn⟩ := named_w hst
    subst hwn
    obtain ⟨w7, hwn⟩ : ∃ v, v = wn := ⟨_, rfl⟩
    subst hwn
    obtain ⟨q_s, q_k, O_s, S_l, hW, q_x, B_x, hB⟩ := HQ.out
    clear HQ
    have sz_w7 : w6.heap.size ≤ w7.heap.size := hst.size
    replace q_s := q_s.step hst
    replace q_k := q_k.step hst
    replace O_s := O_s.step hst
    replace S_l := S_l.step hst
    replace hW := hW.step hst
    replace q_x := q_x.step hst
    replace B_x := B_x.step hst
    replace hB := hB.step hst
    clear hst
    have HQ := Lib.hid (And.intro q_s (And.intro q_k (And.intro O_s (And.intro S_l (And.intro hW (And.intro q_x (And.intro B_x hB)))))))
    clear q_s q_k O_s S_l hW q_x B_x hB
    have c_q_k0 := LK.cell HQ.out.2.1 0
    have c_q_k1 := LK.cell HQ.out.2.1 1
    have c_q_k2 := LK.cell HQ.out.2.1 2
    simp at c_q_k0 c_q_k1 c_q_k2
    obtain ⟨f0, f1, f2, f3, -, fv, f4, fb⟩ := Sl.cellAt HQ.out.2.2.2.1.v j _ HY.out.2.2.1
    have hn5 : rItem.n = 5 := rfl
    rw [hn5] at f0 f1 f2 f3 f4
    simp only [bV, wV, Nat.add_zero] at f0 f1 f2
    clear fb f3 f4
    clear hn5
    cases c
    case true =>
      go_upto_region 20 with (fail)
      go_quiet (fail)
      go_wp2
      go_roundw
      case rel =>
        refine ⟨j + 1, true, by omega, by go_num, rfl, ?_, Below.trans HQ.out.2.2.2.2.1 (below_dn _ _ _)⟩
        rw [HY.out.1, ← HJ.out]
        rfl
      case measure => simp [intOf]; omega
    case false =>
      by_cases hk : y.key = ⟨k_k, k_i, k_o⟩
      case pos =>
        have ek : ∀ W, (Op.equalIn 10000 48 (.agg #[.int .u8 (y.key.kind.toNat : Int), .int .u32 (y.key.id.toNat : Int), .int .u32 (y.key.off.toNat : Int)]) (.agg #[.int .u8 (k_k.toNat : Int), .int .u32 (k_i.toNat : Int), .int .u32 (k_o.toNat : Int)])).run Try.prog W = .ok true W := fun W => (eq_key y.key ⟨k_k, k_i, k_o⟩ W).trans (congrArg (fun z => Result.ok z W) (decide_eq_true hk))
        go_upto_region 20 with (fail)
        go_quiet (fail)
        go_wp2
        go_roundw
        case rel =>
          refine ⟨j + 1, true, by omega, by go_num, rfl, ?_, Below.trans HQ.out.2.2.2.2.1 (below_dn _ _ _)⟩
          rw [HY.out.1, ← HJ.out]
          rw [decide_eq_true hk]; rfl
        case measure => simp [intOf]; omega
      have ek : ∀ W, (Op.equalIn 10000 48 (.agg #[.int .u8 (y.key.kind.toNat : Int), .int .u32 (y.key.id.toNat : Int), .int .u32 (y.key.off.toNat : Int)]) (.agg #[.int .u8 (k_k.toNat : Int), .int .u32 (k_i.toNat : Int), .int .u32 (k_o.toNat : Int)])).run Try.prog W = .ok false W := fun W => (eq_key y.key ⟨k_k, k_i, k_o⟩ W).trans (congrArg (fun z => Result.ok z W) (decide_eq_false hk))
      go_upto_region 20 with (fail)
      go_quiet (fail)
      go_wp2
      go_roundw
      case rel =>
        refine ⟨j + 1, false, by omega, by go_num, rfl, ?_, Below.trans HQ.out.2.2.2.2.1 (below_dn _ _ _)⟩
        rw [HY.out.1, ← HJ.out]
        rw [decide_eq_false hk]; rfl
      case measure => simp [intOf]; omega
  obtain rfl : j = L.length := by omega
  clear c_q_s0 c_q_s1 c_q_s2 c_q_s3 c_q_k0 c_q_k1 c_q_k2
  have c_q_s0 := LK.cell HQ.out.1 0
  have c_q_s1 := LK.cell HQ.out.1 1
  have c_q_s2 := LK.cell HQ.out.1 2
  have c_q_s3 := LK.cell HQ.out.1 3
  have c_q_k0 := LK.cell HQ.out.2.1 0
  have c_q_k1 := LK.cell HQ.out.2.1 1
  have c_q_k2 := LK.cell HQ.out.2.1 2
  simp at c_q_s0 c_q_s1 c_q_s2 c_q_s3 c_q_k0 c_q_k1 c_q_k2
  go_wp2_with fail
  refine (HC.out.2.2.1 _ _ _ _ _ HQ.out.2.2.1.v).mono ?_
  rintro e w5 ⟨v9, rfl, hm⟩
  clear c_q_s0 c_q_s1 c_q_s2 c_q_s3 c_q_k0 c_q_k1 c_q_k2
  obtain ⟨q_s, q_k, O_s, S_l, hW, hB⟩ := HQ.out
  clear HQ
  have hst := hm.below
  have hvb := hm.bytes
  obtain ⟨a_x, c_x, rfl, -, -⟩ := hvb.form rfl
  have B_x := LB.of hvb (Nat.le_refl _)
  clear hvb hm
  have sz_w5 : wr.heap.size ≤ w5.heap.size := hst.size
  replace q_s := q_s.step hst
  replace q_k := q_k.step hst
  replace O_s := O_s.step hst
  replace S_l := S_l.step hst
  replace hW := hW.step hst
  replace hB := hB.step hst
  clear hst
  have HQ := Lib.hid (And.intro q_s (And.intro q_k (And.intro O_s (And.intro S_l (And.intro hW (And.intro B_x hB))))))
  clear q_s q_k O_s S_l hW B_x hB
  have c_q_s0 := LK.cell HQ.out.1 0
  have c_q_s1 := LK.cell HQ.out.1 1
  have c_q_s2 := LK.cell HQ.out.1 2
  have c_q_s3 := LK.cell HQ.out.1 3
  have c_q_k0 := LK.cell HQ.out.2.1 0
  have c_q_k1 := LK.cell HQ.out.2.1 1
  have c_q_k2 := LK.cell HQ.out.2.1 2
  simp at c_q_s0 c_q_s1 c_q_s2 c_q_s3 c_q_k0 c_q_k1 c_q_k2
  go_upto_region 22 with (fail)
  clear c_q_s0 c_q_s1 c_q_s2 c_q_s3 c_q_k0 c_q_k1 c_q_k2
  obtain ⟨q_s, q_k, O_s, S_l, hW, B_x, hB⟩ := HQ.out
  clear HQ
  have hst := (Below.refl w5.heap.size w5).alloc (Nat.le_refl _) (.cells #[.int .u8 (it.key.kind.toNat : Int), .int .u32 (it.key.id.toNat : Int), .int .u32 (it.key.off.toNat : Int), .int .i64 it.ref, .slice a_x it.val.length c_x] 56)
  have hlt : w5.heap.size < (w5.alloc (.cells #[.int .u8 (it.key.kind.toNat : Int), .int .u32 (it.key.id.toNat : Int), .int .u32 (it.key.off.toNat : Int), .int .i64 it.ref, .slice a_x it.val.length c_x] 56)).heap.size := by simp
  have q_x := LK.new w5 (.cells #[.int .u8 (it.key.kind.toNat : Int), .int .u32 (it.key.id.toNat : Int), .int .u32 (it.key.off.toNat : Int), .int .i64 it.ref, .slice a_x it.val.length c_x] 56)
  replace q_s := q_s.step hst
  replace q_k := q_k.step hst
  replace O_s := O_s.step hst
  replace S_l := S_l.step hst
  replace hW := hW.step hst
  replace B_x := B_x.step hst
  replace hB := hB.step hst
  obtain ⟨w6, hw⟩ : ∃ v, w5.alloc (.cells #[.int .u8 (it.key.kind.toNat : Int), .int .u32 (it.key.id.toNat : Int), .int .u32 (it.key.off.toNat : Int), .int .i64 it.ref, .slice a_x it.val.length c_x] 56) = v := ⟨_, rfl⟩
  rw [hw] at hlt q_x q_s q_k O_s S_l hW B_x hB ⊢
  clear hw hst
  have sz_w6 := hlt
  clear hlt
  have HQ := Lib.hid (And.intro q_s (And.intro q_k (And.intro O_s (And.intro S_l (And.intro hW (And.intro B_x (And.intro q_x hB)))))))
  clear q_s q_k O_s S_l hW B_x q_x hB
  have c_q_s0 := LK.cell HQ.out.1 0
  have c_q_s1 := LK.cell HQ.out.1 1
  have c_q_s2 := LK.cell HQ.out.1 2
  have c_q_s3 := LK.cell HQ.out.1 3
  have c_q_k0 := LK.cell HQ.out.2.1 0
  have c_q_k1 := LK.cell HQ.out.2.1 1
  have c_q_k2 := LK.cell HQ.out.2.1 2
  have c_q_x0 := LK.cell HQ.out.2.2.2.2.2.2.1 0
  have c_q_x1 := LK.cell HQ.out.2.2.2.2.2.2.1 1
  have c_q_x2 := LK.cell HQ.out.2.2.2.2.2.2.1 2
  have c_q_x3 := LK.cell HQ.out.2.2.2.2.2.2.1 3
  have c_q_x4 := LK.cell HQ.out.2.2.2.2.2.2.1 4
  simp at c_q_s0 c_q_s1 c_q_s2 c_q_s3 c_q_k0 c_q_k1 c_q_k2 c_q_x0 c_q_x1 c_q_x2 c_q_x3 c_q_x4
  have hF := HT.out.2.2
  rw [← HJ.out] at hF
  rcases hF with ⟨rfl, rfl⟩ | ⟨rfl, rfl⟩
  case inl =>
    go_wp2
    go_ret
    exact ⟨rfl, HQ.out.2.2.2.2.2.2.2⟩
  go_wp2
  go_ret
  exact ⟨rfl, HQ.out.2.2.2.2.2.2.2⟩

end Go.Proofs.Ytcibihakjcenaaa

namespace Go.Proofs.Ytcibihakjcenaaa
open Go.ChangeShapes Go.WideShapes Go.ChangeAt Go.RowKit

theorem own_ : ownKnob Try.prog.godebug = none := by kernel_rfl
theorem laidOut_ : laidOutB Try.prog = true := by kernel_rfl

end Go.Proofs.Ytcibihakjcenaaa

namespace Go.Proofs.Ytcibihakjcenaaa
open Go.ChangeShapes Go.WideShapes Go.ChangeAt Go.RowKit

section
variable {H : Type} {enc : TypeId × Value → H} {W : World} {r : Reach} {base : Nat} {spare : Nat → Bool} {held : Bool} {v : Value} {d : DataW H} {p : List MemPlace}
set_option maxRecDepth 100000 in
theorem arg_key (hv : Value.okWide Try.prog W r base 48 v) (h : DataW.Trod enc Try.prog W 0 spare held 48 v d p) : ∃ k : KeyL, v = .agg #[bV k.kind, wV k.id, wV k.off] := by
  have ht : fieldsOf Try.prog 48 = some [(0, 5), (1, 22), (2, 22)] := by kernel_rfl
  obtain ⟨cs, rfl, hsz⟩ := okW_struct ht hv
  obtain ⟨fuel, hf⟩ := h
  obtain ⟨k, hk⟩ := open_key ht Try.underlying5 Try.underlying22 (by kernel_rfl) (by kernel_rfl) (by kernel_rfl) hf
  refine ⟨k, ?_⟩
  congr 1
  apply Array.toList_inj.1
  exact hk
end
end Go.Proofs.Ytcibihakjcenaaa

namespace Go.Proofs.Ytcibihakjcenaaa
open Go.ChangeShapes Go.WideShapes Go.ChangeAt Go.RowKit

section
variable {H : Type} {enc : TypeId × Value → H} {W : World} {r : Reach} {base : Nat} {spare : Nat → Bool} {held : Bool} {v : Value} {d : DataW H} {p : List MemPlace}
set_option maxRecDepth 100000 in
theorem arg_store (hv : Value.okWide Try.prog W r base 46 v) (h : DataW.Trod enc Try.prog W 0 spare held 46 v d p) :
    ∃ (s : StoreL) (b u x y : Value), v = .agg #[b, u, x, y] ∧ StoreV W 0 W.heap.size b u x y s := by
  have ht : fieldsOf Try.prog 46 = some [(0, 44), (2, 26), (3, 26)] := by kernel_rfl
  have hd : fieldsOf Try.prog 44 = some [(0, 41), (1, 42)] := by kernel_rfl
  have htw : fieldsOf Try.prog 143 = some [(0, 3), (1, 26)] := by kernel_rfl
  have hcb : Try.prog.cellsOf 26 = 1 := by kernel_rfl
  have hcd : Try.prog.cellsOf 44 = 2 := by kernel_rfl
  have ce : Try.prog.cellsOf 46 = 4 := by kernel_rfl
  obtain ⟨cs, rfl, hsz⟩ := okW_struct ht hv
  obtain ⟨fuel, hf⟩ := h
  obtain ⟨hl, n, hf⟩ := trod_parts ht hf
  obtain ⟨y0, h0⟩ := hf (0, 44) (by simp)
  obtain ⟨y1, h1⟩ := hf (2, 26) (by simp)
  obtain ⟨y2, h2⟩ := hf (3, 26) (by simp)
  dsimp only at h0 h1 h2
  rw [hcb] at h1 h2
  rw [hcd] at h0
  rw [ce] at hsz
  obtain ⟨b, u, x, e0, hD⟩ := open_disk hd Try.underlying41 Try.underlying42 (by kernel_rfl) (by kernel_rfl) htw (by kernel_rfl) Try.underlying3 (by kernel_rfl) (by kernel_rfl) (by kernel_rfl) Try.underlying26 Try.underlying5 (by kernel_rfl) h0
  obtain ⟨v1, l1, e1, B1⟩ := open_bytes Try.underlying26 Try.underlying5 (by kernel_rfl) h1
  obtain ⟨v2, l2, e2, B2⟩ := open_bytes Try.underlying26 Try.underlying5 (by kernel_rfl) h2
  refine ⟨⟨x, l1, l2⟩, b, u, v1, v2, ?_, hD, B1, B2⟩
  congr 1
  apply Array.toList_inj.1
  obtain ⟨cl⟩ := cs
  match cl, hsz with
  | [c0, c1, c2, c3], _ =>
    simp [Value.cells] at e0 e1 e2
    simp [e0, e1, e2]
end
end Go.Proofs.Ytcibihakjcenaaa

