/- NodeCodes: the words and contracts, part 20. -/
import Derived.Test.YthealkfpflkipaaNodeCodesQ1
import Derived.Test.YthealkfpflkipaaNodeCodesQ2
import Derived.Test.YthealkfpflkipaaNodeCodesQ3
import Derived.Test.YthealkfpflkipaaNodeCodesQ4
import Derived.Test.YthealkfpflkipaaNodeCodesQ5
import Derived.Test.YthealkfpflkipaaNodeCodesQ6
import Derived.Test.YthealkfpflkipaaNodeCodesQ7
import Derived.Test.YthealkfpflkipaaNodeCodesQ8
import Derived.Test.YthealkfpflkipaaNodeCodesQ9
import Derived.Test.YthealkfpflkipaaNodeCodesQ10
import Derived.Test.YthealkfpflkipaaNodeCodesQ11
import Derived.Test.YthealkfpflkipaaNodeCodesQ12
import Derived.Test.YthealkfpflkipaaNodeCodesQ13
import Derived.Test.YthealkfpflkipaaNodeCodesQ14
import Derived.Test.YthealkfpflkipaaNodeCodesQ15
import Derived.Test.YthealkfpflkipaaNodeCodesQ16
import Derived.Test.YthealkfpflkipaaNodeCodesQ17
import Derived.Test.YthealkfpflkipaaNodeCodesQ18
import Derived.Test.YthealkfpflkipaaNodeCodesQ19
import Derived.WalkKit
import Derived.WalkLawsBesides
import Derived.WalkSpells
import Derived.Lib.Hide
import Derived.Laws.Rows
import Derived.Laws.AppendOwnNone
import Derived.Maps.AppendAt
import Derived.ProofKit
import Derived.Deep.Slices
import Derived.WideShapes
import Derived.RangeFuncNested
import Derived.RangeFuncBound
import Derived.RangeFuncCalls
import Derived.RangeFuncLeaves
import Derived.RangeFuncBox
import Derived.Shelf.Abstract
import Derived.Shelf.RegionOpen
import Derived.OwnWalkIn
import Derived.TacticsInMore
import Derived.LoopNIn
import Derived.LoopIn
import Derived.Lib.AppendZerosOnto
import Derived.Lib.SliceRun
import Derived.Lib.Walk
import Derived.Deep.LoopGhost
import Derived.Laws.CopyOwn
import Derived.Laws.CopyRow
import Derived.OrdersHeld
import Derived.Deep.QuietTactic
import Derived.BigQuiet
import Derived.StillTailTactics
import Derived.OpenShut
import Derived.Deep.DeepCutAuto
import Derived.Deep.RegionHeld
import Derived.Laws.MakeOwn
import Derived.KernelRfl
import Derived.BigFrameIn
namespace Go.Proofs.Ythealkfpflkipaa
open Go.RowKit

set_option linter.unusedSimpArgs false
set_option maxRecDepth 100000 in
set_option maxHeartbeats 4000000 in
theorem nodeCodes_walk (n : NodeL) (u_n : Value) (o : NodeL) (u_o : Value) (k : KeyL) (v_l : Value) (l : List UInt8) (w : World) (h_n : (Lit.int .i64 n.level).wf = true ∧ Sl rItem w 0 w.heap.size u_n n.items) (h_o : (Lit.int .i64 o.level).wf = true ∧ Sl rItem w 0 w.heap.size u_o o.items) (h_l : Bytes w 0 w.heap.size v_l l) :
    Calls Try.prog 4 #[.agg #[.int .i64 n.level, u_n], .agg #[.int .i64 o.level, u_o], .agg #[bV k.kind, wV k.id, wV k.off], v_l] w fun e w' => e = .returned (.bool true) ∧ Below w.heap.size w w' := by
  obtain ⟨hw_n, h_n⟩ := h_n
  obtain ⟨a_n, c_n, rfl, g_n, gm_n, -, -⟩ := id h_n
  unfold maxLen at gm_n
  obtain ⟨hw_o, h_o⟩ := h_o
  obtain ⟨a_o, c_o, rfl, g_o, gm_o, -, -⟩ := id h_o
  unfold maxLen at gm_o
  obtain ⟨k_k, k_i, k_o⟩ := k
  simp only [bV, wV]
  obtain ⟨a_l, c_l, rfl, g_l, gm_l⟩ := h_l.form rfl
  unfold maxLen at gm_l
  have hst := ((((Below.refl w.heap.size w).alloc (Nat.le_refl _) (.cells #[.int .i64 n.level, .slice a_n n.items.length c_n] 54)).alloc (by simp) (.cells #[.int .i64 o.level, .slice a_o o.items.length c_o] 54)).alloc (by simp; omega) (.cells #[.int .u8 (k_k.toNat : Int), .int .u32 (k_i.toNat : Int), .int .u32 (k_o.toNat : Int)] 56))
  have hq := three_new w (.cells #[.int .i64 n.level, .slice a_n n.items.length c_n] 54) (.cells #[.int .i64 o.level, .slice a_o o.items.length c_o] 54) (.cells #[.int .u8 (k_k.toNat : Int), .int .u32 (k_i.toNat : Int), .int .u32 (k_o.toNat : Int)] 56)
  have q_n := LK.of hq.1
  have q_o := LK.of hq.2.1
  have q_k := LK.of hq.2.2
  have hB : LW w _ := hst
  have S_n := (LS.of h_n (Nat.le_refl _)).step hst
  have S_o := (LS.of h_o (Nat.le_refl _)).step hst
  have B_l := (LB.of h_l (Nat.le_refl _)).step hst
  have sz_V : w.heap.size + 2 < (((w.alloc (.cells #[.int .i64 n.level, .slice a_n n.items.length c_n] 54)).alloc (.cells #[.int .i64 o.level, .slice a_o o.items.length c_o] 54)).alloc (.cells #[.int .u8 (k_k.toNat : Int), .int .u32 (k_i.toNat : Int), .int .u32 (k_o.toNat : Int)] 56)).heap.size := by simp
  obtain ⟨V, hV⟩ : ∃ V, (((w.alloc (.cells #[.int .i64 n.level, .slice a_n n.items.length c_n] 54)).alloc (.cells #[.int .i64 o.level, .slice a_o o.items.length c_o] 54)).alloc (.cells #[.int .u8 (k_k.toNat : Int), .int .u32 (k_i.toNat : Int), .int .u32 (k_o.toNat : Int)] 56)) = V := ⟨_, rfl⟩
  rw [hV] at sz_V q_n q_o q_k S_n S_o B_l hB
  clear hst h_n h_o h_l hq
  have HQ := Lib.hid (And.intro q_n (And.intro q_o (And.intro q_k (And.intro S_n (And.intro S_o (And.intro B_l hB))))))
  clear q_n q_o q_k S_n S_o B_l hB
  have c_q_n0 := LK.cell HQ.out.1 0
  have c_q_n1 := LK.cell HQ.out.1 1
  have c_q_o0 := LK.cell HQ.out.2.1 0
  have c_q_o1 := LK.cell HQ.out.2.1 1
  have c_q_k0 := LK.cell HQ.out.2.2.1 0
  have c_q_k1 := LK.cell HQ.out.2.2.1 1
  have c_q_k2 := LK.cell HQ.out.2.2.1 2
  simp at c_q_n0 c_q_n1 c_q_o0 c_q_o1 c_q_k0 c_q_k1 c_q_k2
  have k_g := fun V hh => great6_any (.slice a_n n.items.length c_n) n.items V hh
  have k_h := fun V hh => great6_any (.slice a_o o.items.length c_o) o.items V hh
  have k_w := fun V hh => nwrite_any n (.slice a_n n.items.length c_n) V hh
  have k_x := fun V hh => rnwrite_any n (.slice a_n n.items.length c_n) V hh
  have k_r := fun V v hh => nread_any v l V hh
  have k_t := fun V hh => rnread_any (.slice a_l l.length c_l) l V hh
  have k_p := fun V hh => nplace_any n.level n.items (.slice a_n n.items.length c_n) (⟨k_k, k_i, k_o⟩ : KeyL) V hh
  have k_q := fun V hh => rnplace_any n (.slice a_n n.items.length c_n) (⟨k_k, k_i, k_o⟩ : KeyL) V hh
  have k_c := fun V hh => ncheck_any n (.slice a_n n.items.length c_n) V hh
  have k_d := fun V hh => rncheck6_any n (.slice a_n n.items.length c_n) V hh
  have k_a := fun V h1 h2 => nsame_any n o (.slice a_n n.items.length c_n) (.slice a_o o.items.length c_o) V h1 h2
  have k_b := fun V h1 h2 => rnsame_any n o (.slice a_n n.items.length c_n) (.slice a_o o.items.length c_o) V h1 h2
  have k_s := fun V v u h1 h2 => rnsame_any (readNd l) (readNd l) v u V h1 h2
  have k_y := fun V v h1 h2 => rnsame_any n n v (.slice a_n n.items.length c_n) V h1 h2
  simp only [decide_true] at k_s k_y
  have k_tw := fun hf V hh => ntwin_any n (.slice a_n n.items.length c_n) V hh hf
  have k_rt := fun hf V hh => rntwin_any n (.slice a_n n.items.length c_n) V hh hf
  generalize decide (n = o) = so at *
  obtain ⟨BN, hBN⟩ : ∃ b, blockN n = b := ⟨_, rfl⟩
  obtain ⟨R, hR⟩ : ∃ b, readNd l = b := ⟨_, rfl⟩
  obtain ⟨er, her⟩ : ∃ b, errNd l = b := ⟨_, rfl⟩
  obtain ⟨en, hen⟩ : ∃ b, mayE (mayN n) = b := ⟨_, rfl⟩
  obtain ⟨ct, hct⟩ : ∃ b, cntN n.items (⟨k_k, k_i, k_o⟩ : KeyL) = b := ⟨_, rfl⟩
  obtain ⟨it, hit⟩ : ∃ b, isN n.items (⟨k_k, k_i, k_o⟩ : KeyL) = b := ⟨_, rfl⟩
  rw [hBN] at k_w k_x
  rw [hR] at k_r k_t k_s
  rw [her] at k_r k_t
  rw [hen] at k_w k_x k_c k_d
  simp only [hct, hit, keyV, bV, wV] at k_p k_q
  clear hBN hR her hen hct hit
  have HC := Lib.hid (And.intro k_g (And.intro k_h (And.intro k_w (And.intro k_x (And.intro k_r (And.intro k_t (And.intro k_p (And.intro k_q (And.intro k_c (And.intro k_d (And.intro k_a (And.intro k_b (And.intro k_s (And.intro k_y (And.intro k_tw k_rt)))))))))))))))
  clear k_g k_h k_w k_x k_r k_t k_p k_q k_c k_d k_a k_b k_s k_y k_tw k_rt
  go_enter Try.func4, Try.ntmps4
  go_upto_region 1 with (fail)
  clear hV
  go_wp2_with fail
  refine (HC.out.1 _ HQ.out.2.2.2.1.v).mono ?_
  rintro e w1 ⟨g, rfl, hst, hg⟩
  clear c_q_n0 c_q_n1 c_q_o0 c_q_o1 c_q_k0 c_q_k1 c_q_k2
  obtain ⟨q_n, q_o, q_k, S_n, S_o, B_l, hB⟩ := HQ.out
  clear HQ
  have sz_w1 : V.heap.size ≤ w1.heap.size := hst.size
  replace q_n := q_n.step hst
  replace q_o := q_o.step hst
  replace q_k := q_k.step hst
  replace S_n := S_n.step hst
  replace S_o := S_o.step hst
  replace B_l := B_l.step hst
  replace hB := hB.step hst
  clear hst
  have HQ := Lib.hid (And.intro q_n (And.intro q_o (And.intro q_k (And.intro S_n (And.intro S_o (And.intro B_l hB))))))
  clear q_n q_o q_k S_n S_o B_l hB
  have c_q_n0 := LK.cell HQ.out.1 0
  have c_q_n1 := LK.cell HQ.out.1 1
  have c_q_o0 := LK.cell HQ.out.2.1 0
  have c_q_o1 := LK.cell HQ.out.2.1 1
  have c_q_k0 := LK.cell HQ.out.2.2.1 0
  have c_q_k1 := LK.cell HQ.out.2.2.1 1
  have c_q_k2 := LK.cell HQ.out.2.2.1 2
  simp at c_q_n0 c_q_n1 c_q_o0 c_q_o1 c_q_k0 c_q_k1 c_q_k2
  cases g
  case true =>
    go_wp2
    go_ret
    exact ⟨rfl, HQ.out.2.2.2.2.2.2⟩
  have HG := Lib.hid (hg rfl)
  clear hg
  go_wp2_with fail
  refine (HC.out.2.1 _ HQ.out.2.2.2.2.1.v).mono ?_
  rintro e w2 ⟨g, rfl, hst, -⟩
  clear c_q_n0 c_q_n1 c_q_o0 c_q_o1 c_q_k0 c_q_k1 c_q_k2
  obtain ⟨q_n, q_o, q_k, S_n, S_o, B_l, hB⟩ := HQ.out
  clear HQ
  have sz_w2 : w1.heap.size ≤ w2.heap.size := hst.size
  replace q_n := q_n.step hst
  replace q_o := q_o.step hst
  replace q_k := q_k.step hst
  replace S_n := S_n.step hst
  replace S_o := S_o.step hst
  replace B_l := B_l.step hst
  replace hB := hB.step hst
  clear hst
  have HQ := Lib.hid (And.intro q_n (And.intro q_o (And.intro q_k (And.intro S_n (And.intro S_o (And.intro B_l hB))))))
  clear q_n q_o q_k S_n S_o B_l hB
  have c_q_n0 := LK.cell HQ.out.1 0
  have c_q_n1 := LK.cell HQ.out.1 1
  have c_q_o0 := LK.cell HQ.out.2.1 0
  have c_q_o1 := LK.cell HQ.out.2.1 1
  have c_q_k0 := LK.cell HQ.out.2.2.1 0
  have c_q_k1 := LK.cell HQ.out.2.2.1 1
  have c_q_k2 := LK.cell HQ.out.2.2.1 2
  simp at c_q_n0 c_q_n1 c_q_o0 c_q_o1 c_q_k0 c_q_k1 c_q_k2
  cases g
  case true =>
    go_wp2
    go_ret
    exact ⟨rfl, HQ.out.2.2.2.2.2.2⟩
  by_cases hl : 10000 < l.length
  · have i1 : (10000 : Int) < l.length := by omega
    go_wp2
    go_ret
    exact ⟨rfl, HQ.out.2.2.2.2.2.2⟩
  have i1 : ¬ (10000 : Int) < l.length := by omega
  go_upto_region 4 with (at_builtin; refine wpList_appB rfl _ _ 22 rfl w2.heap.size 5 Try.underlying22 info_u8 _ [] rfl (OwnB.nil_ _ _ _) 0 w2.heap.size _ l rfl HQ.out.2.2.2.2.2.1.v (by show 0 + l.length ≤ _; omega) (Nat.le_refl _) ?_; intro ov wo hown hst; rw [List.nil_append] at hown; have hm := OwnB.made hown hst; clear hown)
  clear c_q_n0 c_q_n1 c_q_o0 c_q_o1 c_q_k0 c_q_k1 c_q_k2
  obtain ⟨q_n, q_o, q_k, S_n, S_o, B_l, hB⟩ := HQ.out
  clear HQ
  have B_o := LM.of hm
  obtain ⟨a_v, c_v, rfl, -, -⟩ := hm.bytes.form rfl
  have sz_wo := hst.size
  replace q_n := q_n.step hst
  replace q_o := q_o.step hst
  replace q_k := q_k.step hst
  replace S_n := S_n.step hst
  replace S_o := S_o.step hst
  replace B_l := B_l.step hst
  replace hB := hB.step hst
  clear hst hm i1 hl
  have HQ := Lib.hid (And.intro q_n (And.intro q_o (And.intro q_k (And.intro S_n (And.intro S_o (And.intro B_l (And.intro B_o hB)))))))
  clear q_n q_o q_k S_n S_o B_l B_o hB
  have c_q_n0 := LK.cell HQ.out.1 0
  have c_q_n1 := LK.cell HQ.out.1 1
  have c_q_o0 := LK.cell HQ.out.2.1 0
  have c_q_o1 := LK.cell HQ.out.2.1 1
  have c_q_k0 := LK.cell HQ.out.2.2.1 0
  have c_q_k1 := LK.cell HQ.out.2.2.1 1
  have c_q_k2 := LK.cell HQ.out.2.2.1 2
  simp at c_q_n0 c_q_n1 c_q_o0 c_q_o1 c_q_k0 c_q_k1 c_q_k2
  go_wp2_with fail
  refine (HC.out.2.2.1 _ HQ.out.2.2.2.1.v).mono ?_
  rintro e w3 ⟨v_w, rfl, hm⟩
  clear c_q_n0 c_q_n1 c_q_o0 c_q_o1 c_q_k0 c_q_k1 c_q_k2
  obtain ⟨q_n, q_o, q_k, S_n, S_o, B_l, B_o, hB⟩ := HQ.out
  clear HQ
  have B_w := LM.of hm
  have hst := hm.below
  obtain ⟨a_w, c_w, rfl, -, -⟩ := hm.bytes.form rfl
  clear hm
  have sz_w3 : wo.heap.size ≤ w3.heap.size := hst.size
  replace q_n := q_n.step hst
  replace q_o := q_o.step hst
  replace q_k := q_k.step hst
  replace S_n := S_n.step hst
  replace S_o := S_o.step hst
  replace B_l := B_l.step hst
  replace B_o := B_o.step hst
  replace hB := hB.step hst
  clear hst
  have HQ := Lib.hid (And.intro q_n (And.intro q_o (And.intro q_k (And.intro S_n (And.intro S_o (And.intro B_l (And.intro B_o (And.intro B_w hB))))))))
  clear q_n q_o q_k S_n S_o B_l B_o B_w hB
  have c_q_n0 := LK.cell HQ.out.1 0
  have c_q_n1 := LK.cell HQ.out.1 1
  have c_q_o0 := LK.cell HQ.out.2.1 0
  have c_q_o1 := LK.cell HQ.out.2.1 1
  have c_q_k0 := LK.cell HQ.out.2.2.1 0
  have c_q_k1 := LK.cell HQ.out.2.2.1 1
  have c_q_k2 := LK.cell HQ.out.2.2.1 2
  simp at c_q_n0 c_q_n1 c_q_o0 c_q_o1 c_q_k0 c_q_k1 c_q_k2
  go_wp2_with fail
  refine (HC.out.2.2.2.1 _ HQ.out.2.2.2.1.v).mono ?_
  rintro e w4 ⟨v_x, rfl, hm⟩
  clear c_q_n0 c_q_n1 c_q_o0 c_q_o1 c_q_k0 c_q_k1 c_q_k2
  obtain ⟨q_n, q_o, q_k, S_n, S_o, B_l, B_o, B_w, hB⟩ := HQ.out
  clear HQ
  have B_x := LM.of hm
  have hst := hm.below
  obtain ⟨a_x, c_x, rfl, -, -⟩ := hm.bytes.form rfl
  clear hm
  have sz_w4 : w3.heap.size ≤ w4.heap.size := hst.size
  replace q_n := q_n.step hst
  replace q_o := q_o.step hst
  replace q_k := q_k.step hst
  replace S_n := S_n.step hst
  replace S_o := S_o.step hst
  replace B_l := B_l.step hst
  replace B_o := B_o.step hst
  replace B_w := B_w.step hst
  replace hB := hB.step hst
  clear hst
  have HQ := Lib.hid (And.intro q_n (And.intro q_o (And.intro q_k (And.intro S_n (And.intro S_o (And.intro B_l (And.intro B_o (And.intro B_w (And.intro B_x hB)))))))))
  clear q_n q_o q_k S_n S_o B_l B_o B_w B_x hB
  have c_q_n0 := LK.cell HQ.out.1 0
  have c_q_n1 := LK.cell HQ.out.1 1
  have c_q_o0 := LK.cell HQ.out.2.1 0
  have c_q_o1 := LK.cell HQ.out.2.1 1
  have c_q_k0 := LK.cell HQ.out.2.2.1 0
  have c_q_k1 := LK.cell HQ.out.2.2.1 1
  have c_q_k2 := LK.cell HQ.out.2.2.1 2
  simp at c_q_n0 c_q_n1 c_q_o0 c_q_o1 c_q_k0 c_q_k1 c_q_k2
  go_wp2_with fail
  refine (HC.out.2.2.2.2.1 _ _ HQ.out.2.2.2.2.2.2.1.v).mono ?_
  rintro e w5 ⟨u_r, rfl, hm⟩
  clear c_q_n0 c_q_n1 c_q_o0 c_q_o1 c_q_k0 c_q_k1 c_q_k2
  obtain ⟨q_n, q_o, q_k, S_n, S_o, B_l, B_o, B_w, B_x, hB⟩ := HQ.out
  clear HQ
  have S_r := LS.of (sl_itemT hm.items) (Nat.le_refl _)
  have I_r := LI.of hm
  have hst := hm.below
  obtain ⟨a_r, c_r, rfl, -, -, -, -⟩ := id hm.items
  clear hm
  have sz_w5 : w4.heap.size ≤ w5.heap.size := hst.size
  replace q_n := q_n.step hst
  replace q_o := q_o.step hst
  replace q_k := q_k.step hst
  replace S_n := S_n.step hst
  replace S_o := S_o.step hst
  replace B_l := B_l.step hst
  replace B_o := B_o.step hst
  replace B_w := B_w.step hst
  replace B_x := B_x.step hst
  replace hB := hB.step hst
  clear hst
  have HQ := Lib.hid (And.intro q_n (And.intro q_o (And.intro q_k (And.intro S_n (And.intro S_o (And.intro B_l (And.intro B_o (And.intro B_w (And.intro B_x (And.intro S_r (And.intro I_r hB)))))))))))
  clear q_n q_o q_k S_n S_o B_l B_o B_w B_x S_r I_r hB
  have c_q_n0 := LK.cell HQ.out.1 0
  have c_q_n1 := LK.cell HQ.out.1 1
  have c_q_o0 := LK.cell HQ.out.2.1 0
  have c_q_o1 := LK.cell HQ.out.2.1 1
  have c_q_k0 := LK.cell HQ.out.2.2.1 0
  have c_q_k1 := LK.cell HQ.out.2.2.1 1
  have c_q_k2 := LK.cell HQ.out.2.2.1 2
  simp at c_q_n0 c_q_n1 c_q_o0 c_q_o1 c_q_k0 c_q_k1 c_q_k2
  go_upto_region 7 with (fail)
  clear c_q_n0 c_q_n1 c_q_o0 c_q_o1 c_q_k0 c_q_k1 c_q_k2
  obtain ⟨q_n, q_o, q_k, S_n, S_o, B_l, B_o, B_w, B_x, S_r, I_r, hB⟩ := HQ.out
  clear HQ
  have hst := (Below.refl w5.heap.size w5).alloc (Nat.le_refl _) (.cells #[.int .i64 R.level, .slice a_r R.items.length c_r] 54)
  have hlt : w5.heap.size < (w5.alloc (.cells #[.int .i64 R.level, .slice a_r R.items.length c_r] 54)).heap.size := by simp
  have q_r := LK.new w5 (.cells #[.int .i64 R.level, .slice a_r R.items.length c_r] 54)
  replace q_n := q_n.step hst
  replace q_o := q_o.step hst
  replace q_k := q_k.step hst
  replace S_n := S_n.step hst
  replace S_o := S_o.step hst
  replace B_l := B_l.step hst
  replace B_o := B_o.step hst
  replace B_w := B_w.step hst
  replace B_x := B_x.step hst
  replace S_r := S_r.step hst
  replace I_r := I_r.step hst
  replace hB := hB.step hst
  obtain ⟨w6, hw⟩ : ∃ v, w5.alloc (.cells #[.int .i64 R.level, .slice a_r R.items.length c_r] 54) = v := ⟨_, rfl⟩
  rw [hw] at hlt q_r q_n q_o q_k S_n S_o B_l B_o B_w B_x S_r I_r hB ⊢
  clear hw hst
  have sz_w6 := hlt
  clear hlt
  have HQ := Lib.hid (And.intro q_n (And.intro q_o (And.intro q_k (And.intro S_n (And.intro S_o (And.intro B_l (And.intro B_o (And.intro B_w (And.intro B_x (And.intro S_r (And.intro I_r (And.intro q_r hB))))))))))))
  clear q_n q_o q_k S_n S_o B_l B_o B_w B_x S_r I_r q_r hB
  have c_q_n0 := LK.cell HQ.out.1 0
  have c_q_n1 := LK.cell HQ.out.1 1
  have c_q_o0 := LK.cell HQ.out.2.1 0
  have c_q_o1 := LK.cell HQ.out.2.1 1
  have c_q_k0 := LK.cell HQ.out.2.2.1 0
  have c_q_k1 := LK.cell HQ.out.2.2.1 1
  have c_q_k2 := LK.cell HQ.out.2.2.1 2
  have c_q_r0 := LK.cell HQ.out.2.2.2.2.2.2.2.2.2.2.2.1 0
  have c_q_r1 := LK.cell HQ.out.2.2.2.2.2.2.2.2.2.2.2.1 1
  simp at c_q_n0 c_q_n1 c_q_o0 c_q_o1 c_q_k0 c_q_k1 c_q_k2 c_q_r0 c_q_r1
  go_wp2_with fail
  refine (HC.out.2.2.2.2.2.1 _ HQ.out.2.2.2.2.2.1.v).mono ?_
  rintro e w7 ⟨u_s, rfl, hm, hst⟩
  clear c_q_n0 c_q_n1 c_q_o0 c_q_o1 c_q_k0 c_q_k1 c_q_k2 c_q_r0 c_q_r1
  obtain ⟨q_n, q_o, q_k, S_n, S_o, B_l, B_o, B_w, B_x, S_r, I_r, q_r, hB⟩ := HQ.out
  clear HQ
  have S_s := LS.of hm (Nat.le_refl _)
  obtain ⟨a_s, c_s, rfl, -, -, -, -⟩ := id hm
  clear hm
  have sz_w7 : w6.heap.size ≤ w7.heap.size := hst.size
  replace q_n := q_n.step hst
  replace q_o := q_o.step hst
  replace q_k := q_k.step hst
  replace S_n := S_n.step hst
  replace S_o := S_o.step hst
  replace B_l := B_l.step hst
  replace B_o := B_o.step hst
  replace B_w := B_w.step hst
  replace B_x := B_x.step hst
  replace S_r := S_r.step hst
  replace I_r := I_r.step hst
  replace q_r := q_r.step hst
  replace hB := hB.step hst
  clear hst
  have HQ := Lib.hid (And.intro q_n (And.intro q_o (And.intro q_k (And.intro S_n (And.intro S_o (And.intro B_l (And.intro B_o (And.intro B_w (And.intro B_x (And.intro S_r (And.intro I_r (And.intro q_r (And.intro S_s hB)))))))))))))
  clear q_n q_o q_k S_n S_o B_l B_o B_w B_x S_r I_r q_r S_s hB
  have c_q_n0 := LK.cell HQ.out.1 0
  have c_q_n1 := LK.cell HQ.out.1 1
  have c_q_o0 := LK.cell HQ.out.2.1 0
  have c_q_o1 := LK.cell HQ.out.2.1 1
  have c_q_k0 := LK.cell HQ.out.2.2.1 0
  have c_q_k1 := LK.cell HQ.out.2.2.1 1
  have c_q_k2 := LK.cell HQ.out.2.2.1 2
  have c_q_r0 := LK.cell HQ.out.2.2.2.2.2.2.2.2.2.2.2.1 0
  have c_q_r1 := LK.cell HQ.out.2.2.2.2.2.2.2.2.2.2.2.1 1
  simp at c_q_n0 c_q_n1 c_q_o0 c_q_o1 c_q_k0 c_q_k1 c_q_k2 c_q_r0 c_q_r1
  go_upto_region 8 with (fail)
  clear c_q_n0 c_q_n1 c_q_o0 c_q_o1 c_q_k0 c_q_k1 c_q_k2 c_q_r0 c_q_r1
  obtain ⟨q_n, q_o, q_k, S_n, S_o, B_l, B_o, B_w, B_x, S_r, I_r, q_r, S_s, hB⟩ := HQ.out
  clear HQ
  have hst := (Below.refl w7.heap.size w7).alloc (Nat.le_refl _) (.cells #[.int .i64 R.level, .slice a_s R.items.length c_s] 54)
  have hlt : w7.heap.size < (w7.alloc (.cells #[.int .i64 R.level, .slice a_s R.items.length c_s] 54)).heap.size := by simp
  have q_s := LK.new w7 (.cells #[.int .i64 R.level, .slice a_s R.items.length c_s] 54)
  replace q_n := q_n.step hst
  replace q_o := q_o.step hst
  replace q_k := q_k.step hst
  replace S_n := S_n.step hst
  replace S_o := S_o.step hst
  replace B_l := B_l.step hst
  replace B_o := B_o.step hst
  replace B_w := B_w.step hst
  replace B_x := B_x.step hst
  replace S_r := S_r.step hst
  replace I_r := I_r.step hst
  replace q_r := q_r.step hst
  replace S_s := S_s.step hst
  replace hB := hB.step hst
  obtain ⟨w8, hw⟩ : ∃ v, w7.alloc (.cells #[.int .i64 R.level, .slice a_s R.items.length c_s] 54) = v := ⟨_, rfl⟩
  rw [hw] at hlt q_s q_n q_o q_k S_n S_o B_l B_o B_w B_x S_r I_r q_r S_s hB ⊢
  clear hw hst
  have sz_w8 := hlt
  clear hlt
  have HQ := Lib.hid (And.intro q_n (And.intro q_o (And.intro q_k (And.intro S_n (And.intro S_o (And.intro B_l (And.intro B_o (And.intro B_w (And.intro B_x (And.intro S_r (And.intro I_r (And.intro q_r (And.intro S_s (And.intro q_s hB))))))))))))))
  clear q_n q_o q_k S_n S_o B_l B_o B_w B_x S_r I_r q_r S_s q_s hB
  have c_q_n0 := LK.cell HQ.out.1 0
  have c_q_n1 := LK.cell HQ.out.1 1
  have c_q_o0 := LK.cell HQ.out.2.1 0
  have c_q_o1 := LK.cell HQ.out.2.1 1
  have c_q_k0 := LK.cell HQ.out.2.2.1 0
  have c_q_k1 := LK.cell HQ.out.2.2.1 1
  have c_q_k2 := LK.cell HQ.out.2.2.1 2
  have c_q_r0 := LK.cell HQ.out.2.2.2.2.2.2.2.2.2.2.2.1 0
  have c_q_r1 := LK.cell HQ.out.2.2.2.2.2.2.2.2.2.2.2.1 1
  have c_q_s0 := LK.cell HQ.out.2.2.2.2.2.2.2.2.2.2.2.2.2.1 0
  have c_q_s1 := LK.cell HQ.out.2.2.2.2.2.2.2.2.2.2.2.2.2.1 1
  simp at c_q_n0 c_q_n1 c_q_o0 c_q_o1 c_q_k0 c_q_k1 c_q_k2 c_q_r0 c_q_r1 c_q_s0 c_q_s1
  go_wp2_with fail
  refine (HC.out.2.2.2.2.2.2.1 _ HQ.out.2.2.2.1.v).mono ?_
  rintro e w9 ⟨rfl, hst⟩
  clear c_q_n0 c_q_n1 c_q_o0 c_q_o1 c_q_k0 c_q_k1 c_q_k2 c_q_r0 c_q_r1 c_q_s0 c_q_s1
  obtain ⟨q_n, q_o, q_k, S_n, S_o, B_l, B_o, B_w, B_x, S_r, I_r, q_r, S_s, q_s, hB⟩ := HQ.out
  clear HQ
  have sz_w9 : w8.heap.size ≤ w9.heap.size := hst.size
  replace q_n := q_n.step hst
  replace q_o := q_o.step hst
  replace q_k := q_k.step hst
  replace S_n := S_n.step hst
  replace S_o := S_o.step hst
  replace B_l := B_l.step hst
  replace B_o := B_o.step hst
  replace B_w := B_w.step hst
  replace B_x := B_x.step hst
  replace S_r := S_r.step hst
  replace I_r := I_r.step hst
  replace q_r := q_r.step hst
  replace S_s := S_s.step hst
  replace q_s := q_s.step hst
  replace hB := hB.step hst
  clear hst
  have HQ := Lib.hid (And.intro q_n (And.intro q_o (And.intro q_k (And.intro S_n (And.intro S_o (And.intro B_l (And.intro B_o (And.intro B_w (And.intro B_x (And.intro S_r (And.intro I_r (And.intro q_r (And.intro S_s (And.intro q_s hB))))))))))))))
  clear q_n q_o q_k S_n S_o B_l B_o B_w B_x S_r I_r q_r S_s q_s hB
  have c_q_n0 := LK.cell HQ.out.1 0
  have c_q_n1 := LK.cell HQ.out.1 1
  have c_q_o0 := LK.cell HQ.out.2.1 0
  have c_q_o1 := LK.cell HQ.out.2.1 1
  have c_q_k0 := LK.cell HQ.out.2.2.1 0
  have c_q_k1 := LK.cell HQ.out.2.2.1 1
  have c_q_k2 := LK.cell HQ.out.2.2.1 2
  have c_q_r0 := LK.cell HQ.out.2.2.2.2.2.2.2.2.2.2.2.1 0
  have c_q_r1 := LK.cell HQ.out.2.2.2.2.2.2.2.2.2.2.2.1 1
  have c_q_s0 := LK.cell HQ.out.2.2.2.2.2.2.2.2.2.2.2.2.2.1 0
  have c_q_s1 := LK.cell HQ.out.2.2.2.2.2.2.2.2.2.2.2.2.2.1 1
  simp at c_q_n0 c_q_n1 c_q_o0 c_q_o1 c_q_k0 c_q_k1 c_q_k2 c_q_r0 c_q_r1 c_q_s0 c_q_s1
  go_wp2_with fail
  refine (HC.out.2.2.2.2.2.2.2.1 _ HQ.out.2.2.2.1.v).mono ?_
  rintro e w10 ⟨rfl, hst⟩
  clear c_q_n0 c_q_n1 c_q_o0 c_q_o1 c_q_k0 c_q_k1 c_q_k2 c_q_r0 c_q_r1 c_q_s0 c_q_s1
  obtain ⟨q_n, q_o, q_k, S_n, S_o, B_l, B_o, B_w, B_x, S_r, I_r, q_r, S_s, q_s, hB⟩ := HQ.out
  clear HQ
  have sz_w10 : w9.heap.size ≤ w10.heap.size := hst.size
  replace q_n := q_n.step hst
  replace q_o := q_o.step hst
  replace q_k := q_k.step hst
  replace S_n := S_n.step hst
  replace S_o := S_o.step hst
  replace B_l := B_l.step hst
  replace B_o := B_o.step hst
  replace B_w := B_w.step hst
  replace B_x := B_x.step hst
  replace S_r := S_r.step hst
  replace I_r := I_r.step hst
  replace q_r := q_r.step hst
  replace S_s := S_s.step hst
  replace q_s := q_s.step hst
  replace hB := hB.step hst
  clear hst
  have HQ := Lib.hid (And.intro q_n (And.intro q_o (And.intro q_k (And.intro S_n (And.intro S_o (And.intro B_l (And.intro B_o (And.intro B_w (And.intro B_x (And.intro S_r (And.intro I_r (And.intro q_r (And.intro S_s (And.intro q_s hB))))))))))))))
  clear q_n q_o q_k S_n S_o B_l B_o B_w B_x S_r I_r q_r S_s q_s hB
  have c_q_n0 := LK.cell HQ.out.1 0
  have c_q_n1 := LK.cell HQ.out.1 1
  have c_q_o0 := LK.cell HQ.out.2.1 0
  have c_q_o1 := LK.cell HQ.out.2.1 1
  have c_q_k0 := LK.cell HQ.out.2.2.1 0
  have c_q_k1 := LK.cell HQ.out.2.2.1 1
  have c_q_k2 := LK.cell HQ.out.2.2.1 2
  have c_q_r0 := LK.cell HQ.out.2.2.2.2.2.2.2.2.2.2.2.1 0
  have c_q_r1 := LK.cell HQ.out.2.2.2.2.2.2.2.2.2.2.2.1 1
  have c_q_s0 := LK.cell HQ.out.2.2.2.2.2.2.2.2.2.2.2.2.2.1 0
  have c_q_s1 := LK.cell HQ.out.2.2.2.2.2.2.2.2.2.2.2.2.2.1 1
  simp at c_q_n0 c_q_n1 c_q_o0 c_q_o1 c_q_k0 c_q_k1 c_q_k2 c_q_r0 c_q_r1 c_q_s0 c_q_s1
  go_upto_region 10 with (fail)
  clear c_q_n0 c_q_n1 c_q_o0 c_q_o1 c_q_k0 c_q_k1 c_q_k2 c_q_r0 c_q_r1 c_q_s0 c_q_s1
  have x_q_n0 := fun X => LK.cell (HQ.out.1.step (aft_below w10 X)) 0
  have x_q_n1 := fun X => LK.cell (HQ.out.1.step (aft_below w10 X)) 1
  have x_q_o0 := fun X => LK.cell (HQ.out.2.1.step (aft_below w10 X)) 0
  have x_q_o1 := fun X => LK.cell (HQ.out.2.1.step (aft_below w10 X)) 1
  have x_q_r0 := fun X => LK.cell (HQ.out.2.2.2.2.2.2.2.2.2.2.2.1.step (aft_below w10 X)) 0
  have x_q_r1 := fun X => LK.cell (HQ.out.2.2.2.2.2.2.2.2.2.2.2.1.step (aft_below w10 X)) 1
  have x_q_s0 := fun X => LK.cell (HQ.out.2.2.2.2.2.2.2.2.2.2.2.2.2.1.step (aft_below w10 X)) 0
  have x_q_s1 := fun X => LK.cell (HQ.out.2.2.2.2.2.2.2.2.2.2.2.2.2.1.step (aft_below w10 X)) 1
  simp at x_q_n0 x_q_n1 x_q_o0 x_q_o1 x_q_r0 x_q_r1 x_q_s0 x_q_s1
  have t_w := fun X => cv_of (HQ.out.2.2.2.2.2.2.2.1.step (aft_below w10 X)).v
  have t_x := fun X => cv_of (HQ.out.2.2.2.2.2.2.2.2.1.step (aft_below w10 X)).v
  refine wp_region_held_drew (S := Cls w10) (by kernel_rfl) (Cls.drew w10) (fun hCl => ?_)
  refine wpAnyH_seg (fuel := 34) (by kernel_rfl) (fun _ d _ _ _ h => by cases d <;> exact h) hCl [0, 1, 2, 3, 4, 5, 6, 7, 8, 9, 10, 11, 12] _ _ _ (by kernel_rfl) (by kernel_rfl) ?_
  simp only [opsOf_cons, opsOf_nil, consOp_some, List.getElem?_toArray, List.getElem?_cons_succ, List.getElem?_cons_zero]
  repeat (first | go_big_quiet_step (fail) | quiet_step (fail))
  refine wpQuiet_nil ?_
  refine wpAnyH_each (fuel := 33) [13] (by kernel_rfl) (by simp) (by kernel_rfl) ?_
  refine Each.cons _ rfl (fun K' hK => ?_) Each.nil
  go_simp
  refine (HC.out.2.2.2.2.2.2.2.2.2.2.2.2.1 _ _ _ (HQ.out.2.2.2.2.2.2.2.2.2.1.step hCl.below).v (HQ.out.2.2.2.2.2.2.2.2.2.2.2.2.1.step hCl.below).v).mono ?_
  rintro e z1 ⟨rfl, hb⟩
  have hst := below_step hCl.below hCl.below.size hb
  clear hb
  have hCl := Cls.of hst
  refine hK.out (Cls w10) (fun _ h => h) hCl ?_
  clear hK K'
  refine wpAnyH_seg (fuel := 13) (by kernel_rfl) (fun _ d _ _ _ h => by cases d <;> exact h) hCl [14, 15, 16, 17, 18, 19, 20, 21, 22, 23, 24, 25, 26, 27, 28, 29, 30, 31, 32, 34] _ _ _ (by kernel_rfl) (by kernel_rfl) ?_
  simp only [opsOf_cons, opsOf_nil, consOp_some, List.getElem?_toArray, List.getElem?_cons_succ, List.getElem?_cons_zero]
  repeat (first | go_big_quiet_step (fail) | quiet_step (fail))
  refine wpQuiet_nil ?_
  refine wpAnyH_each (fuel := 12) [33] (by kernel_rfl) (by simp) (by kernel_rfl) ?_
  refine Each.cons _ rfl (fun K' hK => ?_) Each.nil
  go_simp
  refine (HC.out.2.2.2.2.2.2.2.2.1 _ (HQ.out.2.2.2.1.step hCl.below).v).mono ?_
  rintro e z2 ⟨rfl, hb⟩
  have hst := below_step hCl.below hCl.below.size hb
  clear hb
  have hCl := Cls.of hst
  refine hK.out (Cls w10) (fun _ h => h) hCl ?_
  clear hK K'
  refine wpAnyH_each (fuel := 11) [35] (by kernel_rfl) (by simp) (by kernel_rfl) ?_
  refine Each.cons _ rfl (fun K' hK => ?_) Each.nil
  go_simp
  refine (HC.out.2.2.2.2.2.2.2.2.2.1 _ (HQ.out.2.2.2.1.step hCl.below).v).mono ?_
  rintro e z3 ⟨rfl, hb⟩
  have hst := below_step hCl.below hCl.below.size hb
  clear hb
  have hCl := Cls.of hst
  refine hK.out (Cls w10) (fun _ h => h) hCl ?_
  clear hK K'
  refine wpAnyH_seg (fuel := 4) (by kernel_rfl) (fun _ d _ _ _ h => by cases d <;> exact h) hCl [36, 37, 38, 39, 40, 42, 43] _ _ _ (by kernel_rfl) (by kernel_rfl) ?_
  simp only [opsOf_cons, opsOf_nil, consOp_some, List.getElem?_toArray, List.getElem?_cons_succ, List.getElem?_cons_zero]
  repeat (first | go_big_quiet_step (fail) | quiet_step (fail))
  refine wpQuiet_nil ?_
  refine wpAnyH_each (fuel := 3) [41] (by kernel_rfl) (by simp) (by kernel_rfl) ?_
  refine Each.cons _ rfl (fun K' hK => ?_) Each.nil
  go_simp
  refine (HC.out.2.2.2.2.2.2.2.2.2.2.1 _ (HQ.out.2.2.2.1.step hCl.below).v (HQ.out.2.2.2.2.1.step hCl.below).v).mono ?_
  rintro e z4 ⟨rfl, hb⟩
  have hst := below_step hCl.below hCl.below.size hb
  clear hb
  have hCl := Cls.of hst
  refine hK.out (Cls w10) (fun _ h => h) hCl ?_
  clear hK K'
  refine wpAnyH_each (fuel := 2) [44] (by kernel_rfl) (by simp) (by kernel_rfl) ?_
  refine Each.cons _ rfl (fun K' hK => ?_) Each.nil
  go_simp
  refine (HC.out.2.2.2.2.2.2.2.2.2.2.2.1 _ (HQ.out.2.2.2.1.step hCl.below).v (HQ.out.2.2.2.2.1.step hCl.below).v).mono ?_
  rintro e z5 ⟨rfl, hb⟩
  have hst := below_step hCl.below hCl.below.size hb
  clear hb
  have hCl := Cls.of hst
  refine hK.out (Cls w10) (fun _ h => h) hCl ?_
  clear hK K'
  refine wpAnyH_seg (fuel := 0) (by kernel_rfl) (fun _ d _ _ _ h => by cases d <;> exact h) hCl [45, 46] _ _ _ (by kernel_rfl) (by kernel_rfl) ?_
  simp only [opsOf_cons, opsOf_nil, consOp_some, List.getElem?_toArray, List.getElem?_cons_succ, List.getElem?_cons_zero]
  repeat (first | go_big_quiet_step (fail) | quiet_step (fail))
  refine wpQuiet_nil ?_
  refine wpAnyH_done (by kernel_rfl) ?_ _
  clear t_w t_x x_q_n0 x_q_n1 x_q_o0 x_q_o1 x_q_r0 x_q_r1 x_q_s0 x_q_s1
  try clear hCl
  obtain ⟨q_n, q_o, q_k, S_n, S_o, B_l, B_o, B_w, B_x, S_r, I_r, q_r, S_s, q_s, hB⟩ := HQ.out
  clear HQ
  have sz_z5 : w10.heap.size ≤ z5.heap.size := hst.size
  replace q_n := q_n.step hst
  replace q_o := q_o.step hst
  replace q_k := q_k.step hst
  replace S_n := S_n.step hst
  replace S_o := S_o.step hst
  replace B_l := B_l.step hst
  replace B_o := B_o.step hst
  replace B_w := B_w.step hst
  replace B_x := B_x.step hst
  replace S_r := S_r.step hst
  replace I_r := I_r.step hst
  replace q_r := q_r.step hst
  replace S_s := S_s.step hst
  replace q_s := q_s.step hst
  replace hB := hB.step hst
  clear hst
  have HQ := Lib.hid (And.intro q_n (And.intro q_o (And.intro q_k (And.intro S_n (And.intro S_o (And.intro B_l (And.intro B_o (And.intro B_w (And.intro B_x (And.intro S_r (And.intro I_r (And.intro q_r (And.intro S_s (And.intro q_s hB))))))))))))))
  clear q_n q_o q_k S_n S_o B_l B_o B_w B_x S_r I_r q_r S_s q_s hB
  have c_q_n0 := LK.cell HQ.out.1 0
  have c_q_n1 := LK.cell HQ.out.1 1
  have c_q_r0 := LK.cell HQ.out.2.2.2.2.2.2.2.2.2.2.2.1 0
  have c_q_r1 := LK.cell HQ.out.2.2.2.2.2.2.2.2.2.2.2.1 1
  simp at c_q_n0 c_q_n1 c_q_r0 c_q_r1
  go_wp2_with fail
  refine (HC.out.2.2.2.2.2.2.2.2.2.2.2.2.2.2.1 HG.out _ HQ.out.2.2.2.1.v).mono ?_
  rintro e w11 ⟨u_t, rfl, hm⟩
  clear c_q_n0 c_q_n1 c_q_r0 c_q_r1
  obtain ⟨q_n, q_o, q_k, S_n, S_o, B_l, B_o, B_w, B_x, S_r, I_r, q_r, S_s, q_s, hB⟩ := HQ.out
  clear HQ
  have S_t := LS.of (sl_itemT hm.items) (Nat.le_refl _)
  have I_t := LI.of hm
  have hst := hm.below
  obtain ⟨a_t, c_t, rfl, -, -, -, -⟩ := id hm.items
  clear hm
  have sz_w11 : z5.heap.size ≤ w11.heap.size := hst.size
  replace q_n := q_n.step hst
  replace q_o := q_o.step hst
  replace q_k := q_k.step hst
  replace S_n := S_n.step hst
  replace S_o := S_o.step hst
  replace B_l := B_l.step hst
  replace B_o := B_o.step hst
  replace B_w := B_w.step hst
  replace B_x := B_x.step hst
  replace S_r := S_r.step hst
  replace I_r := I_r.step hst
  replace q_r := q_r.step hst
  replace S_s := S_s.step hst
  replace q_s := q_s.step hst
  replace hB := hB.step hst
  clear hst
  have HQ := Lib.hid (And.intro q_n (And.intro q_o (And.intro q_k (And.intro S_n (And.intro S_o (And.intro B_l (And.intro B_o (And.intro B_w (And.intro B_x (And.intro S_r (And.intro I_r (And.intro q_r (And.intro S_s (And.intro q_s (And.intro S_t (And.intro I_t hB))))))))))))))))
  clear q_n q_o q_k S_n S_o B_l B_o B_w B_x S_r I_r q_r S_s q_s S_t I_t hB
  have c_q_n0 := LK.cell HQ.out.1 0
  have c_q_n1 := LK.cell HQ.out.1 1
  have c_q_r0 := LK.cell HQ.out.2.2.2.2.2.2.2.2.2.2.2.1 0
  have c_q_r1 := LK.cell HQ.out.2.2.2.2.2.2.2.2.2.2.2.1 1
  simp at c_q_n0 c_q_n1 c_q_r0 c_q_r1
  go_upto_region 13 with (fail)
  clear c_q_n0 c_q_n1 c_q_r0 c_q_r1
  obtain ⟨q_n, q_o, q_k, S_n, S_o, B_l, B_o, B_w, B_x, S_r, I_r, q_r, S_s, q_s, S_t, I_t, hB⟩ := HQ.out
  clear HQ
  have hst := (Below.refl w11.heap.size w11).alloc (Nat.le_refl _) (.cells #[.int .i64 n.level, .slice a_t n.items.length c_t] 54)
  have hlt : w11.heap.size < (w11.alloc (.cells #[.int .i64 n.level, .slice a_t n.items.length c_t] 54)).heap.size := by simp
  have q_t := LK.new w11 (.cells #[.int .i64 n.level, .slice a_t n.items.length c_t] 54)
  replace q_n := q_n.step hst
  replace q_o := q_o.step hst
  replace q_k := q_k.step hst
  replace S_n := S_n.step hst
  replace S_o := S_o.step hst
  replace B_l := B_l.step hst
  replace B_o := B_o.step hst
  replace B_w := B_w.step hst
  replace B_x := B_x.step hst
  replace S_r := S_r.step hst
  replace I_r := I_r.step hst
  replace q_r := q_r.step hst
  replace S_s := S_s.step hst
  replace q_s := q_s.step hst
  replace S_t := S_t.step hst
  replace I_t := I_t.step hst
  replace hB := hB.step hst
  obtain ⟨w12, hw⟩ : ∃ v, w11.alloc (.cells #[.int .i64 n.level, .slice a_t n.items.length c_t] 54) = v := ⟨_, rfl⟩
  rw [hw] at hlt q_t q_n q_o q_k S_n S_o B_l B_o B_w B_x S_r I_r q_r S_s q_s S_t I_t hB ⊢
  clear hw hst
  have sz_w12 := hlt
  clear hlt
  have HQ := Lib.hid (And.intro q_n (And.intro q_o (And.intro q_k (And.intro S_n (And.intro S_o (And.intro B_l (And.intro B_o (And.intro B_w (And.intro B_x (And.intro S_r (And.intro I_r (And.intro q_r (And.intro S_s (And.intro q_s (And.intro S_t (And.intro I_t (And.intro q_t hB)))))))))))))))))
  clear q_n q_o q_k S_n S_o B_l B_o B_w B_x S_r I_r q_r S_s q_s S_t I_t q_t hB
  have c_q_n0 := LK.cell HQ.out.1 0
  have c_q_n1 := LK.cell HQ.out.1 1
  have c_q_r0 := LK.cell HQ.out.2.2.2.2.2.2.2.2.2.2.2.1 0
  have c_q_r1 := LK.cell HQ.out.2.2.2.2.2.2.2.2.2.2.2.1 1
  have c_q_t0 := LK.cell HQ.out.2.2.2.2.2.2.2.2.2.2.2.2.2.2.2.2.1 0
  have c_q_t1 := LK.cell HQ.out.2.2.2.2.2.2.2.2.2.2.2.2.2.2.2.2.1 1
  simp at c_q_n0 c_q_n1 c_q_r0 c_q_r1 c_q_t0 c_q_t1
  go_wp2_with fail
  refine (HC.out.2.2.2.2.2.2.2.2.2.2.2.2.2.1 _ _ HQ.out.2.2.2.2.2.2.2.2.2.2.2.2.2.2.1.v HQ.out.2.2.2.1.v).mono ?_
  rintro e w13 ⟨rfl, hst⟩
  clear c_q_n0 c_q_n1 c_q_r0 c_q_r1 c_q_t0 c_q_t1
  obtain ⟨q_n, q_o, q_k, S_n, S_o, B_l, B_o, B_w, B_x, S_r, I_r, q_r, S_s, q_s, S_t, I_t, q_t, hB⟩ := HQ.out
  clear HQ
  have sz_w13 : w12.heap.size ≤ w13.heap.size := hst.size
  replace q_n := q_n.step hst
  replace q_o := q_o.step hst
  replace q_k := q_k.step hst
  replace S_n := S_n.step hst
  replace S_o := S_o.step hst
  replace B_l := B_l.step hst
  replace B_o := B_o.step hst
  replace B_w := B_w.step hst
  replace B_x := B_x.step hst
  replace S_r := S_r.step hst
  replace I_r := I_r.step hst
  replace q_r := q_r.step hst
  replace S_s := S_s.step hst
  replace q_s := q_s.step hst
  replace S_t := S_t.step hst
  replace I_t := I_t.step hst
  replace q_t := q_t.step hst
  replace hB := hB.step hst
  clear hst
  have HQ := Lib.hid (And.intro q_n (And.intro q_o (And.intro q_k (And.intro S_n (And.intro S_o (And.intro B_l (And.intro B_o (And.intro B_w (And.intro B_x (And.intro S_r (And.intro I_r (And.intro q_r (And.intro S_s (And.intro q_s (And.intro S_t (And.intro I_t (And.intro q_t hB)))))))))))))))))
  clear q_n q_o q_k S_n S_o B_l B_o B_w B_x S_r I_r q_r S_s q_s S_t I_t q_t hB
  have c_q_n0 := LK.cell HQ.out.1 0
  have c_q_n1 := LK.cell HQ.out.1 1
  have c_q_r0 := LK.cell HQ.out.2.2.2.2.2.2.2.2.2.2.2.1 0
  have c_q_r1 := LK.cell HQ.out.2.2.2.2.2.2.2.2.2.2.2.1 1
  have c_q_t0 := LK.cell HQ.out.2.2.2.2.2.2.2.2.2.2.2.2.2.2.2.2.1 0
  have c_q_t1 := LK.cell HQ.out.2.2.2.2.2.2.2.2.2.2.2.2.2.2.2.2.1 1
  simp at c_q_n0 c_q_n1 c_q_r0 c_q_r1 c_q_t0 c_q_t1
  go_wp2_with fail
  refine (HC.out.2.2.2.2.2.2.2.2.2.2.2.2.2.2.2 HG.out _ HQ.out.2.2.2.1.v).mono ?_
  rintro e w14 ⟨u_b, rfl, hm⟩
  clear c_q_n0 c_q_n1 c_q_r0 c_q_r1 c_q_t0 c_q_t1
  obtain ⟨q_n, q_o, q_k, S_n, S_o, B_l, B_o, B_w, B_x, S_r, I_r, q_r, S_s, q_s, S_t, I_t, q_t, hB⟩ := HQ.out
  clear HQ
  have S_b := LS.of (sl_itemT hm.items) (Nat.le_refl _)
  have I_b := LI.of hm
  have hst := hm.below
  obtain ⟨a_b, c_b, rfl, -, -, -, -⟩ := id hm.items
  clear hm
  have sz_w14 : w13.heap.size ≤ w14.heap.size := hst.size
  replace q_n := q_n.step hst
  replace q_o := q_o.step hst
  replace q_k := q_k.step hst
  replace S_n := S_n.step hst
  replace S_o := S_o.step hst
  replace B_l := B_l.step hst
  replace B_o := B_o.step hst
  replace B_w := B_w.step hst
  replace B_x := B_x.step hst
  replace S_r := S_r.step hst
  replace I_r := I_r.step hst
  replace q_r := q_r.step hst
  replace S_s := S_s.step hst
  replace q_s := q_s.step hst
  replace S_t := S_t.step hst
  replace I_t := I_t.step hst
  replace q_t := q_t.step hst
  replace hB := hB.step hst
  clear hst
  have HQ := Lib.hid (And.intro q_n (And.intro q_o (And.intro q_k (And.intro S_n (And.intro S_o (And.intro B_l (And.intro B_o (And.intro B_w (And.intro B_x (And.intro S_r (And.intro I_r (And.intro q_r (And.intro S_s (And.intro q_s (And.intro S_t (And.intro I_t (And.intro q_t (And.intro S_b (And.intro I_b hB)))))))))))))))))))
  clear q_n q_o q_k S_n S_o B_l B_o B_w B_x S_r I_r q_r S_s q_s S_t I_t q_t S_b I_b hB
  have c_q_n0 := LK.cell HQ.out.1 0
  have c_q_n1 := LK.cell HQ.out.1 1
  have c_q_r0 := LK.cell HQ.out.2.2.2.2.2.2.2.2.2.2.2.1 0
  have c_q_r1 := LK.cell HQ.out.2.2.2.2.2.2.2.2.2.2.2.1 1
  have c_q_t0 := LK.cell HQ.out.2.2.2.2.2.2.2.2.2.2.2.2.2.2.2.2.1 0
  have c_q_t1 := LK.cell HQ.out.2.2.2.2.2.2.2.2.2.2.2.2.2.2.2.2.1 1
  simp at c_q_n0 c_q_n1 c_q_r0 c_q_r1 c_q_t0 c_q_t1
  go_upto_region 16 with (fail)
  clear c_q_n0 c_q_n1 c_q_r0 c_q_r1 c_q_t0 c_q_t1
  obtain ⟨q_n, q_o, q_k, S_n, S_o, B_l, B_o, B_w, B_x, S_r, I_r, q_r, S_s, q_s, S_t, I_t, q_t, S_b, I_b, hB⟩ := HQ.out
  clear HQ
  have hst := (Below.refl w14.heap.size w14).alloc (Nat.le_refl _) (.cells #[.int .i64 n.level, .slice a_b n.items.length c_b] 54)
  have hlt : w14.heap.size < (w14.alloc (.cells #[.int .i64 n.level, .slice a_b n.items.length c_b] 54)).heap.size := by simp
  have q_b := LK.new w14 (.cells #[.int .i64 n.level, .slice a_b n.items.length c_b] 54)
  replace q_n := q_n.step hst
  replace q_o := q_o.step hst
  replace q_k := q_k.step hst
  replace S_n := S_n.step hst
  replace S_o := S_o.step hst
  replace B_l := B_l.step hst
  replace B_o := B_o.step hst
  replace B_w := B_w.step hst
  replace B_x := B_x.step hst
  replace S_r := S_r.step hst
  replace I_r := I_r.step hst
  replace q_r := q_r.step hst
  replace S_s := S_s.step hst
  replace q_s := q_s.step hst
  replace S_t := S_t.step hst
  replace I_t := I_t.step hst
  replace q_t := q_t.step hst
  replace S_b := S_b.step hst
  replace I_b := I_b.step hst
  replace hB := hB.step hst
  obtain ⟨w15, hw⟩ : ∃ v, w14.alloc (.cells #[.int .i64 n.level, .slice a_b n.items.length c_b] 54) = v := ⟨_, rfl⟩
  rw [hw] at hlt q_b q_n q_o q_k S_n S_o B_l B_o B_w B_x S_r I_r q_r S_s q_s S_t I_t q_t S_b I_b hB ⊢
  clear hw hst
  have sz_w15 := hlt
  clear hlt
  have HQ := Lib.hid (And.intro q_n (And.intro q_o (And.intro q_k (And.intro S_n (And.intro S_o (And.intro B_l (And.intro B_o (And.intro B_w (And.intro B_x (And.intro S_r (And.intro I_r (And.intro q_r (And.intro S_s (And.intro q_s (And.intro S_t (And.intro I_t (And.intro q_t (And.intro S_b (And.intro I_b (And.intro q_b hB))))))))))))))))))))
  clear q_n q_o q_k S_n S_o B_l B_o B_w B_x S_r I_r q_r S_s q_s S_t I_t q_t S_b I_b q_b hB
  have c_q_n0 := LK.cell HQ.out.1 0
  have c_q_n1 := LK.cell HQ.out.1 1
  have c_q_r0 := LK.cell HQ.out.2.2.2.2.2.2.2.2.2.2.2.1 0
  have c_q_r1 := LK.cell HQ.out.2.2.2.2.2.2.2.2.2.2.2.1 1
  have c_q_t0 := LK.cell HQ.out.2.2.2.2.2.2.2.2.2.2.2.2.2.2.2.2.1 0
  have c_q_t1 := LK.cell HQ.out.2.2.2.2.2.2.2.2.2.2.2.2.2.2.2.2.1 1
  have c_q_b0 := LK.cell HQ.out.2.2.2.2.2.2.2.2.2.2.2.2.2.2.2.2.2.2.2.1 0
  have c_q_b1 := LK.cell HQ.out.2.2.2.2.2.2.2.2.2.2.2.2.2.2.2.2.2.2.2.1 1
  simp at c_q_n0 c_q_n1 c_q_r0 c_q_r1 c_q_t0 c_q_t1 c_q_b0 c_q_b1
  go_wp2_with fail
  refine (spoil6_any _ _ _ _ z5.heap.size w11.heap.size (by omega) (by omega) HQ.out.2.2.2.2.2.2.2.2.2.2.2.2.2.2.2.1.sp).mono ?_
  rintro e ws0 ⟨⟨ve, rfl⟩, hbel, hfr⟩
  have sz_ws0 : w15.heap.size ≤ ws0.heap.size := hbel.size
  clear c_q_n0 c_q_n1 c_q_r0 c_q_r1 c_q_t0 c_q_t1 c_q_b0 c_q_b1
  obtain ⟨q_n, q_o, q_k, S_n, S_o, B_l, B_o, B_w, B_x, S_r, I_r, q_r, S_s, q_s, S_t, I_t, q_t, S_b, I_b, q_b, hB⟩ := HQ.out
  clear HQ
  clear S_t I_t
  replace q_n := q_n.out hbel.size hfr (by omega)
  replace q_o := q_o.out hbel.size hfr (by omega)
  replace q_k := q_k.out hbel.size hfr (by omega)
  replace S_n := S_n.out hbel.size hfr (by omega)
  replace S_o := S_o.out hbel.size hfr (by omega)
  replace B_l := B_l.out hbel.size hfr (by omega)
  replace B_o := B_o.out hbel.size hfr (by omega)
  replace B_w := B_w.out hbel.size hfr (by omega)
  replace B_x := B_x.out hbel.size hfr (by omega)
  replace S_r := S_r.out hbel.size hfr (by omega)
  replace I_r := I_r.out hbel.size hfr (by omega)
  replace q_r := q_r.out hbel.size hfr (by omega)
  replace S_s := S_s.out hbel.size hfr (by omega)
  replace q_s := q_s.out hbel.size hfr (by omega)
  replace q_t := q_t.out hbel.size hfr (by omega)
  replace S_b := S_b.out hbel.size hfr (by omega)
  replace I_b := I_b.out hbel.size hfr (by omega)
  replace q_b := q_b.out hbel.size hfr (by omega)
  replace hB := hB.outB hbel (by omega)
  have HQ := Lib.hid (And.intro q_n (And.intro q_o (And.intro q_k (And.intro S_n (And.intro S_o (And.intro B_l (And.intro B_o (And.intro B_w (And.intro B_x (And.intro S_r (And.intro I_r (And.intro q_r (And.intro S_s (And.intro q_s (And.intro q_t (And.intro S_b (And.intro I_b (And.intro q_b hB))))))))))))))))))
  clear q_n q_o q_k S_n S_o B_l B_o B_w B_x S_r I_r q_r S_s q_s q_t S_b I_b q_b hB
  clear hbel hfr
  have c_q_n0 := LK.cell HQ.out.1 0
  have c_q_n1 := LK.cell HQ.out.1 1
  have c_q_r0 := LK.cell HQ.out.2.2.2.2.2.2.2.2.2.2.2.1 0
  have c_q_r1 := LK.cell HQ.out.2.2.2.2.2.2.2.2.2.2.2.1 1
  have c_q_t0 := LK.cell HQ.out.2.2.2.2.2.2.2.2.2.2.2.2.2.2.1 0
  have c_q_t1 := LK.cell HQ.out.2.2.2.2.2.2.2.2.2.2.2.2.2.2.1 1
  have c_q_b0 := LK.cell HQ.out.2.2.2.2.2.2.2.2.2.2.2.2.2.2.2.2.2.1 0
  have c_q_b1 := LK.cell HQ.out.2.2.2.2.2.2.2.2.2.2.2.2.2.2.2.2.2.1 1
  simp at c_q_n0 c_q_n1 c_q_r0 c_q_r1 c_q_t0 c_q_t1 c_q_b0 c_q_b1
  go_wp2_with fail
  refine (spoil6_any _ _ _ _ w4.heap.size w5.heap.size (by omega) (by omega) HQ.out.2.2.2.2.2.2.2.2.2.2.1.sp).mono ?_
  rintro e ws1 ⟨⟨ve, rfl⟩, hbel, hfr⟩
  have sz_ws1 : ws0.heap.size ≤ ws1.heap.size := hbel.size
  clear c_q_n0 c_q_n1 c_q_r0 c_q_r1 c_q_t0 c_q_t1 c_q_b0 c_q_b1
  obtain ⟨q_n, q_o, q_k, S_n, S_o, B_l, B_o, B_w, B_x, S_r, I_r, q_r, S_s, q_s, q_t, S_b, I_b, q_b, hB⟩ := HQ.out
  clear HQ
  clear S_r I_r
  replace q_n := q_n.out hbel.size hfr (by omega)
  replace q_o := q_o.out hbel.size hfr (by omega)
  replace q_k := q_k.out hbel.size hfr (by omega)
  replace S_n := S_n.out hbel.size hfr (by omega)
  replace S_o := S_o.out hbel.size hfr (by omega)
  replace B_l := B_l.out hbel.size hfr (by omega)
  replace B_o := B_o.out hbel.size hfr (by omega)
  replace B_w := B_w.out hbel.size hfr (by omega)
  replace B_x := B_x.out hbel.size hfr (by omega)
  replace q_r := q_r.out hbel.size hfr (by omega)
  replace S_s := S_s.out hbel.size hfr (by omega)
  replace q_s := q_s.out hbel.size hfr (by omega)
  replace q_t := q_t.out hbel.size hfr (by omega)
  replace S_b := S_b.out hbel.size hfr (by omega)
  replace I_b := I_b.out hbel.size hfr (by omega)
  replace q_b := q_b.out hbel.size hfr (by omega)
  replace hB := hB.outB hbel (by omega)
  have HQ := Lib.hid (And.intro q_n (And.intro q_o (And.intro q_k (And.intro S_n (And.intro S_o (And.intro B_l (And.intro B_o (And.intro B_w (And.intro B_x (And.intro q_r (And.intro S_s (And.intro q_s (And.intro q_t (And.intro S_b (And.intro I_b (And.intro q_b hB))))))))))))))))
  clear q_n q_o q_k S_n S_o B_l B_o B_w B_x q_r S_s q_s q_t S_b I_b q_b hB
  clear hbel hfr
  have c_q_n0 := LK.cell HQ.out.1 0
  have c_q_n1 := LK.cell HQ.out.1 1
  have c_q_r0 := LK.cell HQ.out.2.2.2.2.2.2.2.2.2.1 0
  have c_q_r1 := LK.cell HQ.out.2.2.2.2.2.2.2.2.2.1 1
  have c_q_t0 := LK.cell HQ.out.2.2.2.2.2.2.2.2.2.2.2.2.1 0
  have c_q_t1 := LK.cell HQ.out.2.2.2.2.2.2.2.2.2.2.2.2.1 1
  have c_q_b0 := LK.cell HQ.out.2.2.2.2.2.2.2.2.2.2.2.2.2.2.2.1 0
  have c_q_b1 := LK.cell HQ.out.2.2.2.2.2.2.2.2.2.2.2.2.2.2.2.1 1
  simp at c_q_n0 c_q_n1 c_q_r0 c_q_r1 c_q_t0 c_q_t1 c_q_b0 c_q_b1
  have t_o := cv_of HQ.out.2.2.2.2.2.2.1.v
  have t_l := cv_of HQ.out.2.2.2.2.2.1.v
  go_wp2_with fail
  clear t_o t_l
  refine (HC.out.2.2.2.2.2.2.2.2.2.2.2.2.2.1 _ _ HQ.out.2.2.2.2.2.2.2.2.2.2.2.2.2.1.v HQ.out.2.2.2.1.v).mono ?_
  rintro e w16 ⟨rfl, hst⟩
  clear c_q_n0 c_q_n1 c_q_r0 c_q_r1 c_q_t0 c_q_t1 c_q_b0 c_q_b1
  obtain ⟨q_n, q_o, q_k, S_n, S_o, B_l, B_o, B_w, B_x, q_r, S_s, q_s, q_t, S_b, I_b, q_b, hB⟩ := HQ.out
  clear HQ
  have sz_w16 : ws1.heap.size ≤ w16.heap.size := hst.size
  replace q_n := q_n.step hst
  replace q_o := q_o.step hst
  replace q_k := q_k.step hst
  replace S_n := S_n.step hst
  replace S_o := S_o.step hst
  replace B_l := B_l.step hst
  replace B_o := B_o.step hst
  replace B_w := B_w.step hst
  replace B_x := B_x.step hst
  replace q_r := q_r.step hst
  replace S_s := S_s.step hst
  replace q_s := q_s.step hst
  replace q_t := q_t.step hst
  replace S_b := S_b.step hst
  replace I_b := I_b.step hst
  replace q_b := q_b.step hst
  replace hB := hB.step hst
  clear hst
  have HQ := Lib.hid (And.intro q_n (And.intro q_o (And.intro q_k (And.intro S_n (And.intro S_o (And.intro B_l (And.intro B_o (And.intro B_w (And.intro B_x (And.intro q_r (And.intro S_s (And.intro q_s (And.intro q_t (And.intro S_b (And.intro I_b (And.intro q_b hB))))))))))))))))
  clear q_n q_o q_k S_n S_o B_l B_o B_w B_x q_r S_s q_s q_t S_b I_b q_b hB
  have c_q_n0 := LK.cell HQ.out.1 0
  have c_q_n1 := LK.cell HQ.out.1 1
  have c_q_r0 := LK.cell HQ.out.2.2.2.2.2.2.2.2.2.1 0
  have c_q_r1 := LK.cell HQ.out.2.2.2.2.2.2.2.2.2.1 1
  have c_q_t0 := LK.cell HQ.out.2.2.2.2.2.2.2.2.2.2.2.2.1 0
  have c_q_t1 := LK.cell HQ.out.2.2.2.2.2.2.2.2.2.2.2.2.1 1
  have c_q_b0 := LK.cell HQ.out.2.2.2.2.2.2.2.2.2.2.2.2.2.2.2.1 0
  have c_q_b1 := LK.cell HQ.out.2.2.2.2.2.2.2.2.2.2.2.2.2.2.2.1 1
  simp at c_q_n0 c_q_n1 c_q_r0 c_q_r1 c_q_t0 c_q_t1 c_q_b0 c_q_b1
  go_wp2
  go_ret
  exact ⟨rfl, HQ.out.2.2.2.2.2.2.2.2.2.2.2.2.2.2.2.2⟩

end Go.Proofs.Ythealkfpflkipaa

