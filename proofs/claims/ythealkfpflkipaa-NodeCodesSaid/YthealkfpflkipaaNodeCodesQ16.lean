/- NodeCodes: the words and contracts, part 16. -/
import Derived.Test.YthealkfpflkipaaNodeCodesQ1
import Derived.Test.YthealkfpflkipaaNodeCodesQ2
import Derived.Test.YthealkfpflkipaaNodeCodesQ3
import Derived.Test.YthealkfpflkipaaNodeCodesQ4
import Derived.Test.YthealkfpflkipaaNodeCodesQ5
import Derived.Test.YthealkfpflkipaaNodeCodesQ6
import Derived.Test.YthealkfpflkipaaNodeCodesQ7
import Derived.Test.YthealkfpflkipaaNodeCodesQ8
import Derived.Test.YthealkfpflkipaaNodeCodesQ9
import Derived.Test.YthealkfpflkipaaNodeCodesQ10
import Derived.Test.YthealkfpflkipaaNodeCodesQ11
import Derived.Test.YthealkfpflkipaaNodeCodesQ12
import Derived.Test.YthealkfpflkipaaNodeCodesQ14
import Derived.Test.YthealkfpflkipaaNodeCodesQ15
import Derived.WalkKit
import Derived.WalkLawsBesides
import Derived.WalkSpells
import Derived.Lib.Hide
import Derived.Laws.Rows
import Derived.Laws.AppendOwnNone
import Derived.Maps.AppendAt
import Derived.ProofKit
import Derived.Deep.Slices
import Derived.WideShapes
import Derived.RangeFuncNested
import Derived.RangeFuncBound
import Derived.RangeFuncCalls
import Derived.RangeFuncLeaves
import Derived.RangeFuncBox
import Derived.Shelf.Abstract
import Derived.Shelf.RegionOpen
import Derived.OwnWalkIn
import Derived.TacticsInMore
import Derived.LoopNIn
import Derived.LoopIn
import Derived.Lib.AppendZerosOnto
import Derived.Lib.SliceRun
import Derived.Lib.Walk
import Derived.Deep.LoopGhost
import Derived.Laws.CopyOwn
import Derived.Laws.CopyRow
import Derived.OrdersHeld
import Derived.Deep.QuietTactic
import Derived.BigQuiet
import Derived.StillTailTactics
import Derived.OpenShut
import Derived.Deep.DeepCutAuto
import Derived.Deep.RegionHeld
import Derived.Laws.MakeOwn
import Derived.KernelRfl
namespace Go.Proofs.Ythealkfpflkipaa
open Go.RowKit

set_option linter.unusedSimpArgs false
set_option maxRecDepth 100000 in
set_option maxHeartbeats 1000000 in
theorem rncheck6_any (n : NodeL) (u_n : Value) (w : World) (h_n : Sl rItem w 0 w.heap.size u_n n.items) :
    Calls Try.prog 31 #[.agg #[.int .i64 n.level, u_n]] w fun e w' => e = .returned (.int .i64 (mayE (mayN n))) ∧ Below w.heap.size w w' := by
  obtain ⟨a_n, c_n, rfl, g_n, gm_n, -, -⟩ := id h_n
  unfold maxLen at gm_n
  have hst := ((Below.refl w.heap.size w).alloc (Nat.le_refl _) (.cells #[.int .i64 n.level, .slice a_n n.items.length c_n] 54))
  have q_n := LK.new w (.cells #[.int .i64 n.level, .slice a_n n.items.length c_n] 54)
  have hB : LW w _ := hst
  have S_n := (LS.of h_n (Nat.le_refl _)).step hst
  have sz_V : w.heap.size + 0 < (w.alloc (.cells #[.int .i64 n.level, .slice a_n n.items.length c_n] 54)).heap.size := by simp
  obtain ⟨V, hV⟩ : ∃ V, (w.alloc (.cells #[.int .i64 n.level, .slice a_n n.items.length c_n] 54)) = V := ⟨_, rfl⟩
  rw [hV] at sz_V q_n S_n hB
  clear hst h_n
  have HQ := Lib.hid (And.intro q_n (And.intro S_n hB))
  clear q_n S_n hB
  have c_q_n0 := LK.cell HQ.out.1 0
  have c_q_n1 := LK.cell HQ.out.1 1
  simp at c_q_n0 c_q_n1
  have k_m := fun V v hh => rnmay_any n v V hh
  generalize mayN n = m at *
  have HC := Lib.hid (k_m)
  clear k_m
  go_enter Try.func31, Try.ntmps31
  go_upto_region 1 with (fail)
  clear hV
  go_wp2_with fail
  refine (HC.out _ _ HQ.out.2.1.v).mono ?_
  rintro e w1 ⟨rfl, hst⟩
  clear c_q_n0 c_q_n1
  obtain ⟨q_n, S_n, hB⟩ := HQ.out
  clear HQ
  have sz_w1 : V.heap.size ≤ w1.heap.size := hst.size
  replace q_n := q_n.step hst
  replace S_n := S_n.step hst
  replace hB := hB.step hst
  clear hst
  have HQ := Lib.hid (And.intro q_n (And.intro S_n hB))
  clear q_n S_n hB
  have c_q_n0 := LK.cell HQ.out.1 0
  have c_q_n1 := LK.cell HQ.out.1 1
  simp at c_q_n0 c_q_n1
  cases m
  case false =>
    go_wp2
    go_ret
    exact ⟨rfl, HQ.out.2.2⟩
  go_wp2
  go_ret
  exact ⟨rfl, HQ.out.2.2⟩

set_option maxRecDepth 100000 in
set_option maxHeartbeats 1000000 in
theorem rnblock_any (n : NodeL) (u_n : Value) (w : World) (h_n : Sl rItem w 0 w.heap.size u_n n.items) (hm : mayN n = true) :
    Calls Try.prog 53 #[.agg #[.int .i64 n.level, u_n]] w fun e w' => ∃ u, e = .returned u ∧ MadeB w w' u (blockN n) := by
  obtain ⟨a_n, c_n, rfl, g_n, gm_n, -, -⟩ := id h_n
  unfold maxLen at gm_n
  have hst := ((Below.refl w.heap.size w).alloc (Nat.le_refl _) (.cells #[.int .i64 n.level, .slice a_n n.items.length c_n] 54))
  have q_n := LK.new w (.cells #[.int .i64 n.level, .slice a_n n.items.length c_n] 54)
  have hB : LW w _ := hst
  have S_n := (LS.of h_n (Nat.le_refl _)).step hst
  have sz_V : w.heap.size + 0 < (w.alloc (.cells #[.int .i64 n.level, .slice a_n n.items.length c_n] 54)).heap.size := by simp
  obtain ⟨V, hV⟩ : ∃ V, (w.alloc (.cells #[.int .i64 n.level, .slice a_n n.items.length c_n] 54)) = V := ⟨_, rfl⟩
  rw [hV] at sz_V q_n S_n hB
  clear hst h_n
  have HQ := Lib.hid (And.intro q_n (And.intro S_n hB))
  clear q_n S_n hB
  have c_q_n0 := LK.cell HQ.out.1 0
  have c_q_n1 := LK.cell HQ.out.1 1
  simp at c_q_n0 c_q_n1
  have hbl : blockN n = sealL (bytesN n) := by unfold blockN; rw [hm]; rfl
  have hlen := bytesN_len hm
  rw [hbl]
  clear hbl
  have k_t := fun V v hh => rntold_any n v V hh hm
  have k_s := fun V v hh => rsealed_any v (bytesN n) V hh hlen
  clear hlen hm
  generalize bytesN n = B at *
  have HC := Lib.hid (And.intro k_t k_s)
  clear k_t k_s
  go_enter Try.func53, Try.ntmps53
  go_upto_region 1 with (fail)
  clear hV
  go_wp2_with fail
  refine (HC.out.1 _ _ HQ.out.2.1.v).mono ?_
  rintro e w1 ⟨v1, rfl, hm⟩
  clear c_q_n0 c_q_n1
  obtain ⟨q_n, S_n, hB⟩ := HQ.out
  clear HQ
  have B_t := (LM.of hm).b
  have hst := hm.below
  obtain ⟨a1, c1, rfl, -, -⟩ := hm.bytes.form rfl
  clear hm
  have sz_w1 : V.heap.size ≤ w1.heap.size := hst.size
  replace q_n := q_n.step hst
  replace S_n := S_n.step hst
  replace hB := hB.step hst
  clear hst
  have HQ := Lib.hid (And.intro q_n (And.intro S_n (And.intro B_t hB)))
  clear q_n S_n B_t hB
  have c_q_n0 := LK.cell HQ.out.1 0
  have c_q_n1 := LK.cell HQ.out.1 1
  simp at c_q_n0 c_q_n1
  go_wp2_with fail
  refine (HC.out.2 _ _ HQ.out.2.2.1.v).mono ?_
  rintro e w2 ⟨v2, rfl, hm⟩
  clear c_q_n0 c_q_n1
  obtain ⟨q_n, S_n, B_t, hB⟩ := HQ.out
  clear HQ
  have hB0 := hB
  have hmw := MadeB.mk (hm.bytes.more (Below.size hB0) (Nat.le_refl _)) hm.thawed (below_step hB0 (Below.size hB0) hm.below)
  have hst := hm.below
  have HMW := Lib.hid hmw
  clear hmw hm hB0
  have sz_w2 : w1.heap.size ≤ w2.heap.size := hst.size
  replace q_n := q_n.step hst
  replace S_n := S_n.step hst
  replace B_t := B_t.step hst
  replace hB := hB.step hst
  clear hst
  have HQ := Lib.hid (And.intro q_n (And.intro S_n (And.intro B_t hB)))
  clear q_n S_n B_t hB
  have c_q_n0 := LK.cell HQ.out.1 0
  have c_q_n1 := LK.cell HQ.out.1 1
  simp at c_q_n0 c_q_n1
  go_wp2
  go_ret
  exact ⟨_, rfl, HMW.out⟩

set_option maxRecDepth 100000 in
set_option maxHeartbeats 1000000 in
theorem rnwrite_any (n : NodeL) (u_n : Value) (w : World) (h_n : Sl rItem w 0 w.heap.size u_n n.items) :
    Calls Try.prog 24 #[.agg #[.int .i64 n.level, u_n]] w fun e w' => ∃ u, e = .returned (.tuple #[u, .int .i64 (mayE (mayN n))]) ∧ MadeB w w' u (blockN n) := by
  obtain ⟨a_n, c_n, rfl, g_n, gm_n, -, -⟩ := id h_n
  unfold maxLen at gm_n
  have hst := ((Below.refl w.heap.size w).alloc (Nat.le_refl _) (.cells #[.int .i64 n.level, .slice a_n n.items.length c_n] 54))
  have q_n := LK.new w (.cells #[.int .i64 n.level, .slice a_n n.items.length c_n] 54)
  have hB : LW w _ := hst
  have S_n := (LS.of h_n (Nat.le_refl _)).step hst
  have sz_V : w.heap.size + 0 < (w.alloc (.cells #[.int .i64 n.level, .slice a_n n.items.length c_n] 54)).heap.size := by simp
  obtain ⟨V, hV⟩ : ∃ V, (w.alloc (.cells #[.int .i64 n.level, .slice a_n n.items.length c_n] 54)) = V := ⟨_, rfl⟩
  rw [hV] at sz_V q_n S_n hB
  clear hst h_n
  have HQ := Lib.hid (And.intro q_n (And.intro S_n hB))
  clear q_n S_n hB
  have c_q_n0 := LK.cell HQ.out.1 0
  have c_q_n1 := LK.cell HQ.out.1 1
  simp at c_q_n0 c_q_n1
  have k_m := fun V v hh => rnmay_any n v V hh
  have k_b := fun V v hh hm => rnblock_any n v V hh hm
  have hno : mayN n = false → blockN n = [] := fun h => by unfold blockN; rw [h]; rfl
  generalize blockN n = B at *
  generalize mayN n = m at *
  have HN := Lib.hid hno
  clear hno
  have HC := Lib.hid (And.intro k_m k_b)
  clear k_m k_b
  go_enter Try.func24, Try.ntmps24
  go_upto_region 1 with (fail)
  clear hV
  go_wp2_with fail
  refine (HC.out.1 _ _ HQ.out.2.1.v).mono ?_
  rintro e w1 ⟨rfl, hst⟩
  clear c_q_n0 c_q_n1
  obtain ⟨q_n, S_n, hB⟩ := HQ.out
  clear HQ
  have sz_w1 : V.heap.size ≤ w1.heap.size := hst.size
  replace q_n := q_n.step hst
  replace S_n := S_n.step hst
  replace hB := hB.step hst
  clear hst
  have HQ := Lib.hid (And.intro q_n (And.intro S_n hB))
  clear q_n S_n hB
  have c_q_n0 := LK.cell HQ.out.1 0
  have c_q_n1 := LK.cell HQ.out.1 1
  simp at c_q_n0 c_q_n1
  cases m
  case false =>
    obtain rfl := HN.out rfl
    go_wp2
    go_ret2
    exact ⟨_, rfl, MadeB.nil_ HQ.out.2.2⟩
  go_wp2_with fail
  refine (HC.out.2 _ _ HQ.out.2.1.v (by trivial)).mono ?_
  rintro e w2 ⟨v2, rfl, hm⟩
  clear c_q_n0 c_q_n1
  obtain ⟨q_n, S_n, hB⟩ := HQ.out
  clear HQ
  have hB0 := hB
  have hmw := MadeB.mk (hm.bytes.more (Below.size hB0) (Nat.le_refl _)) hm.thawed (below_step hB0 (Below.size hB0) hm.below)
  have hst := hm.below
  have HMW := Lib.hid hmw
  clear hmw hm hB0
  have sz_w2 : w1.heap.size ≤ w2.heap.size := hst.size
  replace q_n := q_n.step hst
  replace S_n := S_n.step hst
  replace hB := hB.step hst
  clear hst
  have HQ := Lib.hid (And.intro q_n (And.intro S_n hB))
  clear q_n S_n hB
  have c_q_n0 := LK.cell HQ.out.1 0
  have c_q_n1 := LK.cell HQ.out.1 1
  simp at c_q_n0 c_q_n1
  go_wp2
  go_ret2
  exact ⟨_, rfl, HMW.out⟩

set_option maxRecDepth 100000 in
set_option maxHeartbeats 3000000 in
theorem rnplace_any (n : NodeL) (u_n : Value) (k : KeyL) (w : World) (h_n : Sl rItem w 0 w.heap.size u_n n.items) :
    Calls Try.prog 28 #[.agg #[.int .i64 n.level, u_n], .agg #[bV k.kind, wV k.id, wV k.off]] w fun e w' => e = .returned (.tuple #[.int .i64 (cntN n.items k : Nat), .bool (isN n.items k)]) ∧ Below w.heap.size w w' := by
  obtain ⟨lv, its⟩ := n
  simp only at h_n ⊢
  obtain ⟨a_n, c_n, rfl, g_n, gm_n, -, -⟩ := id h_n
  unfold maxLen at gm_n
  obtain ⟨k_k, k_i, k_o⟩ := k
  simp only [bV, wV]
  have hst := (((Below.refl w.heap.size w).alloc (Nat.le_refl _) (.cells #[.int .i64 lv, .slice a_n its.length c_n] 54)).alloc (by simp) (.cells #[.int .u8 (k_k.toNat : Int), .int .u32 (k_i.toNat : Int), .int .u32 (k_o.toNat : Int)] 56))
  have hq := two_new w (.cells #[.int .i64 lv, .slice a_n its.length c_n] 54) (.cells #[.int .u8 (k_k.toNat : Int), .int .u32 (k_i.toNat : Int), .int .u32 (k_o.toNat : Int)] 56)
  have q_n := LK.of hq.1
  have q_k := LK.of hq.2
  have hB : LW w _ := hst
  have S_n := (LS.of h_n (Nat.le_refl _)).step hst
  have sz_V : w.heap.size + 1 < ((w.alloc (.cells #[.int .i64 lv, .slice a_n its.length c_n] 54)).alloc (.cells #[.int .u8 (k_k.toNat : Int), .int .u32 (k_i.toNat : Int), .int .u32 (k_o.toNat : Int)] 56)).heap.size := by simp
  obtain ⟨V, hV⟩ : ∃ V, ((w.alloc (.cells #[.int .i64 lv, .slice a_n its.length c_n] 54)).alloc (.cells #[.int .u8 (k_k.toNat : Int), .int .u32 (k_i.toNat : Int), .int .u32 (k_o.toNat : Int)] 56)) = V := ⟨_, rfl⟩
  rw [hV] at sz_V q_n q_k S_n hB
  clear hst h_n hq
  have HQ := Lib.hid (And.intro q_n (And.intro q_k (And.intro S_n hB)))
  clear q_n q_k S_n hB
  have c_q_n0 := LK.cell HQ.out.1 0
  have c_q_n1 := LK.cell HQ.out.1 1
  have c_q_k0 := LK.cell HQ.out.2.1 0
  have c_q_k1 := LK.cell HQ.out.2.1 1
  have c_q_k2 := LK.cell HQ.out.2.1 2
  simp at c_q_n0 c_q_n1 c_q_k0 c_q_k1 c_q_k2
  have hle : cntN its (⟨k_k, k_i, k_o⟩ : KeyL) ≤ its.length := cntN_le _ _
  have hsu := fun j hj => cntN_succ its (⟨k_k, k_i, k_o⟩ : KeyL) j hj
  have hfu : cntN (its.take its.length) (⟨k_k, k_i, k_o⟩ : KeyL) = cntN its (⟨k_k, k_i, k_o⟩ : KeyL) := by rw [List.take_length]
  have hz : cntN (its.take 0) (⟨k_k, k_i, k_o⟩ : KeyL) = 0 := rfl
  have his : isN its (⟨k_k, k_i, k_o⟩ : KeyL) = (decide (cntN its (⟨k_k, k_i, k_o⟩ : KeyL) < its.length) && decide ((its.getD (cntN its (⟨k_k, k_i, k_o⟩ : KeyL)) nokI).key = (⟨k_k, k_i, k_o⟩ : KeyL))) := rfl
  have hcl : ∀ j, cntN (its.take j) (⟨k_k, k_i, k_o⟩ : KeyL) ≤ j := fun j => Nat.le_trans (cntN_le _ _) (by rw [List.length_take]; omega)
  have k_l := fun (x : ItemL) V => rless_any x.key (⟨k_k, k_i, k_o⟩ : KeyL) V
  simp only [keyV, bV, wV] at k_l
  obtain ⟨c, hc⟩ : ∃ c, cntN its (⟨k_k, k_i, k_o⟩ : KeyL) = c := ⟨_, rfl⟩
  obtain ⟨r, hr⟩ : ∃ c, isN its (⟨k_k, k_i, k_o⟩ : KeyL) = c := ⟨_, rfl⟩
  rw [hc] at hle hfu his ⊢
  rw [hr] at his ⊢
  have HN := Lib.hid (And.intro hle (And.intro hsu (And.intro hfu (And.intro hz (And.intro his hcl)))))
  clear hle hsu hfu hz his hcl hc hr
  have HC := Lib.hid (k_l)
  clear k_l
  go_enter Try.func28, Try.ntmps28
  go_upto_region 1 with (fail)
  clear hV
  go_wp2_with fail
  go_loopw [6, 7] (fun a i wr => ∃ j : Nat, j ≤ its.length ∧ i = .int .i64 j ∧ a = .int .i64 (cntN (its.take j) (⟨k_k, k_i, k_o⟩ : KeyL) : Nat) ∧ Below V.heap.size V wr) (fun _ i _ => its.length - (intOf i).toNat)
  case atStart => exact ⟨0, Nat.zero_le _, rfl, by rw [HN.out.2.2.2.1]; rfl, Below.refl _ _⟩
  case round =>
  obtain ⟨j, hj, rfl, rfl, hst⟩ := hrel
  clear c_q_n0 c_q_n1 c_q_k0 c_q_k1 c_q_k2
  obtain ⟨q_n, q_k, S_n, hB⟩ := HQ.out
  clear HQ
  replace q_n := q_n.step hst
  replace q_k := q_k.step hst
  replace S_n := S_n.step hst
  replace hB := hB.step hst
  have sz_wr := hst.size
  have hW : LW V wr := hst
  clear hst
  have HQ := Lib.hid (And.intro q_n (And.intro q_k (And.intro S_n (And.intro hW hB))))
  clear q_n q_k S_n hW hB
  have c_q_n0 := LK.cell HQ.out.1 0
  have c_q_n1 := LK.cell HQ.out.1 1
  have c_q_k0 := LK.cell HQ.out.2.1 0
  have c_q_k1 := LK.cell HQ.out.2.1 1
  have c_q_k2 := LK.cell HQ.out.2.1 2
  simp at c_q_n0 c_q_n1 c_q_k0 c_q_k1 c_q_k2
  by_cases hlt : j < its.length
  case pos =>
    obtain ⟨bb, bo, cb, e1, -, zb, -, zc, -⟩ := Sl.at_ HQ.out.2.2.1.v (by omega)
    injection e1 with e1 _ e2
    subst e1 e2
    unfold maxLen at zc
    have hyl := get_l its nokI j hlt
    have hs := HN.out.2.1 j hlt
    have hcl := HN.out.2.2.2.2.2 j
    obtain ⟨y, hy⟩ : ∃ y, its.getD j nokI = y := ⟨_, rfl⟩
    rw [hy] at hyl hs
    have kl := HC.out y
    obtain ⟨bl, hbl⟩ : ∃ q, lessK y.key (⟨k_k, k_i, k_o⟩ : KeyL) = q := ⟨_, rfl⟩
    rw [hbl] at kl hs
    have KL := Lib.hid kl
    obtain ⟨a, ha⟩ : ∃ a, cntN (its.take j) (⟨k_k, k_i, k_o⟩ : KeyL) = a := ⟨_, rfl⟩
    rw [ha] at hs hcl ⊢
    have HS := Lib.hid hs
    clear kl hbl hs hy ha
    obtain ⟨f0, f1, f2, -, -, -⟩ := Sl.cellW HQ.out.2.2.1.v j _ hyl
    have hn5 : rItem.n = 5 := rfl
    rw [hn5] at f0 f1 f2
    simp only [bV, wV, Nat.add_zero] at f0 f1 f2
    clear hn5
    clear hyl
    have i6 : (j : Int) < its.length := by omega
    have i7 : ¬ (its.length : Int) ≤ j := by omega
    replace f0 := fun X => ((aft_below wr X).cell (p := ⟨bb, bo + j * 5, none⟩) zb).trans f0
    replace f1 := fun X => ((aft_below wr X).cell (p := ⟨bb, bo + j * 5 + 1, none⟩) zb).trans f1
    replace f2 := fun X => ((aft_below wr X).cell (p := ⟨bb, bo + j * 5 + 2, none⟩) zb).trans f2
    go_upto_region 5 with (fail)
    clear c_q_n0 c_q_n1 c_q_k0 c_q_k1 c_q_k2
    have x_q_n0 := fun X => LK.cell (HQ.out.1.step (aft_below wr X)) 0
    have x_q_n1 := fun X => LK.cell (HQ.out.1.step (aft_below wr X)) 1
    have x_q_k0 := fun X => LK.cell (HQ.out.2.1.step (aft_below wr X)) 0
    have x_q_k1 := fun X => LK.cell (HQ.out.2.1.step (aft_below wr X)) 1
    have x_q_k2 := fun X => LK.cell (HQ.out.2.1.step (aft_below wr X)) 2
    simp at x_q_n0 x_q_n1 x_q_k0 x_q_k1 x_q_k2
    refine wp_region_held_drew (S := Cls wr) (by kernel_rfl) (Cls.drew wr) (fun hCl => ?_)
    refine wpAnyH_seg (fuel := 1) (by kernel_rfl) (fun _ d _ _ _ h => by cases d <;> exact h) hCl [0, 1, 2, 3, 4, 5, 6] _ _ _ (by kernel_rfl) (by kernel_rfl) ?_
    simp only [opsOf_cons, opsOf_nil, consOp_some, List.getElem?_toArray, List.getElem?_cons_succ, List.getElem?_cons_zero]
    repeat (first | go_big_quiet_step (fail) | quiet_step (fail))
    refine wpQuiet_nil ?_
    refine wpAnyH_each (fuel := 0) [7] (by kernel_rfl) (by simp) (by kernel_rfl) ?_
    refine Each.cons _ rfl (fun K' hK => ?_) Each.nil
    go_simp
    refine (KL.out _).mono ?_
    rintro e z1 ⟨rfl, hb⟩
    have hst := below_step hCl.below hCl.below.size hb
    clear hb
    have hCl := Cls.of hst
    refine hK.out (Cls wr) (fun _ h => h) hCl ?_
    clear hK K'
    refine wpAnyH_done (by kernel_rfl) ?_ _
    have hWf := LW.step HQ.out.2.2.2.1 hst
    clear hst f0 f1 f2 x_q_n0 x_q_n1 x_q_k0 x_q_k1 x_q_k2
    have i9 : (a : Int) + 1 ≤ 9223372036854775807 := by omega
    have i10 : (a : Int) < 9223372036854775807 := by omega
    cases bl
    case false =>
      go_wp2
      go_roundw
      case rel => exact ⟨j + 1, by omega, by go_num, by rw [HS.out]; rfl, hWf⟩
      case measure => simp [intOf]; omega
    go_wp2
    go_roundw
    case rel => exact ⟨j + 1, by omega, by go_num, by rw [HS.out]; simp, hWf⟩
    case measure => simp [intOf]; omega
  obtain rfl : j = its.length := by omega
  rw [HN.out.2.2.1]
  have hle := HN.out.1
  have his := HN.out.2.2.2.2.1
  have HIS := Lib.hid his
  clear his
  by_cases hc : c < its.length
  case neg =>
    obtain rfl : r = false := by rw [HIS.out, decide_eq_false hc]; rfl
    have i1 : ¬ (c : Int) < its.length := by omega
    have i2 : decide ((c : Int) < (its.length : Int)) = false := by simp; omega
    have i3 : decide (c < its.length) = false := by simp; omega
    go_upto_region 7 with (fail)
    go_quiet (fail)
    go_wp2
    go_ret2
    exact ⟨rfl, LW.step HQ.out.2.2.2.2 (below_dn _ _ _)⟩
  have i1 : (c : Int) < its.length := by omega
  have i2 : decide ((c : Int) < (its.length : Int)) = true := by simp; omega
  have i3 : decide (c < its.length) = true := by simp; omega
  have i4 : ¬ (its.length : Int) ≤ c := by omega
  obtain ⟨bb, bo, cb, e1, -, zb, -, zc, -⟩ := Sl.at_ HQ.out.2.2.1.v (by omega)
  injection e1 with e1 _ e2
  subst e1 e2
  unfold maxLen at zc
  have hyl := get_l its nokI c hc
  obtain ⟨y, hy⟩ : ∃ y, its.getD c nokI = y := ⟨_, rfl⟩
  rw [hy] at hyl HIS
  clear hy
  obtain ⟨f0, f1, f2, -, -, -⟩ := Sl.cellW HQ.out.2.2.1.v c _ hyl
  have hn5 : rItem.n = 5 := rfl
  rw [hn5] at f0 f1 f2
  simp only [bV, wV, Nat.add_zero] at f0 f1 f2
  clear hn5
  clear hyl
  by_cases hk : y.key = (⟨k_k, k_i, k_o⟩ : KeyL)
  case pos =>
    obtain rfl : r = true := by rw [HIS.out, i3, decide_eq_true hk]; rfl
    have ek : ∀ W, (Op.equalIn 10000 56 (.agg #[.int .u8 (y.key.kind.toNat : Int), .int .u32 (y.key.id.toNat : Int), .int .u32 (y.key.off.toNat : Int)]) (.agg #[.int .u8 (k_k.toNat : Int), .int .u32 (k_i.toNat : Int), .int .u32 (k_o.toNat : Int)])).run Try.prog W = .ok true W := fun W => (eq_key y.key (⟨k_k, k_i, k_o⟩ : KeyL) W).trans (congrArg (fun z => Result.ok z W) (decide_eq_true hk))
    have HK := Lib.hid hk
    clear hk
    go_upto_region 7 with (fail)
    go_quiet (fail)
    go_wp2
    go_ret2
    exact ⟨rfl, LW.step HQ.out.2.2.2.2 (below_dn _ _ _)⟩
  obtain rfl : r = false := by rw [HIS.out, i3, decide_eq_false hk]; rfl
  have ek : ∀ W, (Op.equalIn 10000 56 (.agg #[.int .u8 (y.key.kind.toNat : Int), .int .u32 (y.key.id.toNat : Int), .int .u32 (y.key.off.toNat : Int)]) (.agg #[.int .u8 (k_k.toNat : Int), .int .u32 (k_i.toNat : Int), .int .u32 (k_o.toNat : Int)])).run Try.prog W = .ok false W := fun W => (eq_key y.key (⟨k_k, k_i, k_o⟩ : KeyL) W).trans (congrArg (fun z => Result.ok z W) (decide_eq_false hk))
  have HK := Lib.hid hk
  clear hk
  go_upto_region 7 with (fail)
  go_quiet (fail)
  go_wp2
  go_ret2
  exact ⟨rfl, LW.step HQ.out.2.2.2.2 (below_dn _ _ _)⟩

end Go.Proofs.Ythealkfpflkipaa

namespace Go.Proofs.Ythealkfpflkipaa
open Go.RowKit

/-- What Great sums, of the first k items. -/
def smI (its : List ItemL) (k : Nat) : Nat := ((its.take k).map fun x => min x.val.length 100000).sum
theorem smI_succ (its : List ItemL) (k : Nat) (h : k < its.length) : smI its (k + 1) = smI its k + min (its.getD k nokI).val.length 100000 := by
  unfold smI
  rw [List.take_add_one, List.map_append, List.sum_append, List.getElem?_eq_getElem h, List.getD_eq_getElem?_getD, List.getElem?_eq_getElem h]
  simp
theorem smI_all (its : List ItemL) (h : smI its its.length ≤ 50000) : ∀ x ∈ its, x.val.length ≤ 50000 := by
  unfold smI at h
  rw [List.take_length] at h
  induction its with
  | nil => intro x hx; cases hx
  | cons a l ih =>
    rw [List.map_cons, List.sum_cons] at h
    intro x hx
    rcases List.mem_cons.1 hx with rfl | hx
    · omega
    · exact ih (by omega) x hx
/-- Items that Great does not call great. -/
def FewI (its : List ItemL) : Prop := its.length ≤ 1000 ∧ ∀ x ∈ its, x.val.length ≤ 50000

set_option maxRecDepth 100000 in
set_option maxHeartbeats 1000000 in
theorem great6_any (v : Value) (its : List ItemL) (w : World) (h : Sl rItem w 0 w.heap.size v its) :
    Calls Try.prog 22 #[v] w fun e w' => ∃ g, e = .returned (.bool g) ∧ Below w.heap.size w w' ∧ (g = false → FewI its) := by
  obtain ⟨a, c, rfl, g1, g2, -, -⟩ := id h
  unfold maxLen at g2
  have HQ := Lib.hid h
  clear h
  go_enter Try.func22, Try.ntmps22
  go_wp2_with fail
  go_loopw [3, 4] (fun v i wr => ∃ k m : Nat, k ≤ its.length ∧ k ≤ 2000 ∧ m ≤ k * 100000 ∧ m = smI its k ∧ i = .int .i64 k ∧ v = .int .i64 m ∧ wr = w) (fun _ i _ => its.length - (intOf i).toNat)
  case atStart => exact ⟨0, 0, Nat.zero_le _, Nat.zero_le _, Nat.zero_le _, rfl, rfl, rfl, rfl⟩
  case round =>
  obtain ⟨k, m, hk, hk2, hm, hms, rfl, rfl, rfl⟩ := hrel
  by_cases hlt : k < its.length ∧ k < 2000
  · obtain ⟨hl1, hl2⟩ := hlt
    obtain ⟨bb, bo, cb', e', -, z1, z2, z3, hbe⟩ := HQ.out.at_ (by omega)
    injection e' with ea _ ec
    subst ea ec
    obtain ⟨-, -, -, -, -, u, hv, hvb⟩ := hbe k (its.getD k nokI) (get_l _ _ _ hl1)
    obtain ⟨av, cv, rfl, -, hcv⟩ := hvb.form rfl
    unfold maxLen at hcv z3
    have hn5 : rItem.n = 5 := rfl
    rw [hn5] at hv
    have i1 : (k : Int) < its.length := by omega
    have i2 : (k : Int) < 2000 := by omega
    obtain ⟨cy, hcy⟩ : ∃ cy : Nat, cy = min (its.getD k nokI).val.length 100000 := ⟨_, rfl⟩
    have hcl : cy ≤ 100000 := by omega
    have hsc := smI_succ its k hl1
    rw [← hcy, ← hms] at hsc
    have HSC := Lib.hid hsc
    clear hsc hms
    have hmin : min ((its.getD k nokI).val.length : Int) 100000 = (cy : Int) := by omega
    clear hvb hbe hcy hn5 z1 z2
    generalize (its.getD k nokI).val.length = y at *
    go_wp2
    go_roundw
    case rel => exact ⟨k + 1, m + cy, by omega, by omega, by omega, HSC.out.symm, by go_num, by go_num, trivial⟩
    case measure => simp [intOf]; omega
  · have hcase : (decide ((k : Int) < its.length) = false ∧ ¬ k < its.length) ∨ ((k : Int) < its.length ∧ decide ((k : Int) < 2000) = false) := by
      by_cases h : k < its.length
      · exact .inr ⟨by omega, by simp; omega⟩
      · exact .inl ⟨by simp; omega, h⟩
    have HMS := Lib.hid (And.intro hms hlt)
    clear hms hlt
    by_cases hg : 1000 < its.length
    · have i9 : (1000 : Int) < its.length := by omega
      rcases hcase with ⟨d3, d3n⟩ | ⟨i3, d4⟩
      · go_wp2
        go_ret
        exact ⟨true, rfl, Below.refl _ _, fun h => by cases h⟩
      · go_wp2
        go_ret
        exact ⟨true, rfl, Below.refl _ _, fun h => by cases h⟩
    · have d9 : decide ((1000 : Int) < its.length) = false := by simp; omega
      have hkk : k = its.length := by have := HMS.out.2; omega
      rcases hcase with ⟨d3, d3n⟩ | ⟨i3, d4⟩
      · by_cases h5 : 50000 < m
        · have i5 : (50000 : Int) < m := by omega
          go_wp2
          go_ret
          exact ⟨true, rfl, Below.refl _ _, fun h => by cases h⟩
        · have d5 : decide ((50000 : Int) < m) = false := by simp; omega
          have hm5 : m ≤ 50000 := by omega
          have HM5 := Lib.hid hm5
          clear h5 hm5
          go_wp2
          go_ret
          exact ⟨false, rfl, Below.refl _ _, fun _ => ⟨by omega, smI_all its (by rw [← hkk, ← HMS.out.1]; exact HM5.out)⟩⟩
      · omega
end Go.Proofs.Ythealkfpflkipaa

