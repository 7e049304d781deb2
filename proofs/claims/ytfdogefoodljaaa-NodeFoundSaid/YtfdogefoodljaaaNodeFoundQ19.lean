/- NodeFound: the words and contracts, part 19. -/
import Derived.Test.YtfdogefoodljaaaNodeFoundQ1
import Derived.Test.YtfdogefoodljaaaNodeFoundQ2
import Derived.Test.YtfdogefoodljaaaNodeFoundQ3
import Derived.Test.YtfdogefoodljaaaNodeFoundQ4
import Derived.Test.YtfdogefoodljaaaNodeFoundQ5
import Derived.Test.YtfdogefoodljaaaNodeFoundQ6
import Derived.Test.YtfdogefoodljaaaNodeFoundQ7
import Derived.Test.YtfdogefoodljaaaNodeFoundQ8
import Derived.Test.YtfdogefoodljaaaNodeFoundQ9
import Derived.Test.YtfdogefoodljaaaNodeFoundQ10
import Derived.Test.YtfdogefoodljaaaNodeFoundQ11
import Derived.Test.YtfdogefoodljaaaNodeFoundQ12
import Derived.Test.YtfdogefoodljaaaNodeFoundQ13
import Derived.Test.YtfdogefoodljaaaNodeFoundQ14
import Derived.Test.YtfdogefoodljaaaNodeFoundQ15
import Derived.Test.YtfdogefoodljaaaNodeFoundQ16
import Derived.Test.YtfdogefoodljaaaNodeFoundQ17
import Derived.Test.YtfdogefoodljaaaNodeFoundQ18
import Derived.Test.YtfdogefoodljaaaChecked
import Derived.WalkKit
import Derived.WalkLawsBesides
import Derived.WalkSpells
import Derived.Lib.Hide
import Derived.Laws.Rows
import Derived.Laws.AppendOwnNone
import Derived.Maps.AppendAt
import Derived.ProofKit
import Derived.Deep.Slices
import Derived.WideShapes
import Derived.RangeFuncNested
import Derived.RangeFuncBound
import Derived.RangeFuncCalls
import Derived.RangeFuncLeaves
import Derived.RangeFuncBox
import Derived.Shelf.Abstract
import Derived.Shelf.RegionOpen
import Derived.OwnWalkIn
import Derived.TacticsInMore
import Derived.LoopNIn
import Derived.LoopIn
import Derived.Lib.AppendZerosOnto
import Derived.Lib.SliceRun
import Derived.Lib.Walk
import Derived.Deep.LoopGhost
import Derived.Laws.CopyOwn
import Derived.Laws.CopyRow
import Derived.OrdersHeld
import Derived.Deep.QuietTactic
import Derived.BigQuiet
import Derived.StillTailTactics
import Derived.OpenShut
import Derived.Deep.DeepCutAuto
import Derived.Deep.RegionHeld
import Derived.Laws.MakeOwn
import Derived.KernelRfl
import Derived.ShutString
import Derived.ChangeOld
import Derived.Below
namespace Go.Proofs.Ytfdogefoodljaaa
open Go.RowKit

set_option maxRecDepth 100000 in
set_option maxHeartbeats 4000000 in
theorem nodeFound_walk (n : NodeL) (u_n : Value) (a : KeyL) (b : KeyL) (w : World) (h_n : (Lit.int .i64 n.level).wf = true ∧ Sl rItem w 0 w.heap.size u_n n.items) :
    Calls Try.prog 11 #[.agg #[.int .i64 n.level, u_n], .agg #[bV a.kind, wV a.id, wV a.off], .agg #[bV b.kind, wV b.id, wV b.off]] w fun e w' => e = .returned (.bool true) ∧ Below w.heap.size w w' := by
  obtain ⟨hw_n, h_n⟩ := h_n
  obtain ⟨a_n, c_n, rfl, g_n, gm_n, -, -⟩ := id h_n
  unfold maxLen at gm_n
  obtain ⟨a_k, a_i, a_o⟩ := a
  simp only [bV, wV]
  obtain ⟨b_k, b_i, b_o⟩ := b
  dsimp only
  have hst := ((((Below.refl w.heap.size w).alloc (Nat.le_refl _) (.cells #[.int .i64 n.level, .slice a_n n.items.length c_n] 62)).alloc (by simp) (.cells #[.int .u8 (a_k.toNat : Int), .int .u32 (a_i.toNat : Int), .int .u32 (a_o.toNat : Int)] 65)).alloc (by simp; omega) (.cells #[.int .u8 (b_k.toNat : Int), .int .u32 (b_i.toNat : Int), .int .u32 (b_o.toNat : Int)] 65))
  have hq := three_new w (.cells #[.int .i64 n.level, .slice a_n n.items.length c_n] 62) (.cells #[.int .u8 (a_k.toNat : Int), .int .u32 (a_i.toNat : Int), .int .u32 (a_o.toNat : Int)] 65) (.cells #[.int .u8 (b_k.toNat : Int), .int .u32 (b_i.toNat : Int), .int .u32 (b_o.toNat : Int)] 65)
  have q_n := LK.of hq.1
  have q_a := LK.of hq.2.1
  have q_b := LK.of hq.2.2
  have hB : LW w _ := hst
  have S_n := (LS.of h_n (Nat.le_refl _)).step hst
  have sz_V : w.heap.size + 2 < (((w.alloc (.cells #[.int .i64 n.level, .slice a_n n.items.length c_n] 62)).alloc (.cells #[.int .u8 (a_k.toNat : Int), .int .u32 (a_i.toNat : Int), .int .u32 (a_o.toNat : Int)] 65)).alloc (.cells #[.int .u8 (b_k.toNat : Int), .int .u32 (b_i.toNat : Int), .int .u32 (b_o.toNat : Int)] 65)).heap.size := by simp
  obtain ⟨V, hV⟩ : ∃ V, (((w.alloc (.cells #[.int .i64 n.level, .slice a_n n.items.length c_n] 62)).alloc (.cells #[.int .u8 (a_k.toNat : Int), .int .u32 (a_i.toNat : Int), .int .u32 (a_o.toNat : Int)] 65)).alloc (.cells #[.int .u8 (b_k.toNat : Int), .int .u32 (b_i.toNat : Int), .int .u32 (b_o.toNat : Int)] 65)) = V := ⟨_, rfl⟩
  rw [hV] at sz_V q_n q_a q_b S_n hB
  clear hst h_n hq
  have HQ := Lib.hid (And.intro q_n (And.intro q_a (And.intro q_b (And.intro S_n hB))))
  clear q_n q_a q_b S_n hB
  have c_q_n0 := LK.cell HQ.out.1 0
  have c_q_n1 := LK.cell HQ.out.1 1
  have c_q_a0 := LK.cell HQ.out.2.1 0
  have c_q_a1 := LK.cell HQ.out.2.1 1
  have c_q_a2 := LK.cell HQ.out.2.1 2
  have c_q_b0 := LK.cell HQ.out.2.2.1 0
  have c_q_b1 := LK.cell HQ.out.2.2.1 1
  have c_q_b2 := LK.cell HQ.out.2.2.1 2
  simp at c_q_n0 c_q_n1 c_q_a0 c_q_a1 c_q_a2 c_q_b0 c_q_b1 c_q_b2
  obtain ⟨A, hAk⟩ : ∃ K : KeyL, K = ⟨a_k, a_i, a_o⟩ := ⟨_, rfl⟩
  have hkvA : keyV A = .agg #[.int .u8 (a_k.toNat : Int), .int .u32 (a_i.toNat : Int), .int .u32 (a_o.toNat : Int)] := by rw [hAk]; rfl
  obtain ⟨B, hBk⟩ : ∃ K : KeyL, K = ⟨b_k, b_i, b_o⟩ := ⟨_, rfl⟩
  have hkvB : keyV B = .agg #[.int .u8 (b_k.toNat : Int), .int .u32 (b_i.toNat : Int), .int .u32 (b_o.toNat : Int)] := by rw [hBk]; rfl
  have k_g := fun V hh => great6_any (.slice a_n n.items.length c_n) n.items V hh
  have k_c := fun V hh => ncheck_any n (.slice a_n n.items.length c_n) V hh
  have k_p := fun K V hh => nplace_any n.level n.items (.slice a_n n.items.length c_n) K V hh
  have k_pa := fun V hh => nplace_any n.level n.items (.slice a_n n.items.length c_n) A V hh
  have k_pb := fun V hh => nplace_any n.level n.items (.slice a_n n.items.length c_n) B V hh
  have k_la := fun V => less_any A B V
  have k_lb := fun V => less_any B A V
  rw [hkvA] at k_pa
  rw [hkvB] at k_pb
  rw [hkvA, hkvB] at k_la k_lb
  have k_e := fun (x : KeyL) W => eq_key x A W
  rw [hkvA] at k_e
  have hla := cntN_le n.items A
  have hlb := cntN_le n.items B
  have hma := fun h => cnt_mono n.items (a := A) (b := B) h
  have hmb := fun h => cnt_mono n.items (a := B) (b := A) h
  have hown := fun (h : mayN n = true) j hj => And.intro (cnt_own h (j := j) hj) (is_own h hj)
  have hth := fun j hj => thN_succ n.items A j hj
  have htl := fun (h : mayN n = true) => thN_all h A
  have ht0 : thN n.items A 0 = false := rfl
  obtain ⟨x, hx⟩ : ∃ x, cntN n.items A = x := ⟨_, rfl⟩
  obtain ⟨y, hy⟩ : ∃ y, cntN n.items B = y := ⟨_, rfl⟩
  obtain ⟨isa, hisa⟩ : ∃ b, isN n.items A = b := ⟨_, rfl⟩
  obtain ⟨isb, hisb⟩ : ∃ b, isN n.items B = b := ⟨_, rfl⟩
  obtain ⟨mn, hmn⟩ : ∃ b, mayN n = b := ⟨_, rfl⟩
  obtain ⟨ab, hab⟩ : ∃ b, lessK A B = b := ⟨_, rfl⟩
  obtain ⟨ba, hba⟩ : ∃ b, lessK B A = b := ⟨_, rfl⟩
  obtain ⟨T, hT⟩ : ∃ T, thN n.items A = T := ⟨_, rfl⟩
  rw [hx] at k_pa hla hma hmb
  rw [hy] at k_pb hlb hma hmb
  rw [hisa] at k_pa htl
  rw [hisb] at k_pb
  rw [hmn] at k_c hown htl
  rw [hab] at k_la hma
  rw [hba] at k_lb hmb
  rw [hT] at hth htl ht0
  have HN := Lib.hid (And.intro hown (And.intro hth (And.intro htl (And.intro hma (And.intro hmb (And.intro hla (And.intro hlb ht0)))))))
  clear hown hth htl hma hmb hla hlb ht0 hx hy hisa hisb hmn hab hba hT hAk hBk hkvA hkvB
  have HC := Lib.hid (And.intro k_g (And.intro k_c (And.intro k_p (And.intro k_pa (And.intro k_pb (And.intro k_la (And.intro k_lb k_e)))))))
  clear k_g k_c k_p k_pa k_pb k_la k_lb k_e
  go_enter Try.func11, Try.ntmps11
  go_upto_region 1 with (fail)
  clear hV
  go_wp2_with fail
  refine (alive6 V).mono ?_
  rintro e w1 ⟨rfl, hst⟩
  clear c_q_n0 c_q_n1 c_q_a0 c_q_a1 c_q_a2 c_q_b0 c_q_b1 c_q_b2
  obtain ⟨q_n, q_a, q_b, S_n, hB⟩ := HQ.out
  clear HQ
  have sz_w1 : V.heap.size ≤ w1.heap.size := hst.size
  replace q_n := q_n.step hst
  replace q_a := q_a.step hst
  replace q_b := q_b.step hst
  replace S_n := S_n.step hst
  replace hB := hB.step hst
  clear hst
  have HQ := Lib.hid (And.intro q_n (And.intro q_a (And.intro q_b (And.intro S_n hB))))
  clear q_n q_a q_b S_n hB
  have c_q_n0 := LK.cell HQ.out.1 0
  have c_q_n1 := LK.cell HQ.out.1 1
  have c_q_a0 := LK.cell HQ.out.2.1 0
  have c_q_a1 := LK.cell HQ.out.2.1 1
  have c_q_a2 := LK.cell HQ.out.2.1 2
  have c_q_b0 := LK.cell HQ.out.2.2.1 0
  have c_q_b1 := LK.cell HQ.out.2.2.1 1
  have c_q_b2 := LK.cell HQ.out.2.2.1 2
  simp at c_q_n0 c_q_n1 c_q_a0 c_q_a1 c_q_a2 c_q_b0 c_q_b1 c_q_b2
  go_wp2_with fail
  refine (HC.out.1 _ HQ.out.2.2.2.1.v).mono ?_
  rintro e w2 ⟨g, rfl, hst, -⟩
  clear c_q_n0 c_q_n1 c_q_a0 c_q_a1 c_q_a2 c_q_b0 c_q_b1 c_q_b2
  obtain ⟨q_n, q_a, q_b, S_n, hB⟩ := HQ.out
  clear HQ
  have sz_w2 : w1.heap.size ≤ w2.heap.size := hst.size
  replace q_n := q_n.step hst
  replace q_a := q_a.step hst
  replace q_b := q_b.step hst
  replace S_n := S_n.step hst
  replace hB := hB.step hst
  clear hst
  have HQ := Lib.hid (And.intro q_n (And.intro q_a (And.intro q_b (And.intro S_n hB))))
  clear q_n q_a q_b S_n hB
  have c_q_n0 := LK.cell HQ.out.1 0
  have c_q_n1 := LK.cell HQ.out.1 1
  have c_q_a0 := LK.cell HQ.out.2.1 0
  have c_q_a1 := LK.cell HQ.out.2.1 1
  have c_q_a2 := LK.cell HQ.out.2.1 2
  have c_q_b0 := LK.cell HQ.out.2.2.1 0
  have c_q_b1 := LK.cell HQ.out.2.2.1 1
  have c_q_b2 := LK.cell HQ.out.2.2.1 2
  simp at c_q_n0 c_q_n1 c_q_a0 c_q_a1 c_q_a2 c_q_b0 c_q_b1 c_q_b2
  cases g
  case true =>
    go_wp2
    go_ret
    exact ⟨rfl, HQ.out.2.2.2.2⟩
  go_wp2_with fail
  refine (HC.out.2.1 _ HQ.out.2.2.2.1.v).mono ?_
  rintro e w3 ⟨rfl, hst⟩
  clear c_q_n0 c_q_n1 c_q_a0 c_q_a1 c_q_a2 c_q_b0 c_q_b1 c_q_b2
  obtain ⟨q_n, q_a, q_b, S_n, hB⟩ := HQ.out
  clear HQ
  have sz_w3 : w2.heap.size ≤ w3.heap.size := hst.size
  replace q_n := q_n.step hst
  replace q_a := q_a.step hst
  replace q_b := q_b.step hst
  replace S_n := S_n.step hst
  replace hB := hB.step hst
  clear hst
  have HQ := Lib.hid (And.intro q_n (And.intro q_a (And.intro q_b (And.intro S_n hB))))
  clear q_n q_a q_b S_n hB
  have c_q_n0 := LK.cell HQ.out.1 0
  have c_q_n1 := LK.cell HQ.out.1 1
  have c_q_a0 := LK.cell HQ.out.2.1 0
  have c_q_a1 := LK.cell HQ.out.2.1 1
  have c_q_a2 := LK.cell HQ.out.2.1 2
  have c_q_b0 := LK.cell HQ.out.2.2.1 0
  have c_q_b1 := LK.cell HQ.out.2.2.1 1
  have c_q_b2 := LK.cell HQ.out.2.2.1 2
  simp at c_q_n0 c_q_n1 c_q_a0 c_q_a1 c_q_a2 c_q_b0 c_q_b1 c_q_b2
  cases mn
  case false =>
    have me8 : mayE false = 8 := rfl
    rw [me8]
    go_wp2
    go_ret
    exact ⟨rfl, HQ.out.2.2.2.2⟩
  have me0 : mayE true = 0 := rfl
  rw [me0]
  clear me0
  go_wp2_with fail
  go_loopw [8, 9] (fun t i wr => ∃ j : Nat, j ≤ n.items.length ∧ i = .int .i64 j ∧ t = .bool (T j) ∧ Below w3.heap.size w3 wr) (fun _ i _ => n.items.length - (intOf i).toNat)
  case atStart => exact ⟨0, Nat.zero_le _, rfl, by rw [HN.out.2.2.2.2.2.2.2], Below.refl _ _⟩
  case round =>
  obtain ⟨j, hj, rfl, rfl, hBr⟩ := hrel
  have hst := hBr
  clear c_q_n0 c_q_n1 c_q_a0 c_q_a1 c_q_a2 c_q_b0 c_q_b1 c_q_b2
  obtain ⟨q_n, q_a, q_b, S_n, hB⟩ := HQ.out
  clear HQ
  have sz_wr : w3.heap.size ≤ wr.heap.size := hst.size
  replace q_n := q_n.step hst
  replace q_a := q_a.step hst
  replace q_b := q_b.step hst
  replace S_n := S_n.step hst
  replace hB := hB.step hst
  clear hst
  have HQ := Lib.hid (And.intro q_n (And.intro q_a (And.intro q_b (And.intro S_n hB))))
  clear q_n q_a q_b S_n hB
  have c_q_n0 := LK.cell HQ.out.1 0
  have c_q_n1 := LK.cell HQ.out.1 1
  have c_q_a0 := LK.cell HQ.out.2.1 0
  have c_q_a1 := LK.cell HQ.out.2.1 1
  have c_q_a2 := LK.cell HQ.out.2.1 2
  have c_q_b0 := LK.cell HQ.out.2.2.1 0
  have c_q_b1 := LK.cell HQ.out.2.2.1 1
  have c_q_b2 := LK.cell HQ.out.2.2.1 2
  simp at c_q_n0 c_q_n1 c_q_a0 c_q_a1 c_q_a2 c_q_b0 c_q_b1 c_q_b2
  by_cases hlt : j < n.items.length
  · obtain ⟨bb, bo, cb, e1, -, zb, -, zc, hcell⟩ := HQ.out.2.2.2.1.v.at_ (by omega)
    injection e1 with e1 _ e2
    subst e1 e2
    obtain ⟨f0, f1, f2, -, -, -, -, -⟩ := hcell j (n.items.getD j nokI) (get_l _ _ _ hlt)
    obtain ⟨ho1, ho2⟩ := HN.out.1 (by trivial) j hlt
    have hth := HN.out.2.1 j hlt
    obtain ⟨z, hz⟩ : ∃ z, n.items.getD j nokI = z := ⟨_, rfl⟩
    rw [hz] at f0 f1 f2 ho1 ho2 hth
    simp only [bV, wV, Nat.add_zero] at f0 f1 f2
    have hn5 : rItem.n = 5 := rfl
    rw [hn5] at f0 f1 f2
    unfold maxLen at zc
    have k_pl := fun W hh => HC.out.2.2.1 z.key W hh
    simp only [keyV, bV, wV] at k_pl
    rw [ho1, ho2] at k_pl
    have ek := fun W => HC.out.2.2.2.2.2.2.2 z.key W
    simp only [keyV, bV, wV] at ek
    obtain ⟨eb, heb⟩ : ∃ b, decide (z.key = A) = b := ⟨_, rfl⟩
    rw [heb] at ek hth
    obtain ⟨th, hth0⟩ : ∃ b, T j = b := ⟨_, rfl⟩
    rw [hth0] at hth ⊢
    have HX := Lib.hid (And.intro k_pl hth)
    clear hcell hz hn5 k_pl hth ho1 ho2 heb hth0
    clear c_q_n0 c_q_n1 c_q_a0 c_q_a1 c_q_a2 c_q_b0 c_q_b1 c_q_b2
    have hi1 : (j : Int) < n.items.length := by omega
    have x_q_n0 := fun X => LK.cell (HQ.out.1.step (aft_below wr X)) 0
    have x_q_n1 := fun X => LK.cell (HQ.out.1.step (aft_below wr X)) 1
    have x_q_a0 := fun X => LK.cell (HQ.out.2.1.step (aft_below wr X)) 0
    have x_q_a1 := fun X => LK.cell (HQ.out.2.1.step (aft_below wr X)) 1
    have x_q_a2 := fun X => LK.cell (HQ.out.2.1.step (aft_below wr X)) 2
    simp at x_q_n0 x_q_n1 x_q_a0 x_q_a1 x_q_a2
    have y_0 := fun X => ((aft_below wr X).cell (p := ⟨bb, bo + j * 5, none⟩) zb).trans f0
    have y_1 := fun X => ((aft_below wr X).cell (p := ⟨bb, bo + j * 5 + 1, none⟩) zb).trans f1
    have y_2 := fun X => ((aft_below wr X).cell (p := ⟨bb, bo + j * 5 + 2, none⟩) zb).trans f2
    have c_q_n0 := LK.cell HQ.out.1 0
    have c_q_n1 := LK.cell HQ.out.1 1
    simp at c_q_n0 c_q_n1
    go_upto_region 8 with (fail)
    clear c_q_n0 c_q_n1
    refine wp_region_held_drew (S := Cls wr) (by kernel_rfl) (Cls.drew wr) (fun hCl => ?_)
    refine wpAnyH_seg (fuel := 6) (by kernel_rfl) (fun _ d _ _ _ h => by cases d <;> exact h) hCl [0, 1, 2, 3, 4, 5, 6] _ _ _ (by kernel_rfl) (by kernel_rfl) ?_
    simp only [opsOf_cons, opsOf_nil, consOp_some, List.getElem?_toArray, List.getElem?_cons_succ, List.getElem?_cons_zero]
    repeat (first | go_big_quiet_step (fail) | quiet_step (fail))
    refine wpQuiet_nil ?_
    refine wpAnyH_each (fuel := 5) [7] (by kernel_rfl) (by simp) (by kernel_rfl) ?_
    refine Each.cons _ rfl (fun K' hK => ?_) Each.nil
    go_simp
    refine (HX.out.1 _ (HQ.out.2.2.2.1.step hCl.below).v).mono ?_
    rintro e z1 ⟨rfl, hb⟩
    have hst := below_step hCl.below hCl.below.size hb
    clear hb
    have hCl := Cls.of hst
    refine hK.out (Cls wr) (fun _ h => h) hCl ?_
    clear hK K'
    refine wpAnyH_seg (fuel := 0) (by kernel_rfl) (fun _ d _ _ _ h => by cases d <;> exact h) hCl [8, 9, 10, 11, 12] _ _ _ (by kernel_rfl) (by kernel_rfl) ?_
    simp only [opsOf_cons, opsOf_nil, consOp_some, List.getElem?_toArray, List.getElem?_cons_succ, List.getElem?_cons_zero]
    repeat (first | go_big_quiet_step (fail) | quiet_step (fail))
    refine wpQuiet_nil ?_
    refine wpAnyH_done (by kernel_rfl) ?_ _
    have hsz := hst.size
    clear hCl
    have HST := Lib.hid hst
    have d_q_n0 := fun X (hX : Below wr.heap.size wr X) => LK.cell (HQ.out.1.step hX) 0
    have d_q_n1 := fun X (hX : Below wr.heap.size wr X) => LK.cell (HQ.out.1.step hX) 1
    have d_q_a0 := fun X (hX : Below wr.heap.size wr X) => LK.cell (HQ.out.2.1.step hX) 0
    have d_q_a1 := fun X (hX : Below wr.heap.size wr X) => LK.cell (HQ.out.2.1.step hX) 1
    have d_q_a2 := fun X (hX : Below wr.heap.size wr X) => LK.cell (HQ.out.2.1.step hX) 2
    simp at d_q_n0 d_q_n1 d_q_a0 d_q_a1 d_q_a2
    replace d_q_n0 := d_q_n0 _ hst
    replace d_q_n1 := d_q_n1 _ hst
    replace d_q_a0 := d_q_a0 _ hst
    replace d_q_a1 := d_q_a1 _ hst
    replace d_q_a2 := d_q_a2 _ hst
    have d_0 := (hst.cell (p := ⟨bb, bo + j * 5, none⟩) zb).trans f0
    have d_1 := (hst.cell (p := ⟨bb, bo + j * 5 + 1, none⟩) zb).trans f1
    have d_2 := (hst.cell (p := ⟨bb, bo + j * 5 + 2, none⟩) zb).trans f2
    clear hst f0 f1 f2 x_q_n0 x_q_n1 x_q_a0 x_q_a1 x_q_a2 y_0 y_1 y_2
    have n1 : ((j : Int) != (j : Int)) = false := by simp
    cases th
    all_goals
      cases eb
    · go_wp2_with fail
      go_quiet (fail)
      go_wp2
      go_roundw
      case rel => exact ⟨j + 1, by omega, by go_num, by rw [HX.out.2]; rfl, (hBr.trans (HST.out.mono (by omega))).trans ((below_dr _ _).mono (by omega))⟩
      case measure => simp [intOf]; omega
    · go_wp2_with fail
      go_quiet (fail)
      go_wp2
      go_roundw
      case rel => exact ⟨j + 1, by omega, by go_num, by rw [HX.out.2]; rfl, (hBr.trans (HST.out.mono (by omega))).trans ((below_dr _ _).mono (by omega))⟩
      case measure => simp [intOf]; omega
    · go_wp2_with fail
      go_quiet (fail)
      go_wp2
      go_roundw
      case rel => exact ⟨j + 1, by omega, by go_num, by rw [HX.out.2]; rfl, (hBr.trans (HST.out.mono (by omega))).trans ((below_dr _ _).mono (by omega))⟩
      case measure => simp [intOf]; omega
    · go_wp2_with fail
      go_quiet (fail)
      go_wp2
      go_roundw
      case rel => exact ⟨j + 1, by omega, by go_num, by rw [HX.out.2]; rfl, (hBr.trans (HST.out.mono (by omega))).trans ((below_dr _ _).mono (by omega))⟩
      case measure => simp [intOf]; omega
  obtain rfl : j = n.items.length := by omega
  rw [HN.out.2.2.1 (by trivial)]
  go_wp2_with fail
  refine (HC.out.2.2.2.1 _ HQ.out.2.2.2.1.v).mono ?_
  rintro e w4 ⟨rfl, hst⟩
  clear c_q_n0 c_q_n1 c_q_a0 c_q_a1 c_q_a2 c_q_b0 c_q_b1 c_q_b2
  obtain ⟨q_n, q_a, q_b, S_n, hB⟩ := HQ.out
  clear HQ
  have sz_w4 : wr.heap.size ≤ w4.heap.size := hst.size
  replace q_n := q_n.step hst
  replace q_a := q_a.step hst
  replace q_b := q_b.step hst
  replace S_n := S_n.step hst
  replace hB := hB.step hst
  clear hst
  have HQ := Lib.hid (And.intro q_n (And.intro q_a (And.intro q_b (And.intro S_n hB))))
  clear q_n q_a q_b S_n hB
  have c_q_n0 := LK.cell HQ.out.1 0
  have c_q_n1 := LK.cell HQ.out.1 1
  have c_q_a0 := LK.cell HQ.out.2.1 0
  have c_q_a1 := LK.cell HQ.out.2.1 1
  have c_q_a2 := LK.cell HQ.out.2.1 2
  have c_q_b0 := LK.cell HQ.out.2.2.1 0
  have c_q_b1 := LK.cell HQ.out.2.2.1 1
  have c_q_b2 := LK.cell HQ.out.2.2.1 2
  simp at c_q_n0 c_q_n1 c_q_a0 c_q_a1 c_q_a2 c_q_b0 c_q_b1 c_q_b2
  go_wp2_with fail
  refine (HC.out.2.2.2.2.1 _ HQ.out.2.2.2.1.v).mono ?_
  rintro e w5 ⟨rfl, hst⟩
  clear c_q_n0 c_q_n1 c_q_a0 c_q_a1 c_q_a2 c_q_b0 c_q_b1 c_q_b2
  obtain ⟨q_n, q_a, q_b, S_n, hB⟩ := HQ.out
  clear HQ
  have sz_w5 : w4.heap.size ≤ w5.heap.size := hst.size
  replace q_n := q_n.step hst
  replace q_a := q_a.step hst
  replace q_b := q_b.step hst
  replace S_n := S_n.step hst
  replace hB := hB.step hst
  clear hst
  have HQ := Lib.hid (And.intro q_n (And.intro q_a (And.intro q_b (And.intro S_n hB))))
  clear q_n q_a q_b S_n hB
  have c_q_n0 := LK.cell HQ.out.1 0
  have c_q_n1 := LK.cell HQ.out.1 1
  have c_q_a0 := LK.cell HQ.out.2.1 0
  have c_q_a1 := LK.cell HQ.out.2.1 1
  have c_q_a2 := LK.cell HQ.out.2.1 2
  have c_q_b0 := LK.cell HQ.out.2.2.1 0
  have c_q_b1 := LK.cell HQ.out.2.2.1 1
  have c_q_b2 := LK.cell HQ.out.2.2.1 2
  simp at c_q_n0 c_q_n1 c_q_a0 c_q_a1 c_q_a2 c_q_b0 c_q_b1 c_q_b2
  have i1 : (0 : Int) ≤ x := by omega
  have i2 : (x : Int) ≤ n.items.length := by have := HN.out.2.2.2.2.2.1; omega
  have i2n : x ≤ n.items.length := HN.out.2.2.2.2.2.1
  go_wp2_with fail
  refine (HC.out.2.2.2.2.2.1 _).mono ?_
  rintro e w6 ⟨rfl, hst⟩
  clear c_q_n0 c_q_n1 c_q_a0 c_q_a1 c_q_a2 c_q_b0 c_q_b1 c_q_b2
  obtain ⟨q_n, q_a, q_b, S_n, hB⟩ := HQ.out
  clear HQ
  have sz_w6 : w5.heap.size ≤ w6.heap.size := hst.size
  replace q_n := q_n.step hst
  replace q_a := q_a.step hst
  replace q_b := q_b.step hst
  replace S_n := S_n.step hst
  replace hB := hB.step hst
  clear hst
  have HQ := Lib.hid (And.intro q_n (And.intro q_a (And.intro q_b (And.intro S_n hB))))
  clear q_n q_a q_b S_n hB
  have c_q_n0 := LK.cell HQ.out.1 0
  have c_q_n1 := LK.cell HQ.out.1 1
  have c_q_a0 := LK.cell HQ.out.2.1 0
  have c_q_a1 := LK.cell HQ.out.2.1 1
  have c_q_a2 := LK.cell HQ.out.2.1 2
  have c_q_b0 := LK.cell HQ.out.2.2.1 0
  have c_q_b1 := LK.cell HQ.out.2.2.1 1
  have c_q_b2 := LK.cell HQ.out.2.2.1 2
  simp at c_q_n0 c_q_n1 c_q_a0 c_q_a1 c_q_a2 c_q_b0 c_q_b1 c_q_b2
  cases ab
  case true =>
    have i3 : x ≤ y := HN.out.2.2.2.1 (by trivial)
    have i4 : (x : Int) ≤ y := by omega
    go_wp2_with fail
    refine (HC.out.2.2.2.2.2.2.1 _).mono ?_
    rintro e w7 ⟨rfl, hst⟩
    clear c_q_n0 c_q_n1 c_q_a0 c_q_a1 c_q_a2 c_q_b0 c_q_b1 c_q_b2
    obtain ⟨q_n, q_a, q_b, S_n, hB⟩ := HQ.out
    clear HQ
    have sz_w7 : w6.heap.size ≤ w7.heap.size := hst.size
    replace q_n := q_n.step hst
    replace q_a := q_a.step hst
    replace q_b := q_b.step hst
    replace S_n := S_n.step hst
    replace hB := hB.step hst
    clear hst
    have HQ := Lib.hid (And.intro q_n (And.intro q_a (And.intro q_b (And.intro S_n hB))))
    clear q_n q_a q_b S_n hB
    have c_q_n0 := LK.cell HQ.out.1 0
    have c_q_n1 := LK.cell HQ.out.1 1
    have c_q_a0 := LK.cell HQ.out.2.1 0
    have c_q_a1 := LK.cell HQ.out.2.1 1
    have c_q_a2 := LK.cell HQ.out.2.1 2
    have c_q_b0 := LK.cell HQ.out.2.2.1 0
    have c_q_b1 := LK.cell HQ.out.2.2.1 1
    have c_q_b2 := LK.cell HQ.out.2.2.1 2
    simp at c_q_n0 c_q_n1 c_q_a0 c_q_a1 c_q_a2 c_q_b0 c_q_b1 c_q_b2
    cases ba
    case true =>
      have i5 : y ≤ x := HN.out.2.2.2.2.1 (by trivial)
      have i6 : (y : Int) ≤ x := by omega
      go_wp2
      go_ret
      exact ⟨rfl, HQ.out.2.2.2.2⟩
    go_wp2
    go_ret
    exact ⟨rfl, HQ.out.2.2.2.2⟩
  go_wp2_with fail
  refine (HC.out.2.2.2.2.2.2.1 _).mono ?_
  rintro e w7 ⟨rfl, hst⟩
  clear c_q_n0 c_q_n1 c_q_a0 c_q_a1 c_q_a2 c_q_b0 c_q_b1 c_q_b2
  obtain ⟨q_n, q_a, q_b, S_n, hB⟩ := HQ.out
  clear HQ
  have sz_w7 : w6.heap.size ≤ w7.heap.size := hst.size
  replace q_n := q_n.step hst
  replace q_a := q_a.step hst
  replace q_b := q_b.step hst
  replace S_n := S_n.step hst
  replace hB := hB.step hst
  clear hst
  have HQ := Lib.hid (And.intro q_n (And.intro q_a (And.intro q_b (And.intro S_n hB))))
  clear q_n q_a q_b S_n hB
  have c_q_n0 := LK.cell HQ.out.1 0
  have c_q_n1 := LK.cell HQ.out.1 1
  have c_q_a0 := LK.cell HQ.out.2.1 0
  have c_q_a1 := LK.cell HQ.out.2.1 1
  have c_q_a2 := LK.cell HQ.out.2.1 2
  have c_q_b0 := LK.cell HQ.out.2.2.1 0
  have c_q_b1 := LK.cell HQ.out.2.2.1 1
  have c_q_b2 := LK.cell HQ.out.2.2.1 2
  simp at c_q_n0 c_q_n1 c_q_a0 c_q_a1 c_q_a2 c_q_b0 c_q_b1 c_q_b2
  cases ba
  case true =>
    have i5 : y ≤ x := HN.out.2.2.2.2.1 (by trivial)
    have i6 : (y : Int) ≤ x := by omega
    go_wp2
    go_ret
    exact ⟨rfl, HQ.out.2.2.2.2⟩
  go_wp2
  go_ret
  exact ⟨rfl, HQ.out.2.2.2.2⟩
end Go.Proofs.Ytfdogefoodljaaa

namespace Go.Proofs.Ytfdogefoodljaaa
open Go.ChangeShapes Go.WideShapes Go.ChangeAt Go.RowKit

theorem own_ : ownKnob Try.prog.godebug = none := by kernel_rfl
theorem laidOut_ : laidOutB Try.prog = true := by kernel_rfl

end Go.Proofs.Ytfdogefoodljaaa

namespace Go.Proofs.Ytfdogefoodljaaa
open Go.ChangeShapes Go.WideShapes Go.ChangeAt Go.RowKit

section
variable {H : Type} {enc : TypeId × Value → H} {W : World} {r : Reach} {base : Nat} {spare : Nat → Bool} {held : Bool} {v : Value} {d : DataW H} {p : List MemPlace}
set_option maxRecDepth 100000 in
theorem arg_key (hv : Value.okWide Try.prog W r base 65 v) (h : DataW.Trod enc Try.prog W 0 spare held 65 v d p) : ∃ k : KeyL, v = .agg #[bV k.kind, wV k.id, wV k.off] := by
  have ht : fieldsOf Try.prog 65 = some [(0, 5), (1, 42), (2, 42)] := by kernel_rfl
  obtain ⟨cs, rfl, hsz⟩ := okW_struct ht hv
  obtain ⟨fuel, hf⟩ := h
  obtain ⟨k, hk⟩ := open_key ht Try.underlying5 Try.underlying42 (by kernel_rfl) (by kernel_rfl) (by kernel_rfl) hf
  refine ⟨k, ?_⟩
  congr 1
  apply Array.toList_inj.1
  exact hk
end
end Go.Proofs.Ytfdogefoodljaaa

