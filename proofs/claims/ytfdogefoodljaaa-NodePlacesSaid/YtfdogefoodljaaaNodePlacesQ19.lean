/- NodePlaces: the words and contracts, part 19. -/
import Derived.Test.YtfdogefoodljaaaNodePlacesQ1
import Derived.Test.YtfdogefoodljaaaNodePlacesQ2
import Derived.Test.YtfdogefoodljaaaNodePlacesQ3
import Derived.Test.YtfdogefoodljaaaNodePlacesQ4
import Derived.Test.YtfdogefoodljaaaNodePlacesQ5
import Derived.Test.YtfdogefoodljaaaNodePlacesQ6
import Derived.Test.YtfdogefoodljaaaNodePlacesQ7
import Derived.Test.YtfdogefoodljaaaNodePlacesQ8
import Derived.Test.YtfdogefoodljaaaNodePlacesQ9
import Derived.Test.YtfdogefoodljaaaNodePlacesQ10
import Derived.Test.YtfdogefoodljaaaNodePlacesQ11
import Derived.Test.YtfdogefoodljaaaNodePlacesQ12
import Derived.Test.YtfdogefoodljaaaNodePlacesQ13
import Derived.Test.YtfdogefoodljaaaNodePlacesQ14
import Derived.Test.YtfdogefoodljaaaNodePlacesQ15
import Derived.Test.YtfdogefoodljaaaNodePlacesQ16
import Derived.Test.YtfdogefoodljaaaNodePlacesQ17
import Derived.Test.YtfdogefoodljaaaNodePlacesQ18
import Derived.Test.YtfdogefoodljaaaChecked
import Derived.WalkKit
import Derived.WalkLawsBesides
import Derived.WalkSpells
import Derived.Lib.Hide
import Derived.Laws.Rows
import Derived.Laws.AppendOwnNone
import Derived.Maps.AppendAt
import Derived.ProofKit
import Derived.Deep.Slices
import Derived.WideShapes
import Derived.RangeFuncNested
import Derived.RangeFuncBound
import Derived.RangeFuncCalls
import Derived.RangeFuncLeaves
import Derived.RangeFuncBox
import Derived.Shelf.Abstract
import Derived.Shelf.RegionOpen
import Derived.OwnWalkIn
import Derived.TacticsInMore
import Derived.LoopNIn
import Derived.LoopIn
import Derived.Lib.AppendZerosOnto
import Derived.Lib.SliceRun
import Derived.Lib.Walk
import Derived.Deep.LoopGhost
import Derived.Laws.CopyOwn
import Derived.Laws.CopyRow
import Derived.OrdersHeld
import Derived.Deep.QuietTactic
import Derived.BigQuiet
import Derived.StillTailTactics
import Derived.OpenShut
import Derived.Deep.DeepCutAuto
import Derived.Deep.RegionHeld
import Derived.Laws.MakeOwn
import Derived.KernelRfl
import Derived.ShutString
import Derived.ChangeOld
import Derived.Below
namespace Go.Proofs.Ytfdogefoodljaaa

theorem cnt_sorted (K : KeyL) : ∀ (l : List ItemL), l.Pairwise (fun x y => lessK x.key y.key = true) → ∀ i, i < l.length → lessK (l.getD i nokI).key K = decide (i < cntN l K)
  | [], _, i, hi => by cases hi
  | a :: l, hp, i, hi => by
    obtain ⟨h1, h2⟩ := List.pairwise_cons.1 hp
    have ih := cnt_sorted K l h2
    unfold cntN at ih ⊢
    cases ha : lessK a.key K with
    | true =>
      rw [List.filter_cons_of_pos (by simpa using ha), List.length_cons]
      cases i with
      | zero => simp [ha]
      | succ i =>
        have := ih i (by simpa using hi)
        simp only [List.getD_cons_succ]
        rw [this]
        simp
    | false =>
      have hall : ∀ x ∈ l, lessK x.key K = false := fun x hx => by
        cases hx2 : lessK x.key K with
        | false => rfl
        | true => rw [lessK_trans (h1 x hx) hx2] at ha; cases ha
      have he : (a :: l).filter (fun x => lessK x.key K) = [] := by
        rw [List.filter_eq_nil_iff]
        intro x hx
        rcases List.mem_cons.1 hx with rfl | hx
        · simp [ha]
        · simp [hall x hx]
      rw [he]
      cases i with
      | zero => simp [ha]
      | succ i =>
        simp only [List.getD_cons_succ]
        have hm : l.getD i nokI ∈ l := by
          have hi2 : i < l.length := by simpa using hi
          rw [List.getD_eq_getElem?_getD, List.getElem?_eq_getElem hi2]
          exact List.getElem_mem hi2
        rw [hall _ hm]
        simp
theorem pair_of : ∀ (l : List ItemL), (∀ i, i + 1 < l.length → lessK (l.getD i nokI).key (l.getD (i + 1) nokI).key = true) → l.Pairwise (fun x y => lessK x.key y.key = true)
  | [], _ => List.Pairwise.nil
  | [a], _ => by simp
  | a :: b :: l, h => by
    have ih := pair_of (b :: l) (fun i hi => by have := h (i + 1) (by simpa using hi); simpa using this)
    refine List.pairwise_cons.2 ⟨fun y hy => ?_, ih⟩
    have h0 : lessK a.key b.key = true := by have := h 0 (by simp); simpa using this
    rcases List.mem_cons.1 hy with rfl | hy
    · exact h0
    · exact lessK_trans h0 ((List.pairwise_cons.1 ih).1 y hy)
theorem mayN_pair {n : NodeL} (h : mayN n = true) : n.items.Pairwise (fun x y => lessK x.key y.key = true) := by
  refine pair_of _ fun i hi => ?_
  have := (mayN_all h).2.2.2 (i + 1) hi
  unfold stepN at this
  simp only [Bool.and_eq_true, Bool.or_eq_true, Nat.add_sub_cancel] at this
  rcases this.1.2 with h1 | h1
  · simp at h1
  · exact h1
theorem mayN_cnt {n : NodeL} (h : mayN n = true) (K : KeyL) {i : Nat} (hi : i < n.items.length) : lessK (n.items.getD i nokI).key K = decide (i < cntN n.items K) := cnt_sorted K _ (mayN_pair h) i hi
end Go.Proofs.Ytfdogefoodljaaa

namespace Go.Proofs.Ytfdogefoodljaaa
open Go.RowKit

set_option maxRecDepth 100000 in
set_option maxHeartbeats 4000000 in
theorem nodePlaces_walk (n : NodeL) (u_n : Value) (k : KeyL) (w : World) (h_n : (Lit.int .i64 n.level).wf = true ∧ Sl rItem w 0 w.heap.size u_n n.items) :
    Calls Try.prog 10 #[.agg #[.int .i64 n.level, u_n], .agg #[bV k.kind, wV k.id, wV k.off]] w fun e w' => e = .returned (.bool true) ∧ Below w.heap.size w w' := by
  obtain ⟨hw_n, h_n⟩ := h_n
  obtain ⟨a_n, c_n, rfl, g_n, gm_n, -, -⟩ := id h_n
  unfold maxLen at gm_n
  obtain ⟨k_k, k_i, k_o⟩ := k
  simp only [bV, wV]
  have hst := (((Below.refl w.heap.size w).alloc (Nat.le_refl _) (.cells #[.int .i64 n.level, .slice a_n n.items.length c_n] 62)).alloc (by simp) (.cells #[.int .u8 (k_k.toNat : Int), .int .u32 (k_i.toNat : Int), .int .u32 (k_o.toNat : Int)] 65))
  have hq := two_new w (.cells #[.int .i64 n.level, .slice a_n n.items.length c_n] 62) (.cells #[.int .u8 (k_k.toNat : Int), .int .u32 (k_i.toNat : Int), .int .u32 (k_o.toNat : Int)] 65)
  have q_n := LK.of hq.1
  have q_k := LK.of hq.2
  have hB : LW w _ := hst
  have S_n := (LS.of h_n (Nat.le_refl _)).step hst
  have sz_V : w.heap.size + 1 < ((w.alloc (.cells #[.int .i64 n.level, .slice a_n n.items.length c_n] 62)).alloc (.cells #[.int .u8 (k_k.toNat : Int), .int .u32 (k_i.toNat : Int), .int .u32 (k_o.toNat : Int)] 65)).heap.size := by simp
  obtain ⟨V, hV⟩ : ∃ V, ((w.alloc (.cells #[.int .i64 n.level, .slice a_n n.items.length c_n] 62)).alloc (.cells #[.int .u8 (k_k.toNat : Int), .int .u32 (k_i.toNat : Int), .int .u32 (k_o.toNat : Int)] 65)) = V := ⟨_, rfl⟩
  rw [hV] at sz_V q_n q_k S_n hB
  clear hst h_n hq
  have HQ := Lib.hid (And.intro q_n (And.intro q_k (And.intro S_n hB)))
  clear q_n q_k S_n hB
  have c_q_n0 := LK.cell HQ.out.1 0
  have c_q_n1 := LK.cell HQ.out.1 1
  have c_q_k0 := LK.cell HQ.out.2.1 0
  have c_q_k1 := LK.cell HQ.out.2.1 1
  have c_q_k2 := LK.cell HQ.out.2.1 2
  simp at c_q_n0 c_q_n1 c_q_k0 c_q_k1 c_q_k2
  obtain ⟨K, hK⟩ : ∃ K : KeyL, K = ⟨k_k, k_i, k_o⟩ := ⟨_, rfl⟩
  have hkv : keyV K = .agg #[.int .u8 (k_k.toNat : Int), .int .u32 (k_i.toNat : Int), .int .u32 (k_o.toNat : Int)] := by rw [hK]; rfl
  have k_g := fun V hh => great6_any (.slice a_n n.items.length c_n) n.items V hh
  have k_c := fun V hh => ncheck_any n (.slice a_n n.items.length c_n) V hh
  have k_p := fun V hh => nplace_any n.level n.items (.slice a_n n.items.length c_n) K V hh
  rw [hkv] at k_p
  have k_l := fun (x : KeyL) V => less_any x K V
  rw [hkv] at k_l
  have k_e := fun (x : KeyL) W => eq_key x K W
  rw [hkv] at k_e
  have hle := cntN_le n.items K
  have hor := fun (h : mayN n = true) i hi => mayN_cnt h K (i := i) hi
  have his : isN n.items K = (decide (cntN n.items K < n.items.length) && decide ((n.items.getD (cntN n.items K) nokI).key = K)) := rfl
  obtain ⟨cn, hcn⟩ : ∃ cn, cntN n.items K = cn := ⟨_, rfl⟩
  obtain ⟨isb, hisb⟩ : ∃ b, isN n.items K = b := ⟨_, rfl⟩
  obtain ⟨mn, hmn⟩ : ∃ b, mayN n = b := ⟨_, rfl⟩
  rw [hcn] at k_p hle hor his
  rw [hisb] at k_p his
  rw [hmn] at k_c hor
  have HN := Lib.hid (And.intro hor his)
  have HKV := Lib.hid hkv
  clear hor his hcn hisb hmn hkv hK
  have HC := Lib.hid (And.intro k_g (And.intro k_c (And.intro k_p (And.intro k_l k_e))))
  clear k_g k_c k_p k_l k_e
  go_enter Try.func10, Try.ntmps10
  go_upto_region 1 with (fail)
  clear hV
  go_wp2_with fail
  refine (alive6 V).mono ?_
  rintro e w1 ⟨rfl, hst⟩
  clear c_q_n0 c_q_n1 c_q_k0 c_q_k1 c_q_k2
  obtain ⟨q_n, q_k, S_n, hB⟩ := HQ.out
  clear HQ
  have sz_w1 : V.heap.size ≤ w1.heap.size := hst.size
  replace q_n := q_n.step hst
  replace q_k := q_k.step hst
  replace S_n := S_n.step hst
  replace hB := hB.step hst
  clear hst
  have HQ := Lib.hid (And.intro q_n (And.intro q_k (And.intro S_n hB)))
  clear q_n q_k S_n hB
  have c_q_n0 := LK.cell HQ.out.1 0
  have c_q_n1 := LK.cell HQ.out.1 1
  have c_q_k0 := LK.cell HQ.out.2.1 0
  have c_q_k1 := LK.cell HQ.out.2.1 1
  have c_q_k2 := LK.cell HQ.out.2.1 2
  simp at c_q_n0 c_q_n1 c_q_k0 c_q_k1 c_q_k2
  go_wp2_with fail
  refine (HC.out.1 _ HQ.out.2.2.1.v).mono ?_
  rintro e w2 ⟨g, rfl, hst, -⟩
  clear c_q_n0 c_q_n1 c_q_k0 c_q_k1 c_q_k2
  obtain ⟨q_n, q_k, S_n, hB⟩ := HQ.out
  clear HQ
  have sz_w2 : w1.heap.size ≤ w2.heap.size := hst.size
  replace q_n := q_n.step hst
  replace q_k := q_k.step hst
  replace S_n := S_n.step hst
  replace hB := hB.step hst
  clear hst
  have HQ := Lib.hid (And.intro q_n (And.intro q_k (And.intro S_n hB)))
  clear q_n q_k S_n hB
  have c_q_n0 := LK.cell HQ.out.1 0
  have c_q_n1 := LK.cell HQ.out.1 1
  have c_q_k0 := LK.cell HQ.out.2.1 0
  have c_q_k1 := LK.cell HQ.out.2.1 1
  have c_q_k2 := LK.cell HQ.out.2.1 2
  simp at c_q_n0 c_q_n1 c_q_k0 c_q_k1 c_q_k2
  cases g
  case true =>
    go_wp2
    go_ret
    exact ⟨rfl, HQ.out.2.2.2⟩
  go_wp2_with fail
  refine (HC.out.2.1 _ HQ.out.2.2.1.v).mono ?_
  rintro e w3 ⟨rfl, hst⟩
  clear c_q_n0 c_q_n1 c_q_k0 c_q_k1 c_q_k2
  obtain ⟨q_n, q_k, S_n, hB⟩ := HQ.out
  clear HQ
  have sz_w3 : w2.heap.size ≤ w3.heap.size := hst.size
  replace q_n := q_n.step hst
  replace q_k := q_k.step hst
  replace S_n := S_n.step hst
  replace hB := hB.step hst
  clear hst
  have HQ := Lib.hid (And.intro q_n (And.intro q_k (And.intro S_n hB)))
  clear q_n q_k S_n hB
  have c_q_n0 := LK.cell HQ.out.1 0
  have c_q_n1 := LK.cell HQ.out.1 1
  have c_q_k0 := LK.cell HQ.out.2.1 0
  have c_q_k1 := LK.cell HQ.out.2.1 1
  have c_q_k2 := LK.cell HQ.out.2.1 2
  simp at c_q_n0 c_q_n1 c_q_k0 c_q_k1 c_q_k2
  cases mn
  case false =>
    have me8 : mayE false = 8 := rfl
    rw [me8]
    go_wp2
    go_ret
    exact ⟨rfl, HQ.out.2.2.2⟩
  have me0 : mayE true = 0 := rfl
  rw [me0]
  clear me0
  go_wp2_with fail
  refine (HC.out.2.2.1 _ HQ.out.2.2.1.v).mono ?_
  rintro e w4 ⟨rfl, hst⟩
  clear c_q_n0 c_q_n1 c_q_k0 c_q_k1 c_q_k2
  obtain ⟨q_n, q_k, S_n, hB⟩ := HQ.out
  clear HQ
  have sz_w4 : w3.heap.size ≤ w4.heap.size := hst.size
  replace q_n := q_n.step hst
  replace q_k := q_k.step hst
  replace S_n := S_n.step hst
  replace hB := hB.step hst
  clear hst
  have HQ := Lib.hid (And.intro q_n (And.intro q_k (And.intro S_n hB)))
  clear q_n q_k S_n hB
  have c_q_n0 := LK.cell HQ.out.1 0
  have c_q_n1 := LK.cell HQ.out.1 1
  have c_q_k0 := LK.cell HQ.out.2.1 0
  have c_q_k1 := LK.cell HQ.out.2.1 1
  have c_q_k2 := LK.cell HQ.out.2.1 2
  simp at c_q_n0 c_q_n1 c_q_k0 c_q_k1 c_q_k2
  have i0 : ¬ (cn : Int) < 0 := by omega
  have i1 : decide ((cn : Int) < 0) = false := by simp
  have i2 : decide ((n.items.length : Int) < cn) = false := by simp; omega
  have i3 : ¬ n.items.length < cn := by omega
  have HLE := Lib.hid hle
  clear hle
  go_wp2_with fail
  go_loopw [8] (fun i wr => ∃ j : Nat, j ≤ n.items.length ∧ i = .int .i64 j ∧ Below w4.heap.size w4 wr) (fun i _ => n.items.length - (intOf i).toNat)
  case atStart => exact ⟨0, Nat.zero_le _, rfl, Below.refl _ _⟩
  case round =>
  obtain ⟨j, hj, rfl, hBr⟩ := hrel
  have hst := hBr
  clear i0 i1 i2 i3
  have hle := HLE.out
  clear c_q_n0 c_q_n1 c_q_k0 c_q_k1 c_q_k2
  obtain ⟨q_n, q_k, S_n, hB⟩ := HQ.out
  clear HQ
  have sz_wr : w4.heap.size ≤ wr.heap.size := hst.size
  replace q_n := q_n.step hst
  replace q_k := q_k.step hst
  replace S_n := S_n.step hst
  replace hB := hB.step hst
  clear hst
  have HQ := Lib.hid (And.intro q_n (And.intro q_k (And.intro S_n hB)))
  clear q_n q_k S_n hB
  have c_q_n0 := LK.cell HQ.out.1 0
  have c_q_n1 := LK.cell HQ.out.1 1
  have c_q_k0 := LK.cell HQ.out.2.1 0
  have c_q_k1 := LK.cell HQ.out.2.1 1
  have c_q_k2 := LK.cell HQ.out.2.1 2
  simp at c_q_n0 c_q_n1 c_q_k0 c_q_k1 c_q_k2
  by_cases hlt : j < n.items.length
  · obtain ⟨bb, bo, cb, e1, -, zb, -, zc, hcell⟩ := HQ.out.2.2.1.v.at_ (by omega)
    injection e1 with e1 _ e2
    subst e1 e2
    obtain ⟨f0, f1, f2, -, -, -, -, -⟩ := hcell j (n.items.getD j nokI) (get_l _ _ _ hlt)
    have hor := HN.out.1 (by trivial) j hlt
    obtain ⟨x, hx⟩ : ∃ x, n.items.getD j nokI = x := ⟨_, rfl⟩
    rw [hx] at f0 f1 f2 hor
    simp only [bV, wV, Nat.add_zero] at f0 f1 f2
    have hn5 : rItem.n = 5 := rfl
    rw [hn5] at f0 f1 f2
    unfold maxLen at zc
    have k_less := fun W => HC.out.2.2.2.1 x.key W
    simp only [keyV, bV, wV] at k_less
    rw [hor] at k_less
    have HX := Lib.hid k_less
    clear hcell hx hn5 k_less hor
    clear c_q_n0 c_q_n1 c_q_k0 c_q_k1 c_q_k2
    have hi1 : (j : Int) < n.items.length := by omega
    have x_q_n0 := fun X => LK.cell (HQ.out.1.step (aft_below wr X)) 0
    have x_q_n1 := fun X => LK.cell (HQ.out.1.step (aft_below wr X)) 1
    have x_q_k0 := fun X => LK.cell (HQ.out.2.1.step (aft_below wr X)) 0
    have x_q_k1 := fun X => LK.cell (HQ.out.2.1.step (aft_below wr X)) 1
    have x_q_k2 := fun X => LK.cell (HQ.out.2.1.step (aft_below wr X)) 2
    simp at x_q_n0 x_q_n1 x_q_k0 x_q_k1 x_q_k2
    have y_0 := fun X => ((aft_below wr X).cell (p := ⟨bb, bo + j * 5, none⟩) zb).trans f0
    have y_1 := fun X => ((aft_below wr X).cell (p := ⟨bb, bo + j * 5 + 1, none⟩) zb).trans f1
    have y_2 := fun X => ((aft_below wr X).cell (p := ⟨bb, bo + j * 5 + 2, none⟩) zb).trans f2
    have c_q_n0 := LK.cell HQ.out.1 0
    have c_q_n1 := LK.cell HQ.out.1 1
    simp at c_q_n0 c_q_n1
    go_upto_region 10 with (fail)
    clear c_q_n0 c_q_n1
    cases hbl : decide (j < cn)
    case false =>
      rw [hbl] at HX
      have i1 : decide ((j : Int) < cn) = false := by simp at hbl ⊢; omega
      have i9 : ¬ j < cn := by simp at hbl; omega
      clear hbl
      refine wp_region_held_drew (S := Cls wr) (by kernel_rfl) (Cls.drew wr) (fun hCl => ?_)
      refine wpAnyH_seg (fuel := 2) (by kernel_rfl) (fun _ d _ _ _ h => by cases d <;> exact h) hCl [0, 1, 2, 3, 4, 5, 6, 8, 9, 10] _ _ _ (by kernel_rfl) (by kernel_rfl) ?_
      simp only [opsOf_cons, opsOf_nil, consOp_some, List.getElem?_toArray, List.getElem?_cons_succ, List.getElem?_cons_zero]
      repeat (first | go_big_quiet_step (fail) | quiet_step (fail))
      refine wpQuiet_nil ?_
      refine wpAnyH_each (fuel := 1) [7] (by kernel_rfl) (by simp) (by kernel_rfl) ?_
      refine Each.cons _ rfl (fun K' hK => ?_) Each.nil
      go_simp
      refine (HX.out _).mono ?_
      rintro e z1 ⟨rfl, hb⟩
      have hst := below_step hCl.below hCl.below.size hb
      clear hb
      have hCl := Cls.of hst
      refine hK.out (Cls wr) (fun _ h => h) hCl ?_
      clear hK K'
      refine wpAnyH_seg (fuel := 0) (by kernel_rfl) (fun _ d _ _ _ h => by cases d <;> exact h) hCl [11] _ _ _ (by kernel_rfl) (by kernel_rfl) ?_
      simp only [opsOf_cons, opsOf_nil, consOp_some, List.getElem?_toArray, List.getElem?_cons_succ, List.getElem?_cons_zero]
      repeat (first | go_big_quiet_step (fail) | quiet_step (fail))
      refine wpQuiet_nil ?_
      refine wpAnyH_done (by kernel_rfl) ?_ _
      go_wp2
      go_roundw
      case rel => exact ⟨j + 1, by omega, by go_num, hBr.trans (hst.mono (by omega))⟩
      case measure => simp [intOf]; omega
    case true =>
      rw [hbl] at HX
      have i1 : (j : Int) < cn := by simp at hbl; omega
      have i9 : j < cn := by simp at hbl; omega
      clear hbl
      refine wp_region_held_drew (S := Cls wr) (by kernel_rfl) (Cls.drew wr) (fun hCl => ?_)
      refine wpAnyH_seg (fuel := 2) (by kernel_rfl) (fun _ d _ _ _ h => by cases d <;> exact h) hCl [0, 1, 2, 3, 4, 5, 6, 8, 9, 10] _ _ _ (by kernel_rfl) (by kernel_rfl) ?_
      simp only [opsOf_cons, opsOf_nil, consOp_some, List.getElem?_toArray, List.getElem?_cons_succ, List.getElem?_cons_zero]
      repeat (first | go_big_quiet_step (fail) | quiet_step (fail))
      refine wpQuiet_nil ?_
      refine wpAnyH_each (fuel := 1) [7] (by kernel_rfl) (by simp) (by kernel_rfl) ?_
      refine Each.cons _ rfl (fun K' hK => ?_) Each.nil
      go_simp
      refine (HX.out _).mono ?_
      rintro e z1 ⟨rfl, hb⟩
      have hst := below_step hCl.below hCl.below.size hb
      clear hb
      have hCl := Cls.of hst
      refine hK.out (Cls wr) (fun _ h => h) hCl ?_
      clear hK K'
      refine wpAnyH_seg (fuel := 0) (by kernel_rfl) (fun _ d _ _ _ h => by cases d <;> exact h) hCl [11] _ _ _ (by kernel_rfl) (by kernel_rfl) ?_
      simp only [opsOf_cons, opsOf_nil, consOp_some, List.getElem?_toArray, List.getElem?_cons_succ, List.getElem?_cons_zero]
      repeat (first | go_big_quiet_step (fail) | quiet_step (fail))
      refine wpQuiet_nil ?_
      refine wpAnyH_done (by kernel_rfl) ?_ _
      go_wp2
      go_roundw
      case rel => exact ⟨j + 1, by omega, by go_num, hBr.trans (hst.mono (by omega))⟩
      case measure => simp [intOf]; omega
  obtain rfl : j = n.items.length := by omega
  have his := HN.out.2
  have HBf := Lib.hid (HQ.out.2.2.2)
  by_cases hlt : cn < n.items.length
  · obtain ⟨bb, bo, cb, e1, -, zb, -, zc, hcell⟩ := HQ.out.2.2.1.v.at_ (by omega)
    injection e1 with e1 _ e2
    subst e1 e2
    obtain ⟨f0, f1, f2, -, -, -, -, -⟩ := hcell cn (n.items.getD cn nokI) (get_l _ _ _ hlt)
    obtain ⟨y, hy⟩ : ∃ y, n.items.getD cn nokI = y := ⟨_, rfl⟩
    rw [hy] at f0 f1 f2 his
    rw [decide_eq_true hlt, Bool.true_and] at his
    simp only [bV, wV, Nat.add_zero] at f0 f1 f2
    have hn5 : rItem.n = 5 := rfl
    rw [hn5] at f0 f1 f2
    unfold maxLen at zc
    have ek := fun W => HC.out.2.2.2.2 y.key W
    simp only [keyV, bV, wV] at ek
    rw [← his] at ek
    have i1 : decide ((cn : Int) < n.items.length) = true := by rw [decide_eq_true_eq]; omega
    have i2 : (cn : Int) < n.items.length := by omega
    have i3 : ¬ (n.items.length : Int) ≤ cn := by omega
    clear hcell hn5 hy hBr hlt his
    cases isb
    all_goals
      go_wp2_with fail
      go_quiet (fail)
      go_wp2
      go_ret
      exact ⟨rfl, LW.step HBf.out (below_dr _ _)⟩
  rw [decide_eq_false hlt, Bool.false_and] at his
  subst his
  have i1 : decide ((cn : Int) < n.items.length) = false := by rw [decide_eq_false_iff_not]; omega
  have i3 : (n.items.length : Int) ≤ cn := by omega
  have i4 : n.items.length ≤ cn := by omega
  clear hBr
  go_wp2_with fail
  go_quiet (fail)
  go_wp2
  go_ret
  exact ⟨rfl, LW.step HBf.out (below_dr _ _)⟩
end Go.Proofs.Ytfdogefoodljaaa

namespace Go.Proofs.Ytfdogefoodljaaa
open Go.ChangeShapes Go.WideShapes Go.ChangeAt Go.RowKit

theorem own_ : ownKnob Try.prog.godebug = none := by kernel_rfl
theorem laidOut_ : laidOutB Try.prog = true := by kernel_rfl

end Go.Proofs.Ytfdogefoodljaaa

namespace Go.Proofs.Ytfdogefoodljaaa
open Go.ChangeShapes Go.WideShapes Go.ChangeAt Go.RowKit

section
variable {H : Type} {enc : TypeId × Value → H} {W : World} {r : Reach} {base : Nat} {spare : Nat → Bool} {held : Bool} {v : Value} {d : DataW H} {p : List MemPlace}
set_option maxRecDepth 100000 in
theorem arg_key (hv : Value.okWide Try.prog W r base 65 v) (h : DataW.Trod enc Try.prog W 0 spare held 65 v d p) : ∃ k : KeyL, v = .agg #[bV k.kind, wV k.id, wV k.off] := by
  have ht : fieldsOf Try.prog 65 = some [(0, 5), (1, 42), (2, 42)] := by kernel_rfl
  obtain ⟨cs, rfl, hsz⟩ := okW_struct ht hv
  obtain ⟨fuel, hf⟩ := h
  obtain ⟨k, hk⟩ := open_key ht Try.underlying5 Try.underlying42 (by kernel_rfl) (by kernel_rfl) (by kernel_rfl) hf
  refine ⟨k, ?_⟩
  congr 1
  apply Array.toList_inj.1
  exact hk
end
end Go.Proofs.Ytfdogefoodljaaa

namespace Go.Proofs.Ytfdogefoodljaaa
open Go.ChangeShapes Go.WideShapes Go.ChangeAt Go.RowKit

section
variable {H : Type} {enc : TypeId × Value → H} {W : World} {r : Reach} {base : Nat} {spare : Nat → Bool} {held : Bool} {v : Value} {d : DataW H} {p : List MemPlace}
set_option maxRecDepth 100000 in
theorem arg_node (hv : Value.okWide Try.prog W r base 62 v) (h : DataW.Trod enc Try.prog W 0 spare held 62 v d p) :
    ∃ (x : NodeL) (u : Value), v = .agg #[.int .i64 x.level, u] ∧ (Lit.int .i64 x.level).wf = true ∧ Sl rItem W 0 W.heap.size u x.items := by
  have ht : fieldsOf Try.prog 62 = some [(0, 3), (1, 60)] := by kernel_rfl
  have hit : fieldsOf Try.prog 73 = some [(0, 65), (3, 3), (4, 22)] := by kernel_rfl
  have hk : fieldsOf Try.prog 65 = some [(0, 5), (1, 42), (2, 42)] := by kernel_rfl
  have hop : Opens Try.prog 73 rItem := opens_item hit hk Try.underlying5 Try.underlying42 (by kernel_rfl) (by kernel_rfl) (by kernel_rfl) Try.underlying3 (by kernel_rfl) (by kernel_rfl) (by kernel_rfl) Try.underlying22 Try.underlying5 (by kernel_rfl)
  have hci : Try.prog.cellsOf 3 = 1 := by kernel_rfl
  have hcl : Try.prog.cellsOf 60 = 1 := by kernel_rfl
  have ce : Try.prog.cellsOf 62 = 2 := by kernel_rfl
  obtain ⟨cs, rfl, hsz⟩ := okW_struct ht hv
  obtain ⟨fuel, hf⟩ := h
  obtain ⟨hl, n, hf⟩ := trod_parts ht hf
  obtain ⟨y0, h0⟩ := hf (0, 3) (by simp)
  obtain ⟨y1, h1⟩ := hf (1, 60) (by simp)
  dsimp only at h0 h1
  rw [hci] at h0
  rw [hcl] at h1
  rw [ce] at hsz
  obtain ⟨k0, e0, _, w0⟩ := DataW.trod_int Try.underlying3 h0
  obtain ⟨u, l, e1, hB⟩ := open_sl (r := rItem) Try.underlying60 (by kernel_rfl) (by decide) hop h1
  refine ⟨⟨k0, l⟩, u, ?_, w0, hB⟩
  congr 1
  apply Array.toList_inj.1
  obtain ⟨cl⟩ := cs
  match cl, hsz with
  | [c0, c1], _ =>
    simp [Value.cells] at e0 e1
    simp [e0, e1]
end
end Go.Proofs.Ytfdogefoodljaaa

