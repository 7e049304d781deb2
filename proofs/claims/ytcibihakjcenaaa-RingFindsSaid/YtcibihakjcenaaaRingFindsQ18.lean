/- RingFinds: the words and contracts, part 18. -/
import Derived.Test.YtcibihakjcenaaaRingFindsQ1
import Derived.Test.YtcibihakjcenaaaRingFindsQ2
import Derived.Test.YtcibihakjcenaaaRingFindsQ3
import Derived.Test.YtcibihakjcenaaaRingFindsQ4
import Derived.Test.YtcibihakjcenaaaRingFindsQ5
import Derived.Test.YtcibihakjcenaaaRingFindsQ6
import Derived.Test.YtcibihakjcenaaaRingFindsQ7
import Derived.Test.YtcibihakjcenaaaRingFindsQ8
import Derived.Test.YtcibihakjcenaaaRingFindsQ9
import Derived.Test.YtcibihakjcenaaaRingFindsQ10
import Derived.Test.YtcibihakjcenaaaRingFindsQ11
import Derived.Test.YtcibihakjcenaaaRingFindsQ12
import Derived.Test.YtcibihakjcenaaaRingFindsQ13
import Derived.Test.YtcibihakjcenaaaRingFindsQ15
import Derived.Test.YtcibihakjcenaaaRingFindsQ16
import Derived.Test.YtcibihakjcenaaaRingFindsQ17
import Derived.WalkKit
import Derived.WalkLawsBesides
import Derived.WalkSpells
import Derived.Lib.Hide
import Derived.Laws.Rows
import Derived.Laws.AppendOwnNone
import Derived.Maps.AppendAt
import Derived.ProofKit
import Derived.Deep.Slices
import Derived.WideShapes
import Derived.RangeFuncNested
import Derived.RangeFuncBound
import Derived.RangeFuncCalls
import Derived.RangeFuncLeaves
import Derived.RangeFuncBox
import Derived.Shelf.Abstract
import Derived.Shelf.RegionOpen
import Derived.OwnWalkIn
import Derived.TacticsInMore
import Derived.LoopNIn
import Derived.LoopIn
import Derived.Lib.AppendZerosOnto
import Derived.Lib.SliceRun
import Derived.Lib.Walk
import Derived.Deep.LoopGhost
import Derived.Laws.CopyOwn
import Derived.Laws.CopyRow
import Derived.OrdersHeld
import Derived.Deep.QuietTactic
import Derived.BigQuiet
import Derived.StillTailTactics
import Derived.OpenShut
import Derived.Deep.DeepCutAuto
import Derived.Deep.RegionHeld
import Derived.Laws.MakeOwn
import Derived.KernelRfl
import Derived.BigFrameIn
import Derived.ShutString
import Derived.ChangeOld
import Derived.Below
import Derived.Shelf.SlSortCmp.SmallK
import Derived.Shelf.Small.Bits
namespace Go.Proofs.Ytcibihakjcenaaa
open Go.RowKit

set_option linter.unusedSimpArgs false
/-- A superblock among others, the newest first. -/
def insU (s : SupL) : List SupL → List SupL
  | [] => [s]
  | x :: l => if x.gen.toNat < s.gen.toNat then s :: x :: l else x :: insU s l
def srtU (l : List SupL) : List SupL := l.foldl (fun acc s => insU s acc) []
theorem insU_perm (s : SupL) : ∀ l, (insU s l).Perm (s :: l)
  | [] => List.Perm.refl _
  | x :: l => by
    rw [insU]
    split
    · exact List.Perm.refl _
    · exact ((insU_perm s l).cons x).trans (List.Perm.swap s x l)
theorem insU_sorted (s : SupL) : ∀ l, (l.Pairwise fun a b => newU a b = true) → (insU s l).Pairwise fun a b => newU a b = true
  | [], _ => List.pairwise_singleton _ _
  | x :: l, h => by
    have hp := List.pairwise_cons.1 h
    rw [insU]
    split
    · rename_i hlt
      refine List.pairwise_cons.2 ⟨fun y hy => ?_, h⟩
      unfold newU
      rw [decide_eq_true_eq]
      rcases List.mem_cons.1 hy with rfl | hy
      · omega
      · have := hp.1 y hy
        unfold newU at this
        rw [decide_eq_true_eq] at this
        omega
    · rename_i hlt
      refine List.pairwise_cons.2 ⟨fun y hy => ?_, insU_sorted s l hp.2⟩
      rcases List.mem_cons.1 ((insU_perm s l).mem_iff.1 hy) with rfl | hy
      · unfold newU
        rw [decide_eq_true_eq]
        omega
      · exact hp.1 y hy
theorem foldU : ∀ (l acc : List SupL), (acc.Pairwise fun a b => newU a b = true) → (l.foldl (fun acc s => insU s acc) acc).Perm (acc ++ l) ∧ ((l.foldl (fun acc s => insU s acc) acc).Pairwise fun a b => newU a b = true)
  | [], acc, h => ⟨by rw [List.append_nil]; exact List.Perm.refl _, h⟩
  | x :: l, acc, h => by
    obtain ⟨h1, h2⟩ := foldU l (insU x acc) (insU_sorted x acc h)
    refine ⟨?_, h2⟩
    rw [List.foldl_cons]
    refine h1.trans ?_
    refine ((insU_perm x acc).append_right l).trans ?_
    rw [List.cons_append]
    exact List.perm_middle.symm
theorem srtU_is (d : DiskL) : srtU (standU d 4) = findU d := by
  obtain ⟨h1, h2⟩ := foldU (standU d 4) [] List.Pairwise.nil
  exact findU_is h1 h2
theorem srtU_some {d : DiskL} {j : Nat} {s : SupL} (h : atU d j = some s) : srtU (standU d (j + 1)) = insU s (srtU (standU d j)) := by
  unfold srtU
  rw [standU_succ, h, List.foldl_append]
  rfl
theorem srtU_none {d : DiskL} {j : Nat} (h : atU d j = none) : srtU (standU d (j + 1)) = srtU (standU d j) := by
  unfold srtU
  rw [standU_succ, h, List.foldl_append]
  rfl
theorem row_superB {base lo : Nat} {S : Nat → Bool} {z : World} {v u : Value} {kl : List SupL} {x : SupL} (h : OwnR rSuper base 25 lo S z v kl) (hS : ∀ k, k < base → S k = false) (hb : SupV z lo base u x) (hbase : base ≤ z.heap.size) (T2 : TypeId) :
    OwnR rSuper base 25 lo S (z.alloc (.cells #[wV x.gen, .int .i64 x.root, wV x.next, wV x.table, u] T2)) v kl ∧ ∀ j y, [x][j]? = some y → rSuper.R (hideW (z.alloc (.cells #[wV x.gen, .int .i64 x.root, wV x.next, wV x.table, u] T2)) (andOwn S v)) lo (z.alloc (.cells #[wV x.gen, .int .i64 x.root, wV x.next, wV x.table, u] T2)).heap.size y (fun i => [wV x.gen, .int .i64 x.root, wV x.next, wV x.table, u][j * rSuper.n + i]?) := by
  refine ⟨h.alloc rSuper_ck _, fun j y hj => ?_⟩
  cases j with
  | zero =>
    cases hj
    have hkp : Kp lo base z (hideW (z.alloc (.cells #[wV x.gen, .int .i64 x.root, wV x.next, wV x.table, u] T2)) (andOwn S v)) := hideW_kp fun k h1 h2 => ⟨andOwn_of (hS k h2) (fun e => by have := (h.lt k e).1; omega), Below.heap_alloc z _ k (by omega)⟩
    exact ⟨rfl, rfl, hb.1, rfl, rfl, u, rfl, (hb.2.keep hkp).more (Nat.le_refl _) (by simp; omega)⟩
  | succ j => simp at hj

set_option maxRecDepth 100000 in
set_option maxHeartbeats 4000000 in
theorem rstand_any (d : DiskL) (b_d u_d : Value) (w : World) (h_d : DiskV w 0 w.heap.size b_d u_d d) (hmd : mayD d = true) :
    Calls Try.prog 96 #[.agg #[b_d, u_d]] w fun e w' => ∃ v, e = .returned v ∧ Sl rSuper w' 0 w'.heap.size v (findU d) ∧ Below w.heap.size w w' := by
  obtain ⟨ab_d, cb_d, rfl, gb_d, gc_d, -, -⟩ := h_d.1
  obtain ⟨au_d, cu_d, rfl, gu_d, gv_d, -, -⟩ := h_d.2
  unfold maxLen at gc_d gv_d
  have hst := ((Below.refl w.heap.size w).alloc (Nat.le_refl _) (.cells #[.slice ab_d d.blocks.length cb_d, .slice au_d d.waits.length cu_d] 44))
  have q_d := LK.new w (.cells #[.slice ab_d d.blocks.length cb_d, .slice au_d d.waits.length cu_d] 44)
  have hB : LW w _ := hst
  have D_d := (LD.of h_d (Nat.le_refl _)).step hst
  have sz_V : w.heap.size + 0 < (w.alloc (.cells #[.slice ab_d d.blocks.length cb_d, .slice au_d d.waits.length cu_d] 44)).heap.size := by simp
  obtain ⟨V, hV⟩ : ∃ V, (w.alloc (.cells #[.slice ab_d d.blocks.length cb_d, .slice au_d d.waits.length cu_d] 44)) = V := ⟨_, rfl⟩
  rw [hV] at sz_V q_d D_d hB
  clear hst h_d
  have HQ := Lib.hid (And.intro q_d (And.intro D_d hB))
  clear q_d D_d hB
  have c_q_d0 := LK.cell HQ.out.1 0
  have c_q_d1 := LK.cell HQ.out.1 1
  simp at c_q_d0 c_q_d1
  have hbl := (may_len hmd).1
  have hrb : ∀ j : Nat, j < 4 → readB d (j : Nat) = seenD d j := fun j hj => by
    have h : errA d (j : Int) = 0 := by rw [errA_may (j : Int) hmd, if_neg (by omega)]
    unfold readB
    rw [if_pos h]
  have k_s := fun (j : Nat) V b u hh hj => rseen_any b u d j V hh hj
  have k_r := fun l v V hh => ruread_any v l V hh
  have k_l := fun (g : UInt32) V => ruslot_any g V
  simp only [wV] at k_r k_l
  have HD := Lib.hid (And.intro hrb hbl)
  clear hrb hbl hmd
  have HC := Lib.hid (And.intro k_s (And.intro k_r k_l))
  clear k_s k_r k_l
  go_enter Try.func96, Try.ntmps96
  go_upto_region 1 with (fail)
  clear hV
  go_wp2_with fail
  go_loopw [3, 4] (fun l i wr => ∃ (j : Nat) (L : List SupL) (ar : Option Addr) (cr : Nat), j ≤ 4 ∧ i = .int .i64 j ∧ L = srtU (standU d j) ∧ l = .slice ar L.length cr ∧ L.length ≤ j ∧ Sl rSuper wr 0 wr.heap.size (.slice ar L.length cr) L ∧ Below V.heap.size V wr) (fun _ i _ => 4 - (intOf i).toNat)
  case atStart => exact ⟨0, [], none, 0, Nat.zero_le _, rfl, rfl, rfl, Nat.le_refl _, Sl.nil_ _ _ _, Below.refl _ _⟩
  case round =>
  obtain ⟨j, L, ar, cr, hj, rfl, hL, rfl, hLl, hsl, hst⟩ := hrel
  clear c_q_d0 c_q_d1
  obtain ⟨q_d, D_d, hB⟩ := HQ.out
  clear HQ
  replace q_d := q_d.step hst
  replace D_d := D_d.step hst
  replace hB := hB.step hst
  have sz_wr := hst.size
  have hW : LW V wr := hst
  have S_o := LS.of hsl (Nat.le_refl _)
  clear hst hsl
  have HQ := Lib.hid (And.intro q_d (And.intro D_d (And.intro S_o (And.intro hW hB))))
  clear q_d D_d S_o hW hB
  have c_q_d0 := LK.cell HQ.out.1 0
  have c_q_d1 := LK.cell HQ.out.1 1
  simp at c_q_d0 c_q_d1
  have HL := Lib.hid hL
  clear hL
  by_cases hlt : j < 4
  case pos =>
    obtain ⟨rb, hrb⟩ : ∃ x, readB d (j : Nat) = x := ⟨_, rfl⟩
    have hat : atU d j = if errUr rb = 0 ∧ slotU (readU rb).gen = j then some (readU rb) else none := by unfold atU; rw [hrb]
    have kr := HC.out.1 j
    rw [← HD.out.1 j hlt, hrb] at kr
    have KR := Lib.hid (fun V b u hh => kr V b u hh (by have := HD.out.2; omega))
    clear kr hrb
    go_wp2_with fail
    refine (KR.out _ _ _ HQ.out.2.1.v).mono ?_
    rintro e w1 ⟨vb, rfl, hb, hst⟩
    clear c_q_d0 c_q_d1
    obtain ⟨q_d, D_d, S_o, hW, hB⟩ := HQ.out
    clear HQ
    have hO := LB.of hb (Nat.le_refl _)
    obtain ⟨ao, co, rfl, -, -⟩ := hb.form rfl
    clear hb
    have sz_w1 : wr.heap.size ≤ w1.heap.size := hst.size
    replace q_d := q_d.step hst
    replace D_d := D_d.step hst
    replace S_o := S_o.step hst
    replace hW := hW.step hst
    replace hB := hB.step hst
    clear hst
    have HQ := Lib.hid (And.intro q_d (And.intro D_d (And.intro S_o (And.intro hW (And.intro hO hB)))))
    clear q_d D_d S_o hW hO hB
    have c_q_d0 := LK.cell HQ.out.1 0
    have c_q_d1 := LK.cell HQ.out.1 1
    simp at c_q_d0 c_q_d1
    have ku := HC.out.2.1 rb _ _ HQ.out.2.2.2.2.1.v
    obtain ⟨er, her⟩ : ∃ z, errUr rb = z := ⟨_, rfl⟩
    obtain ⟨x, hx⟩ : ∃ z, readU rb = z := ⟨_, rfl⟩
    rw [her, hx] at ku hat
    have KU := Lib.hid ku
    have HA := Lib.hid hat
    clear ku her hx hat
    go_wp2_with fail
    refine (KU.out).mono ?_
    rintro e w2 ⟨vx, rfl, hm, hst⟩
    clear c_q_d0 c_q_d1
    obtain ⟨q_d, D_d, S_o, hW, hO, hB⟩ := HQ.out
    clear HQ
    obtain ⟨ax, cx, rfl, gx1, gx2, -, -⟩ := id hm.2
    have hX : LU5 0 w2.heap.size (.slice ax x.dead.length cx) x w2 := LU5.of hm (Nat.le_refl _)
    clear hm gx1 gx2
    have sz_w2 : w1.heap.size ≤ w2.heap.size := hst.size
    replace q_d := q_d.step hst
    replace D_d := D_d.step hst
    replace S_o := S_o.step hst
    replace hW := hW.step hst
    replace hO := hO.step hst
    replace hB := hB.step hst
    clear hst
    have HQ := Lib.hid (And.intro q_d (And.intro D_d (And.intro S_o (And.intro hW (And.intro hO (And.intro hX hB))))))
    clear q_d D_d S_o hW hO hX hB
    have c_q_d0 := LK.cell HQ.out.1 0
    have c_q_d1 := LK.cell HQ.out.1 1
    simp at c_q_d0 c_q_d1
    go_upto_region 6 with (fail)
    clear c_q_d0 c_q_d1
    obtain ⟨q_d, D_d, S_o, hW, hO, hX, hB⟩ := HQ.out
    clear HQ
    have hst := (Below.refl w2.heap.size w2).alloc (Nat.le_refl _) (.cells #[.int .u32 (x.gen.toNat : Int), .int .i64 x.root, .int .u32 (x.next.toNat : Int), .int .u32 (x.table.toNat : Int), .slice ax x.dead.length cx] 25)
    have hlt : w2.heap.size < (w2.alloc (.cells #[.int .u32 (x.gen.toNat : Int), .int .i64 x.root, .int .u32 (x.next.toNat : Int), .int .u32 (x.table.toNat : Int), .slice ax x.dead.length cx] 25)).heap.size := by simp
    have q_x := LK.new w2 (.cells #[.int .u32 (x.gen.toNat : Int), .int .i64 x.root, .int .u32 (x.next.toNat : Int), .int .u32 (x.table.toNat : Int), .slice ax x.dead.length cx] 25)
    replace q_d := q_d.step hst
    replace D_d := D_d.step hst
    replace S_o := S_o.step hst
    replace hW := hW.step hst
    replace hO := hO.step hst
    replace hX := hX.step hst
    replace hB := hB.step hst
    obtain ⟨w3, hw⟩ : ∃ v, w2.alloc (.cells #[.int .u32 (x.gen.toNat : Int), .int .i64 x.root, .int .u32 (x.next.toNat : Int), .int .u32 (x.table.toNat : Int), .slice ax x.dead.length cx] 25) = v := ⟨_, rfl⟩
    rw [hw] at hlt q_x q_d D_d S_o hW hO hX hB ⊢
    clear hw hst
    have sz_w3 := hlt
    clear hlt
    have HQ := Lib.hid (And.intro q_d (And.intro D_d (And.intro S_o (And.intro hW (And.intro hO (And.intro hX (And.intro q_x hB)))))))
    clear q_d D_d S_o hW hO hX q_x hB
    have c_q_d0 := LK.cell HQ.out.1 0
    have c_q_d1 := LK.cell HQ.out.1 1
    have c_q_x0 := LK.cell HQ.out.2.2.2.2.2.2.1 0
    have c_q_x1 := LK.cell HQ.out.2.2.2.2.2.2.1 1
    have c_q_x2 := LK.cell HQ.out.2.2.2.2.2.2.1 2
    have c_q_x3 := LK.cell HQ.out.2.2.2.2.2.2.1 3
    have c_q_x4 := LK.cell HQ.out.2.2.2.2.2.2.1 4
    simp at c_q_d0 c_q_d1 c_q_x0 c_q_x1 c_q_x2 c_q_x3 c_q_x4
    by_cases he : er = 0
    case neg =>
      go_wp2
      go_roundw
      case rel =>
        have hn : atU d j = none := by rw [HA.out, if_neg (fun h => he h.1)]
        exact ⟨j + 1, L, ar, cr, by omega, by go_num, by rw [srtU_none hn, HL.out], rfl, by omega, HQ.out.2.2.1.v, HQ.out.2.2.2.1⟩
      case measure => simp [intOf]; omega
    subst he
    go_wp2_with fail
    refine (HC.out.2.2 x.gen _).mono ?_
    rintro e w0 ⟨rfl, hw0⟩
    rw [hw0]
    clear hw0 w0
    by_cases hg : slotU x.gen = j
    case neg =>
      have hgi : ((slotU x.gen : Int) == (j : Int)) = false := by rw [beq_eq_false_iff_ne]; omega
      go_wp2
      go_roundw
      case rel =>
        have hn : atU d j = none := by rw [HA.out, if_neg (fun h => hg h.2)]
        exact ⟨j + 1, L, ar, cr, by omega, by go_num, by rw [srtU_none hn, HL.out], rfl, by omega, HQ.out.2.2.1.v, HQ.out.2.2.2.1⟩
      case measure => simp [intOf]; omega
    have hn : atU d j = some x := by rw [HA.out, if_pos ⟨by trivial, hg⟩]
    have hgi : ((slotU x.gen : Int) == (j : Int)) = true := by rw [beq_iff_eq]; omega
    have hgi2 : ((slotU x.gen : Int) != (j : Int)) = false := by rw [bne, hgi]; rfl
    have HN := Lib.hid (srtU_some hn)
    clear hn hg
    rw [← HL.out] at HN
    go_wp2_with fail
    clear hgi hgi2
    have hsx : SupV w3 0 w3.heap.size (.slice ax x.dead.length cx) x := LU5.v HQ.out.2.2.2.2.2.1
    have HX := Lib.hid hsx
    clear hsx
    generalize hgx : (x.gen.toNat : Int) = gx at *
    have HGX := Lib.hid hgx
    clear hgx
    go_loopw [7, 8, 9] (fun l p i wr => ∃ (m : Nat) (pt : Bool) (M : List SupL) (am : Option Addr) (cm : Nat), m ≤ L.length ∧ i = .int .i64 m ∧ p = .bool pt ∧ l = .slice am M.length cm ∧ M ++ (if pt = true then L.drop m else insU x (L.drop m)) = insU x L ∧ M.length ≤ 2 * m ∧ OwnR rSuper w3.heap.size 25 0 (fun _ => false) wr (.slice am M.length cm) M ∧ Below w3.heap.size w3 wr) (fun _ _ i _ => L.length - (intOf i).toNat)
    case atStart => exact ⟨0, false, [], none, 0, Nat.zero_le _, rfl, rfl, rfl, by simp, by simp, OwnR.nil_ _ _ _ _ _ _, Below.refl _ _⟩
    case round =>
    obtain ⟨m, pt, M, am, cm, hm, rfl, rfl, rfl, hM, hMl, hown, hBi⟩ := hrel
    have szi := hBi.size
    have HI := Lib.hid (And.intro hM (And.intro hown hBi))
    clear hM hown hBi
    clear c_q_d0 c_q_d1 c_q_x0 c_q_x1 c_q_x2 c_q_x3 c_q_x4
    by_cases hltm : m < L.length
    case pos =>
      obtain ⟨bb, bo, cb, e1, -, zb, -, zc, -⟩ := Sl.at_ HQ.out.2.2.1.v (by omega)
      injection e1 with e1 _ e2
      subst e1 e2
      unfold maxLen at zc
      have hyl := get_l L noU m hltm
      obtain ⟨y, hy⟩ : ∃ y, L.getD m noU = y := ⟨_, rfl⟩
      have hdr : L.drop m = y :: L.drop (m + 1) := by rw [← hy, List.drop_eq_getElem_cons hltm, List.getD_eq_getElem?_getD, List.getElem?_eq_getElem hltm]; rfl
      rw [hy] at hyl
      obtain ⟨y0, y1, y2, y3, ya, yc, y4, hys⟩ := Sl.superAt HQ.out.2.2.1.v m y hyl
      replace y0 := ((HI.out.2.2).cell (p := ⟨bb, bo + m * 5, none⟩) zb).trans y0
      replace y1 := ((HI.out.2.2).cell (p := ⟨bb, bo + m * 5 + 1, none⟩) zb).trans y1
      replace y2 := ((HI.out.2.2).cell (p := ⟨bb, bo + m * 5 + 2, none⟩) zb).trans y2
      replace y3 := ((HI.out.2.2).cell (p := ⟨bb, bo + m * 5 + 3, none⟩) zb).trans y3
      replace y4 := ((HI.out.2.2).cell (p := ⟨bb, bo + m * 5 + 4, none⟩) zb).trans y4
      have HYS := Lib.hid hys
      clear hys
      generalize hgy : (y.gen.toNat : Int) = gy at *
      have HGY := Lib.hid hgy
      clear hgy hy hyl
      have hcmp : y.gen.toNat < x.gen.toNat ↔ gy < gx := by rw [← HGX.out, ← HGY.out]; omega
      have hins : insU x (L.drop m) = if gy < gx then x :: y :: L.drop (m + 1) else y :: insU x (L.drop (m + 1)) := by rw [hdr, insU]; simp only [hcmp]
      have HC2 := Lib.hid (And.intro hdr hins)
      clear hdr hins hcmp
      have i6 : (m : Int) < L.length := by omega
      have i7 : ¬ (L.length : Int) ≤ m := by omega
      have c_x0 := LK.cell (HQ.out.2.2.2.2.2.2.1.step (HI.out.2.2)) 0
      have c_x1 := LK.cell (HQ.out.2.2.2.2.2.2.1.step (HI.out.2.2)) 1
      have c_x2 := LK.cell (HQ.out.2.2.2.2.2.2.1.step (HI.out.2.2)) 2
      have c_x3 := LK.cell (HQ.out.2.2.2.2.2.2.1.step (HI.out.2.2)) 3
      have c_x4 := LK.cell (HQ.out.2.2.2.2.2.2.1.step (HI.out.2.2)) 4
      simp at c_x0 c_x1 c_x2 c_x3 c_x4
      have gcd : decide (gy < gx) = decide (gy < gx) := rfl
      clear gcd
      go_upto_region 12 with (fail)
      go_cut [47] (fun t wx => ∃ q : Bool, t = .bool q ∧ q = (!pt && decide (gy < gx)) ∧ Below wr.heap.size wr wx)
      case first =>
        cases pt
        case true =>
          go_quiet (fail)
          go_wp2
          go_meet
          exact ⟨_, rfl, rfl, below_dn _ _ _⟩
        by_cases hgl : gy < gx
        case pos =>
          go_quiet (fail)
          go_wp2
          go_meet
          exact ⟨_, rfl, by simp [hgl], below_dn _ _ _⟩
        have hgn : ¬ gy < gx := hgl
        go_quiet (fail)
        go_wp2
        go_meet
        exact ⟨_, rfl, by simp [hgl], below_dn _ _ _⟩
      case rest =>
      obtain ⟨q, rfl, hq, hst⟩ := hcut
      obtain ⟨wn, hwn⟩ := named_w hst
      subst hwn
      obtain ⟨wq, hwn⟩ : ∃ v, v = wn := ⟨_, rfl⟩
      subst hwn
      have szq : w3.heap.size ≤ wq.heap.size := by have := hst.size; omega
      have HJ := Lib.hid (And.intro HI.out.1 (And.intro (HI.out.2.1.step rSuper_ck hst) (below_step HI.out.2.2 HI.out.2.2.size hst)))
      replace y0 := (hst.cell (p := ⟨bb, bo + m * 5, none⟩) (by show bb < wr.heap.size; omega)).trans y0
      replace y1 := (hst.cell (p := ⟨bb, bo + m * 5 + 1, none⟩) (by show bb < wr.heap.size; omega)).trans y1
      replace y2 := (hst.cell (p := ⟨bb, bo + m * 5 + 2, none⟩) (by show bb < wr.heap.size; omega)).trans y2
      replace y3 := (hst.cell (p := ⟨bb, bo + m * 5 + 3, none⟩) (by show bb < wr.heap.size; omega)).trans y3
      replace y4 := (hst.cell (p := ⟨bb, bo + m * 5 + 4, none⟩) (by show bb < wr.heap.size; omega)).trans y4
      replace c_x0 := (hst.cell (p := ⟨w2.heap.size, 0, none⟩) (by show w2.heap.size < wr.heap.size; omega)).trans c_x0
      replace c_x1 := (hst.cell (p := ⟨w2.heap.size, 1, none⟩) (by show w2.heap.size < wr.heap.size; omega)).trans c_x1
      replace c_x2 := (hst.cell (p := ⟨w2.heap.size, 2, none⟩) (by show w2.heap.size < wr.heap.size; omega)).trans c_x2
      replace c_x3 := (hst.cell (p := ⟨w2.heap.size, 3, none⟩) (by show w2.heap.size < wr.heap.size; omega)).trans c_x3
      replace c_x4 := (hst.cell (p := ⟨w2.heap.size, 4, none⟩) (by show w2.heap.size < wr.heap.size; omega)).trans c_x4
      clear hst
      cases pt
      case true =>
        obtain rfl : q = false := by rw [hq]; rfl
        clear hq
        have hMt : M.length + 1 ≤ 2 * m + 1 := by omega
        obtain ⟨hra, hrb⟩ := row_superB HJ.out.2.1 (fun _ _ => rfl) (⟨HYS.out.1, (HYS.out.2.below HJ.out.2.2 (Nat.le_refl _))⟩) szq 25
        simp only [wV] at hra hrb
        rw [HGY.out] at hra hrb
        have HR1 := Lib.hid (And.intro hra (And.intro hrb HJ.out.2.2))
        clear hra hrb
        go_wp2_with (at_builtin; refine wpList_appR rSuper_ck rfl (.tmp 52) (.tmp 57) 83 rfl 25 (.agg #[.int .u32 0, .int .i64 0, .int .u32 0, .int .u32 0, .slice none 0 0]) 48 Try.underlying83 (by kernel_rfl) rfl (by decide) w3.heap.size 0 (fun _ => false) (.slice am (M.length) cm) (M) [y] rfl HR1.out.1 (fun _ _ => rfl) ⟨wq.heap.size, 0, none⟩ 1 [.int .u32 gy, .int .i64 y.root, .int .u32 (y.next.toNat : Int), .int .u32 (y.table.toNat : Int), .slice ya y.dead.length yc] rfl rfl (news_one #[.int .u32 gy, .int .i64 y.root, .int .u32 (y.next.toNat : Int), .int .u32 (y.table.toNat : Int), .slice ya y.dead.length yc] 25) (by intro u hu; simp at hu; rcases hu with rfl | rfl | rfl | rfl | rfl <;> rfl) HR1.out.2.1 (by simp only [List.length_append, List.length_singleton]; omega) (by decide) (by rw [World.size_alloc]; omega) ?_; intro a1 c1 z1 hown4 hB4 hf4; clear hf4; rw [show (M ++ [y]).length = M.length + 1 by simp] at hown4 ⊢; have HO1 := Lib.hid (And.intro hown4 (Below.trans (Below.alloc HR1.out.2.2 szq _) hB4)); have sz1 : w3.heap.size ≤ z1.heap.size := HO1.out.2.size; clear hown4 hB4; clear y0 y1 y2 y3 y4 c_x0 c_x1 c_x2 c_x3 c_x4)
        go_roundw
        case rel =>
          refine ⟨m + 1, true, M ++ [y], a1, c1, by omega, by go_num, rfl, by simp, ?_, by simp; omega, by simpa using HO1.out.1, HO1.out.2⟩
          have h1 := HJ.out.1
          simp only [if_true] at h1 ⊢
          rw [HC2.out.1] at h1
          simpa using h1
        case measure => simp [intOf]; omega
      case false =>
        by_cases hgl : gy < gx
        case pos =>
          obtain rfl : q = true := by rw [hq]; simp [hgl]
          clear hq
          obtain ⟨hra, hrb⟩ := row_superB HJ.out.2.1 (fun _ _ => rfl) (⟨HX.out.1, (HX.out.2.below HJ.out.2.2 (Nat.le_refl _))⟩) szq 25
          simp only [wV] at hra hrb
          rw [HGX.out] at hra hrb
          have HR2 := Lib.hid (And.intro hra (And.intro hrb HJ.out.2.2))
          clear hra hrb
          go_upto_region 14 with (at_builtin; refine wpList_appR rSuper_ck rfl (.tmp 48) (.tmp 50) 83 rfl 25 (.agg #[.int .u32 0, .int .i64 0, .int .u32 0, .int .u32 0, .slice none 0 0]) 48 Try.underlying83 (by kernel_rfl) rfl (by decide) w3.heap.size 0 (fun _ => false) (.slice am (M.length) cm) (M) [x] rfl HR2.out.1 (fun _ _ => rfl) ⟨wq.heap.size, 0, none⟩ 1 [.int .u32 gx, .int .i64 x.root, .int .u32 (x.next.toNat : Int), .int .u32 (x.table.toNat : Int), .slice ax x.dead.length cx] rfl rfl (news_one #[.int .u32 gx, .int .i64 x.root, .int .u32 (x.next.toNat : Int), .int .u32 (x.table.toNat : Int), .slice ax x.dead.length cx] 25) (by intro u hu; simp at hu; rcases hu with rfl | rfl | rfl | rfl | rfl <;> rfl) HR2.out.2.1 (by simp only [List.length_append, List.length_singleton]; omega) (by decide) (by rw [World.size_alloc]; omega) ?_; intro a2 c2 z2 hown4 hB4 hf4; clear hf4; rw [show (M ++ [x]).length = M.length + 1 by simp] at hown4 ⊢; have HO2 := Lib.hid (And.intro hown4 (Below.trans (Below.alloc HR2.out.2.2 szq _) hB4)); have sz2 : w3.heap.size ≤ z2.heap.size := HO2.out.2.size; clear hown4 hB4; clear c_x0 c_x1 c_x2 c_x3 c_x4)
          replace y0 := (HO2.out.2.cell (p := ⟨bb, bo + m * 5, none⟩) zb).trans ((HJ.out.2.2.cell (p := ⟨bb, bo + m * 5, none⟩) zb).symm.trans y0)
          replace y1 := (HO2.out.2.cell (p := ⟨bb, bo + m * 5 + 1, none⟩) zb).trans ((HJ.out.2.2.cell (p := ⟨bb, bo + m * 5 + 1, none⟩) zb).symm.trans y1)
          replace y2 := (HO2.out.2.cell (p := ⟨bb, bo + m * 5 + 2, none⟩) zb).trans ((HJ.out.2.2.cell (p := ⟨bb, bo + m * 5 + 2, none⟩) zb).symm.trans y2)
          replace y3 := (HO2.out.2.cell (p := ⟨bb, bo + m * 5 + 3, none⟩) zb).trans ((HJ.out.2.2.cell (p := ⟨bb, bo + m * 5 + 3, none⟩) zb).symm.trans y3)
          replace y4 := (HO2.out.2.cell (p := ⟨bb, bo + m * 5 + 4, none⟩) zb).trans ((HJ.out.2.2.cell (p := ⟨bb, bo + m * 5 + 4, none⟩) zb).symm.trans y4)
          obtain ⟨hra, hrb⟩ := row_superB HO2.out.1 (fun _ _ => rfl) (⟨HYS.out.1, (HYS.out.2.below HO2.out.2 (Nat.le_refl _))⟩) sz2 25
          simp only [wV] at hra hrb
          rw [HGY.out] at hra hrb
          have HR3 := Lib.hid (And.intro hra (And.intro hrb HO2.out.2))
          clear hra hrb
          go_wp2_with (at_builtin; refine wpList_appR rSuper_ck rfl (.tmp 52) (.tmp 57) 83 rfl 25 (.agg #[.int .u32 0, .int .i64 0, .int .u32 0, .int .u32 0, .slice none 0 0]) 48 Try.underlying83 (by kernel_rfl) rfl (by decide) w3.heap.size 0 (fun _ => false) (.slice a2 (M.length + 1) c2) (M ++ [x]) [y] rfl HR3.out.1 (fun _ _ => rfl) ⟨z2.heap.size, 0, none⟩ 1 [.int .u32 gy, .int .i64 y.root, .int .u32 (y.next.toNat : Int), .int .u32 (y.table.toNat : Int), .slice ya y.dead.length yc] rfl rfl (news_one #[.int .u32 gy, .int .i64 y.root, .int .u32 (y.next.toNat : Int), .int .u32 (y.table.toNat : Int), .slice ya y.dead.length yc] 25) (by intro u hu; simp at hu; rcases hu with rfl | rfl | rfl | rfl | rfl <;> rfl) HR3.out.2.1 (by simp only [List.length_append, List.length_singleton]; omega) (by decide) (by rw [World.size_alloc]; omega) ?_; intro a3 c3 z3 hown4 hB4 hf4; clear hf4; rw [show (M ++ [x] ++ [y]).length = M.length + 1 + 1 by simp] at hown4 ⊢; have HO3 := Lib.hid (And.intro hown4 (Below.trans (Below.alloc HR3.out.2.2 sz2 _) hB4)); have sz3 : w3.heap.size ≤ z3.heap.size := HO3.out.2.size; clear hown4 hB4; clear y0 y1 y2 y3 y4)
          go_roundw
          case rel =>
            refine ⟨m + 1, true, M ++ [x] ++ [y], a3, c3, by omega, by go_num, rfl, by simp, ?_, by simp; omega, by simpa using HO3.out.1, HO3.out.2⟩
            have h1 := HJ.out.1
            simp only [Bool.false_eq_true, if_false, if_true] at h1 ⊢
            rw [HC2.out.2, if_pos hgl] at h1
            simpa using h1
          case measure => simp [intOf]; omega
        have hgd : ¬ gy < gx := hgl
        obtain rfl : q = false := by rw [hq]; simp [hgl]
        clear hq
        obtain ⟨hra, hrb⟩ := row_superB HJ.out.2.1 (fun _ _ => rfl) (⟨HYS.out.1, (HYS.out.2.below HJ.out.2.2 (Nat.le_refl _))⟩) szq 25
        simp only [wV] at hra hrb
        rw [HGY.out] at hra hrb
        have HR4 := Lib.hid (And.intro hra (And.intro hrb HJ.out.2.2))
        clear hra hrb
        go_wp2_with (at_builtin; refine wpList_appR rSuper_ck rfl (.tmp 52) (.tmp 57) 83 rfl 25 (.agg #[.int .u32 0, .int .i64 0, .int .u32 0, .int .u32 0, .slice none 0 0]) 48 Try.underlying83 (by kernel_rfl) rfl (by decide) w3.heap.size 0 (fun _ => false) (.slice am (M.length) cm) (M) [y] rfl HR4.out.1 (fun _ _ => rfl) ⟨wq.heap.size, 0, none⟩ 1 [.int .u32 gy, .int .i64 y.root, .int .u32 (y.next.toNat : Int), .int .u32 (y.table.toNat : Int), .slice ya y.dead.length yc] rfl rfl (news_one #[.int .u32 gy, .int .i64 y.root, .int .u32 (y.next.toNat : Int), .int .u32 (y.table.toNat : Int), .slice ya y.dead.length yc] 25) (by intro u hu; simp at hu; rcases hu with rfl | rfl | rfl | rfl | rfl <;> rfl) HR4.out.2.1 (by simp only [List.length_append, List.length_singleton]; omega) (by decide) (by rw [World.size_alloc]; omega) ?_; intro a4 c4 z4 hown4 hB4 hf4; clear hf4; rw [show (M ++ [y]).length = M.length + 1 by simp] at hown4 ⊢; have HO4 := Lib.hid (And.intro hown4 (Below.trans (Below.alloc HR4.out.2.2 szq _) hB4)); have sz4 : w3.heap.size ≤ z4.heap.size := HO4.out.2.size; clear hown4 hB4; clear y0 y1 y2 y3 y4 c_x0 c_x1 c_x2 c_x3 c_x4)
        go_roundw
        case rel =>
          refine ⟨m + 1, false, M ++ [y], a4, c4, by omega, by go_num, rfl, by simp, ?_, by simp; omega, by simpa using HO4.out.1, HO4.out.2⟩
          have h1 := HJ.out.1
          simp only [Bool.false_eq_true, if_false] at h1 ⊢
          rw [HC2.out.2, if_neg hgl] at h1
          simpa using h1
        case measure => simp [intOf]; omega
    obtain rfl : m = L.length := by omega
    have hlx : (insU x L).length = L.length + 1 := by rw [(insU_perm x L).length_eq]; rfl
    have HLX := Lib.hid hlx
    clear hlx
    have hfin := HI.out.1
    rw [List.drop_length] at hfin
    have HFN := Lib.hid hfin
    clear hfin
    have c_x0 := LK.cell (HQ.out.2.2.2.2.2.2.1.step (HI.out.2.2)) 0
    have c_x1 := LK.cell (HQ.out.2.2.2.2.2.2.1.step (HI.out.2.2)) 1
    have c_x2 := LK.cell (HQ.out.2.2.2.2.2.2.1.step (HI.out.2.2)) 2
    have c_x3 := LK.cell (HQ.out.2.2.2.2.2.2.1.step (HI.out.2.2)) 3
    have c_x4 := LK.cell (HQ.out.2.2.2.2.2.2.1.step (HI.out.2.2)) 4
    simp at c_x0 c_x1 c_x2 c_x3 c_x4
    cases pt
    case true =>
      have hMx : M = insU x L := by
        have h1 := HFN.out
        simpa using h1
      have HMX := Lib.hid hMx
      clear hMx
      go_wp2
      go_roundw
      case rel =>
        refine ⟨j + 1, M, am, cm, by omega, by go_num, by rw [HMX.out, HN.out], by simp, by rw [HMX.out, HLX.out]; omega, ?_, ?_⟩
        · have h1 := HI.out.2.1.sl rSuper_ck (lo' := 0) (Nat.zero_le _) (Nat.le_refl _)
          simpa using h1
        · exact HQ.out.2.2.2.1.trans (HI.out.2.2.mono (Below.size HQ.out.2.2.2.1))
      case measure => simp [intOf]; omega
    obtain ⟨hra, hrb⟩ := row_superB HI.out.2.1 (fun _ _ => rfl) (⟨HX.out.1, (HX.out.2.below HI.out.2.2 (Nat.le_refl _))⟩) szi 25
    simp only [wV] at hra hrb
    rw [HGX.out] at hra hrb
    have HR5 := Lib.hid (And.intro hra (And.intro hrb HI.out.2.2))
    clear hra hrb
    go_upto_region 18 with (at_builtin; refine wpList_appR rSuper_ck rfl (.tmp 61) (.tmp 63) 83 rfl 25 (.agg #[.int .u32 0, .int .i64 0, .int .u32 0, .int .u32 0, .slice none 0 0]) 48 Try.underlying83 (by kernel_rfl) rfl (by decide) w3.heap.size 0 (fun _ => false) (.slice am (M.length) cm) (M) [x] rfl HR5.out.1 (fun _ _ => rfl) ⟨wr.heap.size, 0, none⟩ 1 [.int .u32 gx, .int .i64 x.root, .int .u32 (x.next.toNat : Int), .int .u32 (x.table.toNat : Int), .slice ax x.dead.length cx] rfl rfl (news_one #[.int .u32 gx, .int .i64 x.root, .int .u32 (x.next.toNat : Int), .int .u32 (x.table.toNat : Int), .slice ax x.dead.length cx] 25) (by intro u hu; simp at hu; rcases hu with rfl | rfl | rfl | rfl | rfl <;> rfl) HR5.out.2.1 (by simp only [List.length_append, List.length_singleton]; omega) (by decide) (by rw [World.size_alloc]; omega) ?_; intro a5 c5 z5 hown4 hB4 hf4; clear hf4; rw [show (M ++ [x]).length = M.length + 1 by simp] at hown4 ⊢; have HO5 := Lib.hid (And.intro hown4 (Below.trans (Below.alloc HR5.out.2.2 szi _) hB4)); have sz5 : w3.heap.size ≤ z5.heap.size := HO5.out.2.size; clear hown4 hB4; clear c_x0 c_x1 c_x2 c_x3 c_x4)
    have hMx : M ++ [x] = insU x L := by
      have h1 := HFN.out
      simpa [insU] using h1
    have HMX := Lib.hid hMx
    clear hMx
    go_wp2
    go_roundw
    case rel =>
      refine ⟨j + 1, M ++ [x], a5, c5, by omega, by go_num, by rw [HMX.out, HN.out], by simp, by rw [HMX.out, HLX.out]; omega, ?_, ?_⟩
      · have h1 := HO5.out.1.sl rSuper_ck (lo' := 0) (Nat.zero_le _) (Nat.le_refl _)
        simpa using h1
      · exact HQ.out.2.2.2.1.trans (HO5.out.2.mono (Below.size HQ.out.2.2.2.1))
    case measure => simp [intOf]; omega
  obtain rfl : j = 4 := by omega
  have hf : L = findU d := by rw [HL.out]; exact srtU_is d
  have HF := Lib.hid hf
  clear hf
  go_wp2
  go_ret
  exact ⟨_, rfl, by rw [← HF.out]; exact HQ.out.2.2.1.v, HQ.out.2.2.2.2⟩

set_option maxRecDepth 100000 in
set_option maxHeartbeats 1000000 in
theorem rufind_any (d : DiskL) (b_d u_d : Value) (w : World) (h_d : DiskV w 0 w.heap.size b_d u_d d) :
    Calls Try.prog 46 #[.agg #[b_d, u_d]] w fun e w' => ∃ v, e = .returned (.tuple #[v, .int .i64 (errF d)]) ∧ Sl rSuper w' 0 w'.heap.size v (fndU d) ∧ Below w.heap.size w w' := by
  obtain ⟨ab_d, cb_d, rfl, gb_d, gc_d, -, -⟩ := h_d.1
  obtain ⟨au_d, cu_d, rfl, gu_d, gv_d, -, -⟩ := h_d.2
  unfold maxLen at gc_d gv_d
  have hst := ((Below.refl w.heap.size w).alloc (Nat.le_refl _) (.cells #[.slice ab_d d.blocks.length cb_d, .slice au_d d.waits.length cu_d] 44))
  have q_d := LK.new w (.cells #[.slice ab_d d.blocks.length cb_d, .slice au_d d.waits.length cu_d] 44)
  have hB : LW w _ := hst
  have D_d := (LD.of h_d (Nat.le_refl _)).step hst
  have sz_V : w.heap.size + 0 < (w.alloc (.cells #[.slice ab_d d.blocks.length cb_d, .slice au_d d.waits.length cu_d] 44)).heap.size := by simp
  obtain ⟨V, hV⟩ : ∃ V, (w.alloc (.cells #[.slice ab_d d.blocks.length cb_d, .slice au_d d.waits.length cu_d] 44)) = V := ⟨_, rfl⟩
  rw [hV] at sz_V q_d D_d hB
  clear hst h_d
  have HQ := Lib.hid (And.intro q_d (And.intro D_d hB))
  clear q_d D_d hB
  have c_q_d0 := LK.cell HQ.out.1 0
  have c_q_d1 := LK.cell HQ.out.1 1
  simp at c_q_d0 c_q_d1
  obtain ⟨md, hmd⟩ : ∃ z, mayD d = z := ⟨_, rfl⟩
  have h0 : md = false → errF d = 8 ∧ fndU d = [] := fun hm => by unfold errF fndU; rw [hmd, hm]; exact ⟨rfl, rfl⟩
  have h1 : md = true → errF d = if (findU d).length = 0 then 40 else 0 := fun hm => by unfold errF; rw [hmd, hm, if_pos rfl]
  have h3 : md = true → fndU d = findU d := fun hm => by unfold fndU; rw [hmd, hm, if_pos rfl]
  have k_m := fun V b u hh => rmayd_any b u d V hh
  have k_s := fun V b u hh hm => rstand_any d b u V hh hm
  rw [hmd] at k_m k_s
  clear hmd
  generalize errF d = ef at *
  generalize fndU d = fl at *
  generalize findU d = F at *
  have HE := Lib.hid (And.intro h0 (And.intro h1 h3))
  clear h0 h1 h3
  have HC := Lib.hid (And.intro k_m k_s)
  clear k_m k_s
  go_enter Try.func46, Try.ntmps46
  go_upto_region 1 with (fail)
  clear hV
  go_wp2_with fail
  refine (HC.out.1 _ _ _ HQ.out.2.1.v).mono ?_
  rintro e w1 ⟨rfl, hst⟩
  clear c_q_d0 c_q_d1
  obtain ⟨q_d, D_d, hB⟩ := HQ.out
  clear HQ
  have sz_w1 : V.heap.size ≤ w1.heap.size := hst.size
  replace q_d := q_d.step hst
  replace D_d := D_d.step hst
  replace hB := hB.step hst
  clear hst
  have HQ := Lib.hid (And.intro q_d (And.intro D_d hB))
  clear q_d D_d hB
  have c_q_d0 := LK.cell HQ.out.1 0
  have c_q_d1 := LK.cell HQ.out.1 1
  simp at c_q_d0 c_q_d1
  cases md
  case false =>
    obtain ⟨rfl, rfl⟩ := HE.out.1 rfl
    go_wp2
    go_ret2
    exact ⟨_, rfl, Sl.nil_ _ _ _, HQ.out.2.2⟩
  go_wp2_with fail
  refine (HC.out.2 _ _ _ HQ.out.2.1.v (by trivial)).mono ?_
  rintro e w2 ⟨vf, rfl, hm, hst⟩
  clear c_q_d0 c_q_d1
  obtain ⟨q_d, D_d, hB⟩ := HQ.out
  clear HQ
  have S_f := LS.of hm (Nat.le_refl _)
  obtain ⟨af, cf, rfl, gf1, gf2, -, gf3⟩ := id hm
  unfold maxLen at gf2
  clear hm
  have sz_w2 : w1.heap.size ≤ w2.heap.size := hst.size
  replace q_d := q_d.step hst
  replace D_d := D_d.step hst
  replace hB := hB.step hst
  clear hst
  have HQ := Lib.hid (And.intro q_d (And.intro D_d (And.intro S_f hB)))
  clear q_d D_d S_f hB
  have c_q_d0 := LK.cell HQ.out.1 0
  have c_q_d1 := LK.cell HQ.out.1 1
  simp at c_q_d0 c_q_d1
  have he := HE.out.2.1 (by trivial)
  have hf := HE.out.2.2 (by trivial)
  subst hf
  by_cases hz : fl.length = 0
  case pos =>
    rw [if_pos hz] at he
    subst he
    have hF : fl = [] := List.eq_nil_of_length_eq_zero hz
    subst hF
    clear HE hz
    go_wp2
    go_ret2
    exact ⟨_, rfl, Sl.nil_ _ _ _, HQ.out.2.2.2⟩
  rw [if_neg hz] at he
  subst he
  clear HE
  have i1 : ((fl.length : Int) == 0) = false := by rw [beq_eq_false_iff_ne]; omega
  have i3 : ¬ fl = [] := fun e => hz (by rw [e]; rfl)
  have i2 : ¬ (fl.length : Int) = 0 := by omega
  clear hz
  go_wp2
  go_ret2
  exact ⟨_, rfl, HQ.out.2.2.1.v, HQ.out.2.2.2⟩
end Go.Proofs.Ytcibihakjcenaaa

