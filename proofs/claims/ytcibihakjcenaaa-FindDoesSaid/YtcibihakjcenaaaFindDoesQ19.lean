/- FindDoes: the words and contracts, part 19. -/
import Derived.Test.YtcibihakjcenaaaFindDoesQ1
import Derived.Test.YtcibihakjcenaaaFindDoesQ2
import Derived.Test.YtcibihakjcenaaaFindDoesQ3
import Derived.Test.YtcibihakjcenaaaFindDoesQ4
import Derived.Test.YtcibihakjcenaaaFindDoesQ5
import Derived.Test.YtcibihakjcenaaaFindDoesQ6
import Derived.Test.YtcibihakjcenaaaFindDoesQ7
import Derived.Test.YtcibihakjcenaaaFindDoesQ8
import Derived.Test.YtcibihakjcenaaaFindDoesQ9
import Derived.Test.YtcibihakjcenaaaFindDoesQ10
import Derived.Test.YtcibihakjcenaaaFindDoesQ11
import Derived.Test.YtcibihakjcenaaaFindDoesQ12
import Derived.Test.YtcibihakjcenaaaFindDoesQ13
import Derived.Test.YtcibihakjcenaaaFindDoesQ14
import Derived.Test.YtcibihakjcenaaaFindDoesQ15
import Derived.Test.YtcibihakjcenaaaFindDoesQ16
import Derived.Test.YtcibihakjcenaaaFindDoesQ17
import Derived.Test.YtcibihakjcenaaaFindDoesQ18
import Derived.WalkKit
import Derived.WalkLawsBesides
import Derived.WalkSpells
import Derived.Lib.Hide
import Derived.Laws.Rows
import Derived.Laws.AppendOwnNone
import Derived.Maps.AppendAt
import Derived.RangeFuncNested
import Derived.RangeFuncBound
import Derived.RangeFuncCalls
import Derived.RangeFuncLeaves
import Derived.RangeFuncBox
import Derived.Shelf.Abstract
import Derived.Shelf.RegionOpen
import Derived.OwnWalkIn
import Derived.TacticsInMore
import Derived.LoopNIn
import Derived.LoopIn
import Derived.ProofKit
import Derived.Deep.Slices
import Derived.WideShapes
import Derived.OrdersHeld
import Derived.Deep.QuietTactic
import Derived.BigQuiet
import Derived.StillTailTactics
import Derived.OpenShut
import Derived.Lib.SliceRun
import Derived.Lib.AppendZerosOnto
import Derived.Lib.Walk
import Derived.Deep.LoopGhost
import Derived.Laws.CopyOwn
import Derived.Deep.DeepCutAuto
import Derived.Laws.CopyRow
import Derived.Laws.MakeOwn
import Derived.Deep.RegionHeld
import Derived.KernelRfl
import Derived.BigFrameIn
import Derived.OrdersIn
import Derived.Laws.EntriesVeiled
import Derived.Sort.CutIn
import Derived.ArgAppend
namespace Go.Proofs.Ytcibihakjcenaaa
open Go.RowKit

set_option linter.unusedSimpArgs false
/-- What is said of One at a level. -/
def OneC (l : Nat) : Prop := ∀ (b u x y : Value) (s : StoreL) (q : Nat) (k : KeyL) (w : World), StoreV w 0 w.heap.size b u x y s → mayS s = true → 8 ≤ q → q < 256 → errBn s q = 0 → (nodeB s q).level = (l : Int) → (l = 0 ∨ ∃ r, wkGo (oneW s l) none (nodeB s q).items = some r) →
  Calls Try.prog 78 #[.agg #[b, u, x, y], .int .i64 q, .agg #[bV k.kind, wV k.id, wV k.off]] w fun e w' => ∃ v, e = .returned (.tuple #[itemV ((oneR s l (nodeB s q).items k).getD nokI) v, .bool (oneR s l (nodeB s q).items k).isSome]) ∧ Bytes w' w.heap.size w'.heap.size v ((oneR s l (nodeB s q).items k).getD nokI).val ∧ Below w.heap.size w w'
theorem below_fiveR {w W : World} {g : Nat} (h : Below w.heap.size w W) (v0 v1 v2 v3 v4 : Value) (hg : w.heap.size ≤ g) : Below w.heap.size w (((((W.setCell ⟨g, 0, none⟩ v0).setCell ⟨g, 1, none⟩ v1).setCell ⟨g, 2, none⟩ v2).setCell ⟨g, 3, none⟩ v3).setCell ⟨g, 4, none⟩ v4) :=
  ((((h.setCell (p := ⟨g, 0, none⟩) hg _).setCell (p := ⟨g, 1, none⟩) hg _).setCell (p := ⟨g, 2, none⟩) hg _).setCell (p := ⟨g, 3, none⟩) hg _).setCell (p := ⟨g, 4, none⟩) hg _
def bitR (l : Nat) (k : KeyL) (x : ItemL) : Bool := if l = 0 then decide (x.key = k) else !lessK k x.key

set_option maxRecDepth 100000 in
set_option maxHeartbeats 4000000 in
theorem one_step (l : Nat) (ih : ∀ l', l = l' + 1 → OneC l') : OneC l := by
  intro b_s u_s x_s y_s s q k w h_s hm h8 h9 he hlv ht
  obtain ⟨ab_s, cb_s, rfl, gb_s, gc_s, -, -⟩ := h_s.1.1
  obtain ⟨au_s, cu_s, rfl, gu_s, gv_s, -, -⟩ := h_s.1.2
  obtain ⟨ax_s, cx_s, rfl, gx_s, gz_s⟩ := h_s.2.1.form rfl
  obtain ⟨ay_s, cy_s, rfl, gy_s, gw_s⟩ := h_s.2.2.form rfl
  unfold maxLen at gc_s gv_s gz_s gw_s
  obtain ⟨k_k, k_i, k_o⟩ := k
  simp only [bV, wV]
  have hst := ((((Below.refl w.heap.size w).alloc (Nat.le_refl _) (.cells #[.slice ab_s s.disk.blocks.length cb_s, .slice au_s s.disk.waits.length cu_s, .slice ax_s s.now.length cx_s, .slice ay_s s.last.length cy_s] 46)).alloc (by simp) (.cells #[.int .u8 (k_k.toNat : Int), .int .u32 (k_i.toNat : Int), .int .u32 (k_o.toNat : Int)] 48)).alloc (by simp; omega) (.cells #[.int .u8 0, .int .u32 0, .int .u32 0, .int .i64 0, .slice none 0 0] 56))
  have hq := three_new w (.cells #[.slice ab_s s.disk.blocks.length cb_s, .slice au_s s.disk.waits.length cu_s, .slice ax_s s.now.length cx_s, .slice ay_s s.last.length cy_s] 46) (.cells #[.int .u8 (k_k.toNat : Int), .int .u32 (k_i.toNat : Int), .int .u32 (k_o.toNat : Int)] 48) (.cells #[.int .u8 0, .int .u32 0, .int .u32 0, .int .i64 0, .slice none 0 0] 56)
  have q_s := LK.of hq.1
  have q_k := LK.of hq.2.1
  have q_r := LK.of hq.2.2
  have hB : LW w _ := hst
  have O_s := (LO.of h_s (Nat.le_refl _)).step hst
  have sz_V : w.heap.size + 2 < (((w.alloc (.cells #[.slice ab_s s.disk.blocks.length cb_s, .slice au_s s.disk.waits.length cu_s, .slice ax_s s.now.length cx_s, .slice ay_s s.last.length cy_s] 46)).alloc (.cells #[.int .u8 (k_k.toNat : Int), .int .u32 (k_i.toNat : Int), .int .u32 (k_o.toNat : Int)] 48)).alloc (.cells #[.int .u8 0, .int .u32 0, .int .u32 0, .int .i64 0, .slice none 0 0] 56)).heap.size := by simp
  obtain ⟨V, hV⟩ : ∃ V, (((w.alloc (.cells #[.slice ab_s s.disk.blocks.length cb_s, .slice au_s s.disk.waits.length cu_s, .slice ax_s s.now.length cx_s, .slice ay_s s.last.length cy_s] 46)).alloc (.cells #[.int .u8 (k_k.toNat : Int), .int .u32 (k_i.toNat : Int), .int .u32 (k_o.toNat : Int)] 48)).alloc (.cells #[.int .u8 0, .int .u32 0, .int .u32 0, .int .i64 0, .slice none 0 0] 56)) = V := ⟨_, rfl⟩
  rw [hV] at sz_V q_s q_k q_r O_s hB
  clear hst h_s hq
  have HQ := Lib.hid (And.intro q_s (And.intro q_k (And.intro q_r (And.intro O_s hB))))
  clear q_s q_k q_r O_s hB
  have c_q_s0 := LK.cell HQ.out.1 0
  have c_q_s1 := LK.cell HQ.out.1 1
  have c_q_s2 := LK.cell HQ.out.1 2
  have c_q_s3 := LK.cell HQ.out.1 3
  have c_q_k0 := LK.cell HQ.out.2.1 0
  have c_q_k1 := LK.cell HQ.out.2.1 1
  have c_q_k2 := LK.cell HQ.out.2.1 2
  have c_q_r0 := LK.cell HQ.out.2.2.1 0
  have c_q_r1 := LK.cell HQ.out.2.2.1 1
  have c_q_r2 := LK.cell HQ.out.2.2.1 2
  have c_q_r3 := LK.cell HQ.out.2.2.1 3
  have c_q_r4 := LK.cell HQ.out.2.2.1 4
  simp at c_q_s0 c_q_s1 c_q_s2 c_q_s3 c_q_k0 c_q_k1 c_q_k2 c_q_r0 c_q_r1 c_q_r2 c_q_r3 c_q_r4
  have hmb := nodeB_may he
  have hir : isR s (q : Int) = true := by unfold isR; rw [decide_eq_true_eq, Int.toNat_natCast]; exact ⟨by omega, by omega, he⟩
  have hrd : rdR s (q : Int) = nodeB s q := by unfold rdR; rw [hir, if_pos rfl, Int.toNat_natCast]
  obtain ⟨its, hnd⟩ : ∃ its, nodeB s q = ⟨(l : Int), its⟩ := ⟨(nodeB s q).items, by
    cases hh : nodeB s q with
    | mk a b => rw [hh] at hlv; simp only at hlv; rw [hlv]⟩
  have k_r := fun V b u x y hh => rsread_any b u x y s (q : Int) V hh hm
  rw [hir, hrd, hnd] at k_r
  rw [hnd] at hmb ht ⊢
  simp only at k_r hmb ht ⊢
  have hl5 : its.length ≤ 5 := (mayN_all hmb).2.1
  have hl6 : l < 6 := by have := (mayN_all hmb).1.2; simp only at this; omega
  have h0 : l = 0 → oneR s l its (⟨k_k, k_i, k_o⟩ : KeyL) = lastI (bitR l (⟨k_k, k_i, k_o⟩ : KeyL)) its := fun h => by subst h; rfl
  have h1 : ∀ m, l = m + 1 → oneR s l its (⟨k_k, k_i, k_o⟩ : KeyL) = match lastI (bitR l (⟨k_k, k_i, k_o⟩ : KeyL)) its with | none => none | some x => oneR s m (nodeB s x.ref.toNat).items (⟨k_k, k_i, k_o⟩ : KeyL) := fun m h => by subst h; rfl
  have hch := fun m (h : l = m + 1) => below_nodes (s := s) (l := m) (its := its) (q := q) hm he (by rw [← h]; exact hnd) (by rw [← h]; exact ht.resolve_left (by omega))
  have hbz : bitR 0 (⟨k_k, k_i, k_o⟩ : KeyL) = fun x => decide (x.key = (⟨k_k, k_i, k_o⟩ : KeyL)) := rfl
  obtain ⟨R, hR⟩ : ∃ R, oneR s l its (⟨k_k, k_i, k_o⟩ : KeyL) = R := ⟨_, rfl⟩
  rw [hR] at h0 h1 ⊢
  have k_l := fun (x : ItemL) V => rless_any (⟨k_k, k_i, k_o⟩ : KeyL) x.key V
  simp only [keyV, bV, wV] at k_l
  simp only [itemV, bV, wV]
  have HM := Lib.hid (And.intro ih (And.intro hm (And.intro h0 (And.intro h1 hch))))
  clear ih hm h8 h9 he hlv ht hmb hir hrd hnd h0 h1 hch hbz hR
  have HC := Lib.hid (And.intro k_r k_l)
  clear k_r k_l
  go_enter Try.func78, Try.ntmps78
  go_upto_region 1 with (fail)
  clear hV
  go_wp2_with fail
  refine (HC.out.1 _ _ _ _ _ HQ.out.2.2.2.1.v).mono ?_
  rintro e w1 ⟨v9, rfl, hsl, hst⟩
  clear c_q_s0 c_q_s1 c_q_s2 c_q_s3 c_q_k0 c_q_k1 c_q_k2 c_q_r0 c_q_r1 c_q_r2 c_q_r3 c_q_r4
  obtain ⟨q_s, q_k, q_r, O_s, hB⟩ := HQ.out
  clear HQ
  have S_n := LS.of hsl (Nat.le_refl _)
  obtain ⟨a_n, c_n, rfl, g_n, gm_n, -, -⟩ := id hsl
  unfold maxLen at gm_n
  clear hsl
  have sz_w1 : V.heap.size ≤ w1.heap.size := hst.size
  replace q_s := q_s.step hst
  replace q_k := q_k.step hst
  replace q_r := q_r.step hst
  replace O_s := O_s.step hst
  replace hB := hB.step hst
  clear hst
  have HQ := Lib.hid (And.intro q_s (And.intro q_k (And.intro q_r (And.intro O_s (And.intro S_n hB)))))
  clear q_s q_k q_r O_s S_n hB
  have c_q_s0 := LK.cell HQ.out.1 0
  have c_q_s1 := LK.cell HQ.out.1 1
  have c_q_s2 := LK.cell HQ.out.1 2
  have c_q_s3 := LK.cell HQ.out.1 3
  have c_q_k0 := LK.cell HQ.out.2.1 0
  have c_q_k1 := LK.cell HQ.out.2.1 1
  have c_q_k2 := LK.cell HQ.out.2.1 2
  have c_q_r0 := LK.cell HQ.out.2.2.1 0
  have c_q_r1 := LK.cell HQ.out.2.2.1 1
  have c_q_r2 := LK.cell HQ.out.2.2.1 2
  have c_q_r3 := LK.cell HQ.out.2.2.1 3
  have c_q_r4 := LK.cell HQ.out.2.2.1 4
  simp at c_q_s0 c_q_s1 c_q_s2 c_q_s3 c_q_k0 c_q_k1 c_q_k2 c_q_r0 c_q_r1 c_q_r2 c_q_r3 c_q_r4
  go_upto_region 2 with (fail)
  clear c_q_s0 c_q_s1 c_q_s2 c_q_s3 c_q_k0 c_q_k1 c_q_k2 c_q_r0 c_q_r1 c_q_r2 c_q_r3 c_q_r4
  obtain ⟨q_s, q_k, q_r, O_s, S_n, hB⟩ := HQ.out
  clear HQ
  have hst := (Below.refl w1.heap.size w1).alloc (Nat.le_refl _) (.cells #[.int .i64 (l : Int), .slice a_n its.length c_n] 119)
  have hlt : w1.heap.size < (w1.alloc (.cells #[.int .i64 (l : Int), .slice a_n its.length c_n] 119)).heap.size := by simp
  have q_n := LK.new w1 (.cells #[.int .i64 (l : Int), .slice a_n its.length c_n] 119)
  replace q_s := q_s.step hst
  replace q_k := q_k.step hst
  replace q_r := q_r.step hst
  replace O_s := O_s.step hst
  replace S_n := S_n.step hst
  replace hB := hB.step hst
  obtain ⟨w2, hw⟩ : ∃ v, w1.alloc (.cells #[.int .i64 (l : Int), .slice a_n its.length c_n] 119) = v := ⟨_, rfl⟩
  rw [hw] at hlt q_n q_s q_k q_r O_s S_n hB ⊢
  clear hw hst
  have sz_w2 := hlt
  clear hlt
  have HQ := Lib.hid (And.intro q_s (And.intro q_k (And.intro q_r (And.intro O_s (And.intro S_n (And.intro q_n hB))))))
  clear q_s q_k q_r O_s S_n q_n hB
  have c_q_s0 := LK.cell HQ.out.1 0
  have c_q_s1 := LK.cell HQ.out.1 1
  have c_q_s2 := LK.cell HQ.out.1 2
  have c_q_s3 := LK.cell HQ.out.1 3
  have c_q_k0 := LK.cell HQ.out.2.1 0
  have c_q_k1 := LK.cell HQ.out.2.1 1
  have c_q_k2 := LK.cell HQ.out.2.1 2
  have c_q_r0 := LK.cell HQ.out.2.2.1 0
  have c_q_r1 := LK.cell HQ.out.2.2.1 1
  have c_q_r2 := LK.cell HQ.out.2.2.1 2
  have c_q_r3 := LK.cell HQ.out.2.2.1 3
  have c_q_r4 := LK.cell HQ.out.2.2.1 4
  have c_q_n0 := LK.cell HQ.out.2.2.2.2.2.1 0
  have c_q_n1 := LK.cell HQ.out.2.2.2.2.2.1 1
  simp at c_q_s0 c_q_s1 c_q_s2 c_q_s3 c_q_k0 c_q_k1 c_q_k2 c_q_r0 c_q_r1 c_q_r2 c_q_r3 c_q_r4 c_q_n0 c_q_n1
  go_wp2_with fail
  go_loopw [10] (fun i wr => ∃ j : Nat, j ≤ its.length ∧ i = .int .i64 ((j : Int) - 1) ∧ (∀ m, j ≤ m → m < its.length → bitR l (⟨k_k, k_i, k_o⟩ : KeyL) (its.getD m nokI) = false) ∧ Below w2.heap.size w2 wr) (fun i _ => (intOf i + 1).toNat)
  case atStart => exact ⟨its.length, Nat.le_refl _, rfl, fun m h1 h2 => absurd h2 (by omega), Below.refl _ _⟩
  case round =>
  obtain ⟨j, hj, rfl, hall, hst⟩ := hrel
  have HALL := Lib.hid hall
  clear hall
  clear c_q_s0 c_q_s1 c_q_s2 c_q_s3 c_q_k0 c_q_k1 c_q_k2 c_q_r0 c_q_r1 c_q_r2 c_q_r3 c_q_r4 c_q_n0 c_q_n1
  obtain ⟨q_s, q_k, q_r, O_s, S_n, q_n, hB⟩ := HQ.out
  clear HQ
  replace q_s := q_s.step hst
  replace q_k := q_k.step hst
  replace q_r := q_r.step hst
  replace O_s := O_s.step hst
  replace S_n := S_n.step hst
  replace q_n := q_n.step hst
  replace hB := hB.step hst
  have sz_wr := hst.size
  have hW : LW w2 wr := hst
  clear hst
  have HQ := Lib.hid (And.intro q_s (And.intro q_k (And.intro q_r (And.intro O_s (And.intro S_n (And.intro q_n (And.intro hW hB)))))))
  clear q_s q_k q_r O_s S_n q_n hW hB
  have c_q_s0 := LK.cell HQ.out.1 0
  have c_q_s1 := LK.cell HQ.out.1 1
  have c_q_s2 := LK.cell HQ.out.1 2
  have c_q_s3 := LK.cell HQ.out.1 3
  have c_q_k0 := LK.cell HQ.out.2.1 0
  have c_q_k1 := LK.cell HQ.out.2.1 1
  have c_q_k2 := LK.cell HQ.out.2.1 2
  have c_q_r0 := LK.cell HQ.out.2.2.1 0
  have c_q_r1 := LK.cell HQ.out.2.2.1 1
  have c_q_r2 := LK.cell HQ.out.2.2.1 2
  have c_q_r3 := LK.cell HQ.out.2.2.1 3
  have c_q_r4 := LK.cell HQ.out.2.2.1 4
  have c_q_n0 := LK.cell HQ.out.2.2.2.2.2.1 0
  have c_q_n1 := LK.cell HQ.out.2.2.2.2.2.1 1
  simp at c_q_s0 c_q_s1 c_q_s2 c_q_s3 c_q_k0 c_q_k1 c_q_k2 c_q_r0 c_q_r1 c_q_r2 c_q_r3 c_q_r4 c_q_n0 c_q_n1
  by_cases hj0 : j = 0
  case pos =>
    subst hj0
    have hnone : lastI (bitR l (⟨k_k, k_i, k_o⟩ : KeyL)) its = none := lastI_no its fun m hm2 => HALL.out m (Nat.zero_le _) hm2
    have hR : R = none := by
      rcases Nat.eq_zero_or_pos l with h | h
      · rw [HM.out.2.2.1 h, hnone]
      · rw [HM.out.2.2.2.1 (l - 1) (by omega), hnone]
    subst hR
    clear hnone
    clear c_q_s0 c_q_s1 c_q_s2 c_q_s3 c_q_k0 c_q_k1 c_q_k2 c_q_r0 c_q_r1 c_q_r2 c_q_r3 c_q_r4 c_q_n0 c_q_n1
    have c_q_s0 := LK.cell HQ.out.1 0
    have c_q_s1 := LK.cell HQ.out.1 1
    have c_q_s2 := LK.cell HQ.out.1 2
    have c_q_s3 := LK.cell HQ.out.1 3
    have c_q_k0 := LK.cell HQ.out.2.1 0
    have c_q_k1 := LK.cell HQ.out.2.1 1
    have c_q_k2 := LK.cell HQ.out.2.1 2
    have c_q_r0 := LK.cell HQ.out.2.2.1 0
    have c_q_r1 := LK.cell HQ.out.2.2.1 1
    have c_q_r2 := LK.cell HQ.out.2.2.1 2
    have c_q_r3 := LK.cell HQ.out.2.2.1 3
    have c_q_r4 := LK.cell HQ.out.2.2.1 4
    have z_q_r0 := LK.frozen HQ.out.2.2.1 0
    have z_q_r1 := LK.frozen HQ.out.2.2.1 1
    have z_q_r2 := LK.frozen HQ.out.2.2.1 2
    have z_q_r3 := LK.frozen HQ.out.2.2.1 3
    have z_q_r4 := LK.frozen HQ.out.2.2.1 4
    have c_q_n0 := LK.cell HQ.out.2.2.2.2.2.1 0
    have c_q_n1 := LK.cell HQ.out.2.2.2.2.2.1 1
    simp at c_q_s0 c_q_s1 c_q_s2 c_q_s3 c_q_k0 c_q_k1 c_q_k2 c_q_r0 c_q_r1 c_q_r2 c_q_r3 c_q_r4 c_q_n0 c_q_n1
    have hBf := HQ.out.2.2.2.2.2.2.2
    go_wp2
    refine bodyPost_ret (v := .tuple #[.agg #[.int .u8 0, .int .u32 0, .int .u32 0, .int .i64 0, .slice none 0 0], .bool false]) (by simp [results, Try.results78, go_sem, c_q_r0, c_q_r1, c_q_r2, c_q_r3, c_q_r4]) rfl ⟨_, rfl, Bytes.nil_ _ _ _, ?_⟩
    exact below_fiveR hBf _ _ _ _ _ (by omega)
  obtain ⟨i, rfl⟩ : ∃ i, j = i + 1 := ⟨j - 1, by omega⟩
  have hlt : i < its.length := by omega
  have ii : ((i + 1 : Nat) : Int) - 1 = (i : Int) := by omega
  rw [ii]
  clear ii
  obtain ⟨bb, bo, cb, e1, zlo, zb, -, zc, -⟩ := Sl.at_ (Lv.get HQ.out.2.2.2.2.1) (by omega)
  injection e1 with e1 _ e2
  subst e1 e2
  unfold maxLen at zc
  have hyl := get_l its nokI i hlt
  obtain ⟨y, hy⟩ : ∃ y, its.getD i nokI = y := ⟨_, rfl⟩
  have HY := Lib.hid (And.intro hyl hy)
  clear hyl
  have i6 : (i : Int) < its.length := by omega
  have i7 : ¬ (its.length : Int) ≤ i := by omega
  have i8 : ¬ (i : Int) < 0 := by omega
  clear hy
  have hhi := Lv.hi_le HQ.out.2.2.2.2.1
  have zb2 : bb < wr.heap.size := by omega
  obtain ⟨Q5, hQ5⟩ : ∃ q, (decide (0 < l) && !lessK (⟨k_k, k_i, k_o⟩ : KeyL) y.key) = q := ⟨_, rfl⟩
  have HQ5 := Lib.hid hQ5
  clear hQ5
  go_upto_region 5 with (fail)
  go_cut [38] (fun t wx => t = .bool Q5 ∧ Below wr.heap.size wr wx)
  case first =>
    obtain ⟨f0, f1, f2, f3, -, fv, f4, fb⟩ := Sl.cellV (Lv.get HQ.out.2.2.2.2.1) i _ HY.out.1
    have hn5 : rItem.n = 5 := rfl
    rw [hn5, HY.out.2] at f0 f1 f2 f3
    rw [HY.out.2] at fb
    rw [hn5] at f4
    simp only [bV, wV, Nat.add_zero] at f0 f1 f2
    clear hn5
    clear fb f3 f4
    rcases Nat.eq_zero_or_pos l with hl0 | hl0
    · obtain rfl : Q5 = false := by rw [← HQ5.out, hl0]; rfl
      subst hl0
      go_quiet (fail)
      go_wp2
      go_meet
      exact ⟨rfl, below_dn _ _ _⟩
    have e0 : decide ((0 : Int) < (l : Int)) = true := by simp; omega
    have e00 : decide (0 < l) = true := by simp; omega
    have e01 : (0 : Int) < (l : Int) := by omega
    have kl := HC.out.2 y
    obtain ⟨bl, hbl⟩ : ∃ b, lessK (⟨k_k, k_i, k_o⟩ : KeyL) y.key = b := ⟨_, rfl⟩
    rw [hbl] at kl
    have KL := Lib.hid kl
    obtain rfl : Q5 = !bl := by rw [← HQ5.out, e00, hbl]; rfl
    clear kl hbl
    replace f0 := fun X => ((aft_below wr X).cell (p := ⟨bb, bo + i * 5, none⟩) zb2).trans f0
    replace f1 := fun X => ((aft_below wr X).cell (p := ⟨bb, bo + i * 5 + 1, none⟩) zb2).trans f1
    replace f2 := fun X => ((aft_below wr X).cell (p := ⟨bb, bo + i * 5 + 2, none⟩) zb2).trans f2
    clear c_q_s0 c_q_s1 c_q_s2 c_q_s3 c_q_k0 c_q_k1 c_q_k2 c_q_r0 c_q_r1 c_q_r2 c_q_r3 c_q_r4 c_q_n0 c_q_n1
    have x_q_n0 := fun X => LK.cell (HQ.out.2.2.2.2.2.1.step (aft_below wr X)) 0
    have x_q_n1 := fun X => LK.cell (HQ.out.2.2.2.2.2.1.step (aft_below wr X)) 1
    have x_q_k0 := fun X => LK.cell (HQ.out.2.1.step (aft_below wr X)) 0
    have x_q_k1 := fun X => LK.cell (HQ.out.2.1.step (aft_below wr X)) 1
    have x_q_k2 := fun X => LK.cell (HQ.out.2.1.step (aft_below wr X)) 2
    simp at x_q_n0 x_q_n1 x_q_k0 x_q_k1 x_q_k2
    refine wp_region_held_drew (S := Cls wr) (by kernel_rfl) (Cls.drew wr) (fun hCl => ?_)
    refine wpAnyH_seg (fuel := 3) (by kernel_rfl) (fun _ d _ _ _ h => by cases d <;> exact h) hCl [0, 1, 2, 3, 4, 5, 6, 7, 8, 9, 10] _ _ _ (by kernel_rfl) (by kernel_rfl) ?_
    simp only [opsOf_cons, opsOf_nil, consOp_some, List.getElem?_toArray, List.getElem?_cons_succ, List.getElem?_cons_zero]
    repeat (first | go_big_quiet_step (fail) | quiet_step (fail))
    refine wpQuiet_nil ?_
    refine wpAnyH_each (fuel := 2) [11] (by kernel_rfl) (by simp) (by kernel_rfl) ?_
    refine Each.cons _ rfl (fun K' hK => ?_) Each.nil
    go_simp
    refine (KL.out _).mono ?_
    rintro e z1 ⟨rfl, hb⟩
    have hst := below_step hCl.below hCl.below.size hb
    clear hb
    have hCl := Cls.of hst
    refine hK.out (Cls wr) (fun _ h => h) hCl ?_
    clear hK K'
    refine wpAnyH_seg (fuel := 0) (by kernel_rfl) (fun _ d _ _ _ h => by cases d <;> exact h) hCl [12, 13] _ _ _ (by kernel_rfl) (by kernel_rfl) ?_
    simp only [opsOf_cons, opsOf_nil, consOp_some, List.getElem?_toArray, List.getElem?_cons_succ, List.getElem?_cons_zero]
    repeat (first | go_big_quiet_step (fail) | quiet_step (fail))
    refine wpQuiet_nil ?_
    refine wpAnyH_done (by kernel_rfl) ?_ _
    go_wp2
    go_meet
    exact ⟨rfl, hst⟩
  case rest =>
  obtain ⟨rfl, hst⟩ := hcut
  obtain ⟨wn, hwn⟩ := named_w hst
  subst hwn
  obtain ⟨wq, hwn⟩ : ∃ v, v = wn := ⟨_, rfl⟩
  subst hwn
  clear c_q_s0 c_q_s1 c_q_s2 c_q_s3 c_q_k0 c_q_k1 c_q_k2 c_q_r0 c_q_r1 c_q_r2 c_q_r3 c_q_r4 c_q_n0 c_q_n1
  obtain ⟨q_s, q_k, q_r, O_s, S_n, q_n, hW, hB⟩ := HQ.out
  clear HQ
  have sz_wq : wr.heap.size ≤ wq.heap.size := hst.size
  replace q_s := q_s.step hst
  replace q_k := q_k.step hst
  replace q_r := q_r.step hst
  replace O_s := O_s.step hst
  replace S_n := S_n.step hst
  replace q_n := q_n.step hst
  replace hW := hW.step hst
  replace hB := hB.step hst
  clear hst
  have HQ := Lib.hid (And.intro q_s (And.intro q_k (And.intro q_r (And.intro O_s (And.intro S_n (And.intro q_n (And.intro hW hB)))))))
  clear q_s q_k q_r O_s S_n q_n hW hB
  have c_q_s0 := LK.cell HQ.out.1 0
  have c_q_s1 := LK.cell HQ.out.1 1
  have c_q_s2 := LK.cell HQ.out.1 2
  have c_q_s3 := LK.cell HQ.out.1 3
  have c_q_k0 := LK.cell HQ.out.2.1 0
  have c_q_k1 := LK.cell HQ.out.2.1 1
  have c_q_k2 := LK.cell HQ.out.2.1 2
  have c_q_r0 := LK.cell HQ.out.2.2.1 0
  have c_q_r1 := LK.cell HQ.out.2.2.1 1
  have c_q_r2 := LK.cell HQ.out.2.2.1 2
  have c_q_r3 := LK.cell HQ.out.2.2.1 3
  have c_q_r4 := LK.cell HQ.out.2.2.1 4
  have c_q_n0 := LK.cell HQ.out.2.2.2.2.2.1 0
  have c_q_n1 := LK.cell HQ.out.2.2.2.2.2.1 1
  simp at c_q_s0 c_q_s1 c_q_s2 c_q_s3 c_q_k0 c_q_k1 c_q_k2 c_q_r0 c_q_r1 c_q_r2 c_q_r3 c_q_r4 c_q_n0 c_q_n1
  have zb3 : bb < wq.heap.size := by omega
  cases Q5
  case true =>
    have hq := HQ5.out
    rw [Bool.and_eq_true, decide_eq_true_eq] at hq
    obtain ⟨hl0, hnl⟩ := hq
    obtain ⟨m, hm1⟩ : ∃ m, l = m + 1 := ⟨l - 1, by omega⟩
    have hbit : bitR l (⟨k_k, k_i, k_o⟩ : KeyL) y = true := by unfold bitR; rw [if_neg (by omega)]; exact hnl
    have hla : lastI (bitR l (⟨k_k, k_i, k_o⟩ : KeyL)) its = some y := by
      have := lastI_at its i hlt (by rw [HY.out.2]; exact hbit) (fun j h1 h2 => HALL.out j (by omega) h2)
      rw [HY.out.2] at this
      exact this
    have hR := HM.out.2.2.2.1 m hm1
    rw [hla] at hR
    obtain ⟨q2, hq2, h82, h92, he2, hl2, ht2, -⟩ := HM.out.2.2.2.2 m hm1 i hlt
    rw [HY.out.2] at hq2
    have ki := fun V b u x z hh => HM.out.1 m hm1 b u x z s q2 (⟨k_k, k_i, k_o⟩ : KeyL) V hh HM.out.2.1 h82 h92 he2 hl2 (.inr ht2)
    simp only [hq2, Int.toNat_natCast] at hR
    rw [← hR] at ki
    simp only [itemV, bV, wV] at ki
    have KI := Lib.hid ki
    clear ki hR hla hbit hnl hl0 hm1 he2 hl2 ht2
    obtain ⟨f0, f1, f2, f3, -, fv, f4, fb⟩ := Sl.cellV (Lv.get HQ.out.2.2.2.2.1) i _ HY.out.1
    have hn5 : rItem.n = 5 := rfl
    rw [hn5, HY.out.2] at f0 f1 f2 f3
    rw [HY.out.2] at fb
    rw [hn5] at f4
    simp only [bV, wV, Nat.add_zero] at f0 f1 f2
    clear hn5
    clear fb f0 f1 f2 f4
    rw [hq2] at f3
    clear hq2
    clear c_q_s0 c_q_s1 c_q_s2 c_q_s3 c_q_k0 c_q_k1 c_q_k2 c_q_r0 c_q_r1 c_q_r2 c_q_r3 c_q_r4 c_q_n0 c_q_n1
    obtain ⟨Pr, hPr⟩ : ∃ Pr : World → Prop, ∀ X, Pr X ↔ (LK w.heap.size (.cells #[.slice ab_s s.disk.blocks.length cb_s, .slice au_s s.disk.waits.length cu_s, .slice ax_s s.now.length cx_s, .slice ay_s s.last.length cy_s] 46) X ∧ LK (w.heap.size + 1) (.cells #[.int .u8 (k_k.toNat : Int), .int .u32 (k_i.toNat : Int), .int .u32 (k_o.toNat : Int)] 48) X ∧ LK w1.heap.size (.cells #[.int .i64 (l : Int), .slice (some ⟨bb, bo, none⟩) its.length c_n] 119) X ∧ X.cell? ⟨bb, bo + i * 5 + 3, none⟩ = some (.int .i64 (q2 : Int))) := ⟨_, fun _ => Iff.rfl⟩
    have hdr := (Below.refl wq.heap.size wq).drew
    have hP : Pr wq.drew := (hPr _).2 ⟨HQ.out.1.step hdr, HQ.out.2.1.step hdr, HQ.out.2.2.2.2.2.1.step hdr, (hdr.cell (p := ⟨bb, bo + i * 5 + 3, none⟩) zb3).trans f3⟩
    have HW := Lib.hid (And.intro (LW.step HQ.out.2.2.2.2.2.2.2 hdr) (And.intro (HQ.out.2.2.1.step hdr) (HQ.out.2.2.2.1.step hdr)))
    clear hdr f3
    have hPs : ∀ X, Pr (selW Pr wq.drew X) := fun X => selW_pr hP X
    have e0 := fun X => LK.cell ((hPr _).1 (hPs X)).1 0
    have e1 := fun X => LK.cell ((hPr _).1 (hPs X)).1 1
    have e2 := fun X => LK.cell ((hPr _).1 (hPs X)).1 2
    have e3 := fun X => LK.cell ((hPr _).1 (hPs X)).1 3
    have g0 := fun X => LK.cell ((hPr _).1 (hPs X)).2.1 0
    have g1 := fun X => LK.cell ((hPr _).1 (hPs X)).2.1 1
    have g2 := fun X => LK.cell ((hPr _).1 (hPs X)).2.1 2
    have n0 := fun X => LK.cell ((hPr _).1 (hPs X)).2.2.1 0
    have n1 := fun X => LK.cell ((hPr _).1 (hPs X)).2.2.1 1
    have f3 := fun X => ((hPr _).1 (hPs X)).2.2.2
    simp at e0 e1 e2 e3 g0 g1 g2 n0 n1
    go_upto_region 6 with (fail)
    obtain ⟨Y, hY⟩ : ∃ y, R.getD nokI = y := ⟨_, rfl⟩
    rw [hY] at KI
    have HYY := Lib.hid hY
    clear hY
    refine wp_region_L (S := Kl Pr wq.drew) 12 (by kernel_rfl) (Kl.of hP) (fun hCl => ?_)
    refine wpAnyL_seg (fuel := 5) (by kernel_rfl) (fun _ d _ _ _ h => by cases d <;> exact h) hCl [0, 1, 2, 3, 4, 5, 6, 7] _ _ _ (by kernel_rfl) (by kernel_rfl) (by kernel_rfl) (by kernel_rfl) ?_
    simp only [opsOf_cons, opsOf_nil, consOp_some, List.getElem?_toArray, List.getElem?_cons_succ, List.getElem?_cons_zero]
    repeat (first | go_big_quiet_step (fail) | quiet_step (fail))
    refine wpQuiet_nil ?_
    refine wpAnyL_each (fuel := 4) [8] (by kernel_rfl) (by simp) (by kernel_rfl) ?_
    refine EachL.cons _ rfl (fun K' hK => ?_) EachL.nil
    go_simp
    refine (KI.out _ _ _ _ _ HW.out.2.2.v).mono ?_
    rintro e z2 ⟨vv, rfl, hbv, hs⟩
    obtain ⟨ya, yc, rfl, -, -⟩ := hbv.form rfl
    have hst : Pr z2 := (hPr _).2 ⟨((hPr _).1 hP).1.step hs, ((hPr _).1 hP).2.1.step hs, ((hPr _).1 hP).2.2.1.step hs, (hs.cell (p := ⟨bb, bo + i * 5 + 3, none⟩) zb3).trans ((hPr _).1 hP).2.2.2⟩
    have q3 := HW.out.2.1.step hs
    have r0 := LK.cell q3 0
    have r1 := LK.cell q3 1
    have r2 := LK.cell q3 2
    have r3 := LK.cell q3 3
    have r4 := LK.cell q3 4
    simp at r0 r1 r2 r3 r4
    have z_0 := LK.frozen q3 0
    have z_1 := LK.frozen q3 1
    have z_2 := LK.frozen q3 2
    have z_3 := LK.frozen q3 3
    have z_4 := LK.frozen q3 4
    have HX := Lib.hid (And.intro hbv (And.intro hs q3))
    have szz := hs.size
    clear hbv hs q3
    have hCl : Kl Pr wq.drew _ := Kl.of hst
    refine hK.out (.inr hCl) ?_
    clear hK K'
    refine wpAnyL_seg (fuel := 2) (by kernel_rfl) (fun _ d _ _ _ h => by cases d <;> exact h) hCl [9, 10] _ _ _ (by kernel_rfl) (by kernel_rfl) (by kernel_rfl) (by kernel_rfl) ?_
    simp only [opsOf_cons, opsOf_nil, consOp_some, List.getElem?_toArray, List.getElem?_cons_succ, List.getElem?_cons_zero]
    repeat (first | go_big_quiet_step (fail) | quiet_step (fail))
    refine wpQuiet_nil ?_
    refine wpAnyL_each (fuel := 1) [11] (by kernel_rfl) (by simp) (by kernel_rfl) ?_
    refine EachL.cons _ rfl (fun K' hK => ?_) EachL.nil
    go_simp
    obtain ⟨z4, hz4⟩ : ∃ z, (((((z2.setCell ⟨w.heap.size + 1 + 1, 0, none⟩ (.int .u8 (Y.key.kind.toNat : Int))).setCell ⟨w.heap.size + 1 + 1, 1, none⟩ (.int .u32 (Y.key.id.toNat : Int))).setCell ⟨w.heap.size + 1 + 1, 2, none⟩ (.int .u32 (Y.key.off.toNat : Int))).setCell ⟨w.heap.size + 1 + 1, 3, none⟩ (.int .i64 Y.ref)).setCell ⟨w.heap.size + 1 + 1, 4, none⟩ (.slice ya Y.val.length yc)) = z := ⟨_, rfl⟩
    rw [hz4]
    have hso : ∀ k, k ≠ w.heap.size + 1 + 1 → z4.heap[k]? = z2.heap[k]? := fun k hk => by rw [← hz4]; exact (set_other _ _ _ _ _ hk).trans ((set_other _ _ _ _ _ hk).trans ((set_other _ _ _ _ _ hk).trans ((set_other _ _ _ _ _ hk).trans ((set_other _ _ _ _ _ hk)))))
    have q4 : z4.heap[w.heap.size + 1 + 1]? = some (.cells #[.int .u8 (Y.key.kind.toNat : Int), .int .u32 (Y.key.id.toNat : Int), .int .u32 (Y.key.off.toNat : Int), .int .i64 Y.ref, .slice ya Y.val.length yc] 56) := by rw [← hz4]; exact (set_block (set_block (set_block (set_block (set_block HX.out.2.2.blk 0 _) 1 _) 2 _) 3 _) 4 _)
    have hsz : z4.heap.size = z2.heap.size := by rw [← hz4]; simp only [World.size_setCell]
    have hst : Pr z4 := (hPr _).2 ⟨LK.of ((hso _ (by omega)).trans ((hPr _).1 hst).1.blk), LK.of ((hso _ (by omega)).trans ((hPr _).1 hst).2.1.blk), LK.of ((hso _ (by omega)).trans ((hPr _).1 hst).2.2.1.blk), (heap_cell (hso bb (by omega)) (bo + i * 5 + 3)).trans ((hPr _).1 hst).2.2.2⟩
    have hBz : Below w.heap.size w z4 := by rw [← hz4]; exact below_fiveR (LW.step HW.out.1 HX.out.2.1) _ _ _ _ _ (by omega)
    have HZ := Lib.hid (And.intro hso (And.intro q4 (And.intro hsz hBz)))
    clear hso q4 hsz hBz hz4 r0 r1 r2 r3 r4 z_0 z_1 z_2 z_3 z_4
    have hCl : Kl Pr wq.drew _ := Kl.of hst
    refine hK.out (.inr hCl) ?_
    clear hK K'
    refine wpAnyL_each (fuel := 0) [12] (by kernel_rfl) (by simp) (by kernel_rfl) ?_
    refine EachL.cons _ rfl (fun K' hK => ?_) EachL.nil
    go_simp
    refine hK.out (.inl rfl) ?_
    clear hK K'
    refine wpAnyL_done (by kernel_rfl) ?_ _
    have c_q_r0 := blk_cell HZ.out.2.1 0
    have c_q_r1 := blk_cell HZ.out.2.1 1
    have c_q_r2 := blk_cell HZ.out.2.1 2
    have c_q_r3 := blk_cell HZ.out.2.1 3
    have c_q_r4 := blk_cell HZ.out.2.1 4
    simp at c_q_r0 c_q_r1 c_q_r2 c_q_r3 c_q_r4
    go_wp2
    refine bodyPost_ret (v := .tuple #[.agg #[.int .u8 (Y.key.kind.toNat : Int), .int .u32 (Y.key.id.toNat : Int), .int .u32 (Y.key.off.toNat : Int), .int .i64 Y.ref, .slice ya Y.val.length yc], .bool R.isSome]) (by simp [results, Try.results78, go_sem, c_q_r0, c_q_r1, c_q_r2, c_q_r3, c_q_r4]) rfl ⟨.slice ya Y.val.length yc, by rw [HYY.out], ?_, HZ.out.2.2.2⟩
    rw [HYY.out]
    have hzs := HZ.out.2.2.1
    have hww := HW.out.1.size
    have hdl : wq.drew.heap.size = wq.heap.size := rfl
    exact (HX.out.1.kept (fun k o h1 h2 => ⟨heap_cell (HZ.out.1 k (by omega)) o, heap_frozen (HZ.out.1 k (by omega)) o⟩)).more (by omega) (by omega)
  obtain ⟨Q7, hQ7⟩ : ∃ q, (decide (l = 0) && decide (y.key = (⟨k_k, k_i, k_o⟩ : KeyL))) = q := ⟨_, rfl⟩
  have HQ7 := Lib.hid hQ7
  clear hQ7
  go_upto_region 7 with (fail)
  go_cut [62] (fun t wx => t = .bool Q7 ∧ Below wq.heap.size wq wx)
  case first =>
    clear c_q_s0 c_q_s1 c_q_s2 c_q_s3 c_q_k0 c_q_k1 c_q_k2 c_q_r0 c_q_r1 c_q_r2 c_q_r3 c_q_r4 c_q_n0 c_q_n1
    have c_q_s0 := LK.cell HQ.out.1 0
    have c_q_s1 := LK.cell HQ.out.1 1
    have c_q_s2 := LK.cell HQ.out.1 2
    have c_q_s3 := LK.cell HQ.out.1 3
    have c_q_k0 := LK.cell HQ.out.2.1 0
    have c_q_k1 := LK.cell HQ.out.2.1 1
    have c_q_k2 := LK.cell HQ.out.2.1 2
    have c_q_n0 := LK.cell HQ.out.2.2.2.2.2.1 0
    have c_q_n1 := LK.cell HQ.out.2.2.2.2.2.1 1
    simp at c_q_s0 c_q_s1 c_q_s2 c_q_s3 c_q_k0 c_q_k1 c_q_k2 c_q_n0 c_q_n1
    obtain ⟨f0, f1, f2, f3, -, fv, f4, fb⟩ := Sl.cellV (Lv.get HQ.out.2.2.2.2.1) i _ HY.out.1
    have hn5 : rItem.n = 5 := rfl
    rw [hn5, HY.out.2] at f0 f1 f2 f3
    rw [HY.out.2] at fb
    rw [hn5] at f4
    simp only [bV, wV, Nat.add_zero] at f0 f1 f2
    clear hn5
    clear fb f3 f4
    rcases Nat.eq_zero_or_pos l with hl0 | hl0
    case inr =>
      have e0 : ((l : Int) == 0) = false := by rw [beq_eq_false_iff_ne]; omega
      have e1 : ¬ l = 0 := by omega
      obtain rfl : Q7 = false := by rw [← HQ7.out, decide_eq_false e1]; rfl
      go_quiet (fail)
      go_wp2
      go_meet
      exact ⟨rfl, below_dn _ _ _⟩
    by_cases hk : y.key = (⟨k_k, k_i, k_o⟩ : KeyL)
    case pos =>
      obtain rfl : Q7 = true := by rw [← HQ7.out, decide_eq_true hl0, decide_eq_true hk]; rfl
      have ek : ∀ W, (Op.equalIn 10000 48 (.agg #[.int .u8 (y.key.kind.toNat : Int), .int .u32 (y.key.id.toNat : Int), .int .u32 (y.key.off.toNat : Int)]) (.agg #[.int .u8 (k_k.toNat : Int), .int .u32 (k_i.toNat : Int), .int .u32 (k_o.toNat : Int)])).run Try.prog W = .ok true W := fun W => (eq_key y.key (⟨k_k, k_i, k_o⟩ : KeyL) W).trans (congrArg (fun z => Result.ok z W) (decide_eq_true hk))
      have HK := Lib.hid hk
      clear hk
      subst hl0
      go_quiet (fail)
      go_wp2
      go_meet
      exact ⟨rfl, below_dn _ _ _⟩
    obtain rfl : Q7 = false := by rw [← HQ7.out, decide_eq_false hk]; simp
    have ek : ∀ W, (Op.equalIn 10000 48 (.agg #[.int .u8 (y.key.kind.toNat : Int), .int .u32 (y.key.id.toNat : Int), .int .u32 (y.key.off.toNat : Int)]) (.agg #[.int .u8 (k_k.toNat : Int), .int .u32 (k_i.toNat : Int), .int .u32 (k_o.toNat : Int)])).run Try.prog W = .ok false W := fun W => (eq_key y.key (⟨k_k, k_i, k_o⟩ : KeyL) W).trans (congrArg (fun z => Result.ok z W) (decide_eq_false hk))
    have HK := Lib.hid hk
    clear hk
    subst hl0
    go_quiet (fail)
    go_wp2
    go_meet
    exact ⟨rfl, below_dn _ _ _⟩
  case rest =>
  obtain ⟨rfl, hst⟩ := hcut
  obtain ⟨wn, hwn⟩ := named_w hst
  subst hwn
  obtain ⟨wx, hwn⟩ : ∃ v, v = wn := ⟨_, rfl⟩
  subst hwn
  clear c_q_s0 c_q_s1 c_q_s2 c_q_s3 c_q_k0 c_q_k1 c_q_k2 c_q_r0 c_q_r1 c_q_r2 c_q_r3 c_q_r4 c_q_n0 c_q_n1
  obtain ⟨q_s, q_k, q_r, O_s, S_n, q_n, hW, hB⟩ := HQ.out
  clear HQ
  have sz_wx : wq.heap.size ≤ wx.heap.size := hst.size
  replace q_s := q_s.step hst
  replace q_k := q_k.step hst
  replace q_r := q_r.step hst
  replace O_s := O_s.step hst
  replace S_n := S_n.step hst
  replace q_n := q_n.step hst
  replace hW := hW.step hst
  replace hB := hB.step hst
  clear hst
  have HQ := Lib.hid (And.intro q_s (And.intro q_k (And.intro q_r (And.intro O_s (And.intro S_n (And.intro q_n (And.intro hW hB)))))))
  clear q_s q_k q_r O_s S_n q_n hW hB
  cases Q7
  case true =>
    have hq := HQ7.out
    rw [Bool.and_eq_true, decide_eq_true_eq, decide_eq_true_eq] at hq
    obtain ⟨hl0, hk⟩ := hq
    have hbit : bitR l (⟨k_k, k_i, k_o⟩ : KeyL) y = true := by unfold bitR; rw [if_pos hl0]; exact decide_eq_true hk
    have hla : lastI (bitR l (⟨k_k, k_i, k_o⟩ : KeyL)) its = some y := by
      have := lastI_at its i hlt (by rw [HY.out.2]; exact hbit) (fun j h1 h2 => HALL.out j (by omega) h2)
      rw [HY.out.2] at this
      exact this
    have hR : R = some y := by rw [HM.out.2.2.1 hl0, hla]
    have HR := Lib.hid hR
    clear hl0 hk hbit hla hR
    obtain ⟨f0, f1, f2, f3, -, fv, f4, fb⟩ := Sl.cellV (Lv.get HQ.out.2.2.2.2.1) i _ HY.out.1
    have hn5 : rItem.n = 5 := rfl
    rw [hn5, HY.out.2] at f0 f1 f2 f3
    rw [HY.out.2] at fb
    rw [hn5] at f4
    simp only [bV, wV, Nat.add_zero] at f0 f1 f2
    clear hn5
    obtain ⟨fa, fc, rfl, -, -⟩ := fb.form rfl
    have c_q_r0 := LK.cell HQ.out.2.2.1 0
    have c_q_r1 := LK.cell HQ.out.2.2.1 1
    have c_q_r2 := LK.cell HQ.out.2.2.1 2
    have c_q_r3 := LK.cell HQ.out.2.2.1 3
    have c_q_r4 := LK.cell HQ.out.2.2.1 4
    have z_q_r0 := LK.frozen HQ.out.2.2.1 0
    have z_q_r1 := LK.frozen HQ.out.2.2.1 1
    have z_q_r2 := LK.frozen HQ.out.2.2.1 2
    have z_q_r3 := LK.frozen HQ.out.2.2.1 3
    have z_q_r4 := LK.frozen HQ.out.2.2.1 4
    have c_q_n0 := LK.cell HQ.out.2.2.2.2.2.1 0
    have c_q_n1 := LK.cell HQ.out.2.2.2.2.2.1 1
    simp at c_q_r0 c_q_r1 c_q_r2 c_q_r3 c_q_r4 c_q_n0 c_q_n1
    have hBf := HQ.out.2.2.2.2.2.2.2
    have HFB := Lib.hid fb
    clear fb
    go_wp2
    refine bodyPost_ret (v := .tuple #[.agg #[.int .u8 (y.key.kind.toNat : Int), .int .u32 (y.key.id.toNat : Int), .int .u32 (y.key.off.toNat : Int), .int .i64 y.ref, .slice fa y.val.length fc], .bool true]) (by simp [results, Try.results78, go_sem, c_q_r0, c_q_r1, c_q_r2, c_q_r3, c_q_r4]) rfl ⟨.slice fa y.val.length fc, by rw [HR.out]; rfl, ?_, below_fiveR hBf _ _ _ _ _ (by omega)⟩
    rw [HR.out]
    have hso : ∀ k, k ≠ w.heap.size + 1 + 1 → (((((wx.setCell ⟨w.heap.size + 1 + 1, 0, none⟩ (.int .u8 (y.key.kind.toNat : Int))).setCell ⟨w.heap.size + 1 + 1, 1, none⟩ (.int .u32 (y.key.id.toNat : Int))).setCell ⟨w.heap.size + 1 + 1, 2, none⟩ (.int .u32 (y.key.off.toNat : Int))).setCell ⟨w.heap.size + 1 + 1, 3, none⟩ (.int .i64 y.ref)).setCell ⟨w.heap.size + 1 + 1, 4, none⟩ (.slice fa y.val.length fc)).heap[k]? = wx.heap[k]? := fun k hk => (set_other _ _ _ _ _ hk).trans ((set_other _ _ _ _ _ hk).trans ((set_other _ _ _ _ _ hk).trans ((set_other _ _ _ _ _ hk).trans ((set_other _ _ _ _ _ hk)))))
    have hsz : (((((wx.setCell ⟨w.heap.size + 1 + 1, 0, none⟩ (.int .u8 (y.key.kind.toNat : Int))).setCell ⟨w.heap.size + 1 + 1, 1, none⟩ (.int .u32 (y.key.id.toNat : Int))).setCell ⟨w.heap.size + 1 + 1, 2, none⟩ (.int .u32 (y.key.off.toNat : Int))).setCell ⟨w.heap.size + 1 + 1, 3, none⟩ (.int .i64 y.ref)).setCell ⟨w.heap.size + 1 + 1, 4, none⟩ (.slice fa y.val.length fc)).heap.size = wx.heap.size := by simp only [World.size_setCell]
    exact (HFB.out.kept (fun k o h1 h2 => ⟨heap_cell (hso k (by omega)) o, heap_frozen (hso k (by omega)) o⟩)).more (by omega) (by rw [hsz]; omega)
  have hbit : bitR l (⟨k_k, k_i, k_o⟩ : KeyL) y = false := by
    unfold bitR
    rcases Nat.eq_zero_or_pos l with hl0 | hl0
    · rw [if_pos hl0]
      have := HQ7.out
      rw [decide_eq_true hl0, Bool.true_and] at this
      exact this
    · rw [if_neg (by omega)]
      have := HQ5.out
      rw [decide_eq_true hl0, Bool.true_and] at this
      exact this
  have hal2 : ∀ m, i ≤ m → m < its.length → bitR l (⟨k_k, k_i, k_o⟩ : KeyL) (its.getD m nokI) = false := fun m h1 h2 => by
    rcases Nat.lt_or_ge i m with h | h
    · exact HALL.out m (by omega) h2
    · obtain rfl : m = i := by omega
      rw [HY.out.2]
      exact hbit
  have HA2 := Lib.hid hal2
  clear hal2 hbit
  go_wp2
  go_roundw
  case rel => exact ⟨i, by omega, by go_num, HA2.out, HQ.out.2.2.2.2.2.2.1⟩
  case measure => simp [intOf]
theorem one_any : ∀ l, OneC l
  | 0 => one_step 0 fun _ h => by omega
  | l + 1 => one_step (l + 1) fun l' h => by
    obtain rfl : l' = l := by omega
    exact one_any _
end Go.Proofs.Ytcibihakjcenaaa

namespace Go.Proofs.Ytcibihakjcenaaa
open Go.RowKit

set_option linter.unusedSimpArgs false
set_option maxRecDepth 100000 in
set_option maxHeartbeats 2000000 in
theorem rffind_any (b_s u_s x_s y_s : Value) (s : StoreL) (p : Int) (k : KeyL) (w : World) (h_s : StoreV w 0 w.heap.size b_s u_s x_s y_s s) :
    Calls Try.prog 30 #[.agg #[b_s, u_s, x_s, y_s], .int .i64 p, .agg #[bV k.kind, wV k.id, wV k.off]] w fun e w' => ∃ v, e = .returned (.tuple #[itemV (itmF s p k) v, .int .i64 (errFd s p k)]) ∧ Bytes w' 0 w'.heap.size v (itmF s p k).val ∧ Below w.heap.size w w' := by
  obtain ⟨ab_s, cb_s, rfl, gb_s, gc_s, -, -⟩ := h_s.1.1
  obtain ⟨au_s, cu_s, rfl, gu_s, gv_s, -, -⟩ := h_s.1.2
  obtain ⟨ax_s, cx_s, rfl, gx_s, gz_s⟩ := h_s.2.1.form rfl
  obtain ⟨ay_s, cy_s, rfl, gy_s, gw_s⟩ := h_s.2.2.form rfl
  unfold maxLen at gc_s gv_s gz_s gw_s
  obtain ⟨k_k, k_i, k_o⟩ := k
  simp only [bV, wV]
  have hst := ((((Below.refl w.heap.size w).alloc (Nat.le_refl _) (.cells #[.slice ab_s s.disk.blocks.length cb_s, .slice au_s s.disk.waits.length cu_s, .slice ax_s s.now.length cx_s, .slice ay_s s.last.length cy_s] 46)).alloc (by simp) (.cells #[.int .u8 (k_k.toNat : Int), .int .u32 (k_i.toNat : Int), .int .u32 (k_o.toNat : Int)] 48)).alloc (by simp; omega) (.cells #[.int .u8 0, .int .u32 0, .int .u32 0, .int .i64 0, .slice none 0 0] 56))
  have hq := three_new w (.cells #[.slice ab_s s.disk.blocks.length cb_s, .slice au_s s.disk.waits.length cu_s, .slice ax_s s.now.length cx_s, .slice ay_s s.last.length cy_s] 46) (.cells #[.int .u8 (k_k.toNat : Int), .int .u32 (k_i.toNat : Int), .int .u32 (k_o.toNat : Int)] 48) (.cells #[.int .u8 0, .int .u32 0, .int .u32 0, .int .i64 0, .slice none 0 0] 56)
  have q_s := LK.of hq.1
  have q_k := LK.of hq.2.1
  have q_r := LK.of hq.2.2
  have hB : LW w _ := hst
  have O_s := (LO.of h_s (Nat.le_refl _)).step hst
  have sz_V : w.heap.size + 2 < (((w.alloc (.cells #[.slice ab_s s.disk.blocks.length cb_s, .slice au_s s.disk.waits.length cu_s, .slice ax_s s.now.length cx_s, .slice ay_s s.last.length cy_s] 46)).alloc (.cells #[.int .u8 (k_k.toNat : Int), .int .u32 (k_i.toNat : Int), .int .u32 (k_o.toNat : Int)] 48)).alloc (.cells #[.int .u8 0, .int .u32 0, .int .u32 0, .int .i64 0, .slice none 0 0] 56)).heap.size := by simp
  obtain ⟨V, hV⟩ : ∃ V, (((w.alloc (.cells #[.slice ab_s s.disk.blocks.length cb_s, .slice au_s s.disk.waits.length cu_s, .slice ax_s s.now.length cx_s, .slice ay_s s.last.length cy_s] 46)).alloc (.cells #[.int .u8 (k_k.toNat : Int), .int .u32 (k_i.toNat : Int), .int .u32 (k_o.toNat : Int)] 48)).alloc (.cells #[.int .u8 0, .int .u32 0, .int .u32 0, .int .i64 0, .slice none 0 0] 56)) = V := ⟨_, rfl⟩
  rw [hV] at sz_V q_s q_k q_r O_s hB
  clear hst h_s hq
  have HQ := Lib.hid (And.intro q_s (And.intro q_k (And.intro q_r (And.intro O_s hB))))
  clear q_s q_k q_r O_s hB
  have c_q_s0 := LK.cell HQ.out.1 0
  have c_q_s1 := LK.cell HQ.out.1 1
  have c_q_s2 := LK.cell HQ.out.1 2
  have c_q_s3 := LK.cell HQ.out.1 3
  have c_q_k0 := LK.cell HQ.out.2.1 0
  have c_q_k1 := LK.cell HQ.out.2.1 1
  have c_q_k2 := LK.cell HQ.out.2.1 2
  have c_q_r0 := LK.cell HQ.out.2.2.1 0
  have c_q_r1 := LK.cell HQ.out.2.2.1 1
  have c_q_r2 := LK.cell HQ.out.2.2.1 2
  have c_q_r3 := LK.cell HQ.out.2.2.1 3
  have c_q_r4 := LK.cell HQ.out.2.2.1 4
  simp at c_q_s0 c_q_s1 c_q_s2 c_q_s3 c_q_k0 c_q_k1 c_q_k2 c_q_r0 c_q_r1 c_q_r2 c_q_r3 c_q_r4
  have hno : errCk s p ≠ 0 → errFd s p (⟨k_k, k_i, k_o⟩ : KeyL) = errCk s p ∧ itmF s p (⟨k_k, k_i, k_o⟩ : KeyL) = nokI := fun h => by
    have h1 : errFd s p (⟨k_k, k_i, k_o⟩ : KeyL) = errCk s p := by unfold errFd; rw [if_pos h]
    exact ⟨h1, by unfold itmF; rw [h1, if_neg h]⟩
  have hyes : errCk s p = 0 → ∃ (q l : Nat), p = q ∧ 8 ≤ q ∧ q < 256 ∧ mayS s = true ∧ errBn s q = 0 ∧ (nodeB s q).level = (l : Int) ∧ (l = 0 ∨ ∃ r, wkGo (oneW s l) none (nodeB s q).items = some r) ∧ errFd s p (⟨k_k, k_i, k_o⟩ : KeyL) = (if (oneR s l (nodeB s q).items (⟨k_k, k_i, k_o⟩ : KeyL)).isSome then 0 else 6) ∧ itmF s p (⟨k_k, k_i, k_o⟩ : KeyL) = (oneR s l (nodeB s q).items (⟨k_k, k_i, k_o⟩ : KeyL)).getD nokI := fun h => by
    have T := errCk_zero h
    have t1 := T.lo
    have t2 := T.hi
    obtain ⟨q, rfl⟩ : ∃ q : Nat, p = q := ⟨p.toNat, by omega⟩
    have te := T.err
    have tn := T.node
    have tl := T.level
    have tt := T.top
    rw [Int.toNat_natCast] at te tn tl tt
    have ht : (nodeB s q).level.toNat = 0 ∨ ∃ r, wkGo (oneW s (nodeB s q).level.toNat) none (nodeB s q).items = some r := by
      rcases tt with ⟨-, h3⟩ | h3
      · exact .inl h3
      · exact .inr h3
    have hone := one_is _ _ (⟨k_k, k_i, k_o⟩ : KeyL) tn ht
    have hf : fndC s (q : Int) (⟨k_k, k_i, k_o⟩ : KeyL) = oneR s (nodeB s q).level.toNat (nodeB s q).items (⟨k_k, k_i, k_o⟩ : KeyL) := by unfold fndC; rw [Int.toNat_natCast, hone]
    have hE : errFd s (q : Int) (⟨k_k, k_i, k_o⟩ : KeyL) = (if (oneR s (nodeB s q).level.toNat (nodeB s q).items (⟨k_k, k_i, k_o⟩ : KeyL)).isSome then 0 else 6) := by unfold errFd; rw [if_neg (by simp [h]), hf]
    refine ⟨q, (nodeB s q).level.toNat, rfl, by omega, by omega, T.may, te, tl, ht, hE, ?_⟩
    unfold itmF
    rw [hE, hf]
    cases oneR s (nodeB s q).level.toNat (nodeB s q).items (⟨k_k, k_i, k_o⟩ : KeyL) with
    | none => rfl
    | some y => rfl
  have k_c := fun V b u x y hh => rfcheck_any b u x y s p V hh
  have k_one := fun (l q : Nat) V b u x y hh h1 h2 h3 h4 h5 h6 => one_any l b u x y s q (⟨k_k, k_i, k_o⟩ : KeyL) V hh h1 h2 h3 h4 h5 h6
  simp only [itemV, bV, wV] at k_one ⊢
  generalize errCk s p = ec at *
  generalize heiC s p = hc at *
  obtain ⟨ef, hef⟩ : ∃ q, errFd s p (⟨k_k, k_i, k_o⟩ : KeyL) = q := ⟨_, rfl⟩
  obtain ⟨it, hit⟩ : ∃ q, itmF s p (⟨k_k, k_i, k_o⟩ : KeyL) = q := ⟨_, rfl⟩
  rw [hef, hit] at hno hyes ⊢
  have HN := Lib.hid (And.intro hno hyes)
  clear hno hyes hef hit
  have HC := Lib.hid (And.intro k_c k_one)
  clear k_c k_one
  go_enter Try.func30, Try.ntmps30
  go_upto_region 1 with (fail)
  clear hV
  go_wp2_with fail
  refine (HC.out.1 _ _ _ _ _ HQ.out.2.2.2.1.v).mono ?_
  rintro e w1 ⟨rfl, hst⟩
  clear c_q_s0 c_q_s1 c_q_s2 c_q_s3 c_q_k0 c_q_k1 c_q_k2 c_q_r0 c_q_r1 c_q_r2 c_q_r3 c_q_r4
  obtain ⟨q_s, q_k, q_r, O_s, hB⟩ := HQ.out
  clear HQ
  have sz_w1 : V.heap.size ≤ w1.heap.size := hst.size
  replace q_s := q_s.step hst
  replace q_k := q_k.step hst
  replace q_r := q_r.step hst
  replace O_s := O_s.step hst
  replace hB := hB.step hst
  clear hst
  have HQ := Lib.hid (And.intro q_s (And.intro q_k (And.intro q_r (And.intro O_s hB))))
  clear q_s q_k q_r O_s hB
  have c_q_s0 := LK.cell HQ.out.1 0
  have c_q_s1 := LK.cell HQ.out.1 1
  have c_q_s2 := LK.cell HQ.out.1 2
  have c_q_s3 := LK.cell HQ.out.1 3
  have c_q_k0 := LK.cell HQ.out.2.1 0
  have c_q_k1 := LK.cell HQ.out.2.1 1
  have c_q_k2 := LK.cell HQ.out.2.1 2
  have c_q_r0 := LK.cell HQ.out.2.2.1 0
  have c_q_r1 := LK.cell HQ.out.2.2.1 1
  have c_q_r2 := LK.cell HQ.out.2.2.1 2
  have c_q_r3 := LK.cell HQ.out.2.2.1 3
  have c_q_r4 := LK.cell HQ.out.2.2.1 4
  simp at c_q_s0 c_q_s1 c_q_s2 c_q_s3 c_q_k0 c_q_k1 c_q_k2 c_q_r0 c_q_r1 c_q_r2 c_q_r3 c_q_r4
  by_cases hz : ec = 0
  case neg =>
    obtain ⟨rfl, rfl⟩ := HN.out.1 hz
    have i1 : (ef != 0) = true := by simp [hz]
    have i2 : (ef == 0) = false := by simp [hz]
    clear hz
    clear c_q_s0 c_q_s1 c_q_s2 c_q_s3 c_q_k0 c_q_k1 c_q_k2 c_q_r0 c_q_r1 c_q_r2 c_q_r3 c_q_r4
    have c_q_s0 := LK.cell HQ.out.1 0
    have c_q_s1 := LK.cell HQ.out.1 1
    have c_q_s2 := LK.cell HQ.out.1 2
    have c_q_s3 := LK.cell HQ.out.1 3
    have c_q_k0 := LK.cell HQ.out.2.1 0
    have c_q_k1 := LK.cell HQ.out.2.1 1
    have c_q_k2 := LK.cell HQ.out.2.1 2
    have c_q_r0 := LK.cell HQ.out.2.2.1 0
    have c_q_r1 := LK.cell HQ.out.2.2.1 1
    have c_q_r2 := LK.cell HQ.out.2.2.1 2
    have c_q_r3 := LK.cell HQ.out.2.2.1 3
    have c_q_r4 := LK.cell HQ.out.2.2.1 4
    have z_q_r0 := LK.frozen HQ.out.2.2.1 0
    have z_q_r1 := LK.frozen HQ.out.2.2.1 1
    have z_q_r2 := LK.frozen HQ.out.2.2.1 2
    have z_q_r3 := LK.frozen HQ.out.2.2.1 3
    have z_q_r4 := LK.frozen HQ.out.2.2.1 4
    simp at c_q_s0 c_q_s1 c_q_s2 c_q_s3 c_q_k0 c_q_k1 c_q_k2 c_q_r0 c_q_r1 c_q_r2 c_q_r3 c_q_r4
    have hBf := HQ.out.2.2.2.2
    go_wp2
    refine bodyPost_ret (v := .tuple #[.agg #[.int .u8 0, .int .u32 0, .int .u32 0, .int .i64 0, .slice none 0 0], .int .i64 ef]) (by simp [results, Try.results30, go_sem, c_q_r0, c_q_r1, c_q_r2, c_q_r3, c_q_r4]) rfl ⟨_, rfl, Bytes.nil_ _ _ _, below_fiveR hBf _ _ _ _ _ (by omega)⟩
  obtain ⟨q, l, rfl, h8, h9, hm, he, hl, ht, hef, hit⟩ := HN.out.2 hz
  subst hz
  have ko := fun V b u x y hh => HC.out.2 l q V b u x y hh hm h8 h9 he hl ht
  obtain ⟨R, hR⟩ : ∃ R, oneR s l (nodeB s q).items (⟨k_k, k_i, k_o⟩ : KeyL) = R := ⟨_, rfl⟩
  rw [hR] at ko hef hit
  rw [← hit] at ko
  have KO := Lib.hid ko
  have HE := Lib.hid (And.intro hef hit)
  clear ko hef hR hm h8 h9 he hl ht HN hit
  go_wp2_with fail
  refine (KO.out _ _ _ _ _ HQ.out.2.2.2.1.v).mono ?_
  rintro e w2 ⟨v9, rfl, hb, hst⟩
  clear c_q_s0 c_q_s1 c_q_s2 c_q_s3 c_q_k0 c_q_k1 c_q_k2 c_q_r0 c_q_r1 c_q_r2 c_q_r3 c_q_r4
  obtain ⟨q_s, q_k, q_r, O_s, hB⟩ := HQ.out
  clear HQ
  obtain ⟨a_x, c_x, rfl, -, -⟩ := hb.form rfl
  have B_x := LB.of hb (Nat.le_refl _)
  clear hb
  have sz_w2 : w1.heap.size ≤ w2.heap.size := hst.size
  replace q_s := q_s.step hst
  replace q_k := q_k.step hst
  replace q_r := q_r.step hst
  replace O_s := O_s.step hst
  replace hB := hB.step hst
  clear hst
  have HQ := Lib.hid (And.intro q_s (And.intro q_k (And.intro q_r (And.intro O_s (And.intro B_x hB)))))
  clear q_s q_k q_r O_s B_x hB
  have c_q_s0 := LK.cell HQ.out.1 0
  have c_q_s1 := LK.cell HQ.out.1 1
  have c_q_s2 := LK.cell HQ.out.1 2
  have c_q_s3 := LK.cell HQ.out.1 3
  have c_q_k0 := LK.cell HQ.out.2.1 0
  have c_q_k1 := LK.cell HQ.out.2.1 1
  have c_q_k2 := LK.cell HQ.out.2.1 2
  have c_q_r0 := LK.cell HQ.out.2.2.1 0
  have c_q_r1 := LK.cell HQ.out.2.2.1 1
  have c_q_r2 := LK.cell HQ.out.2.2.1 2
  have c_q_r3 := LK.cell HQ.out.2.2.1 3
  have c_q_r4 := LK.cell HQ.out.2.2.1 4
  simp at c_q_s0 c_q_s1 c_q_s2 c_q_s3 c_q_k0 c_q_k1 c_q_k2 c_q_r0 c_q_r1 c_q_r2 c_q_r3 c_q_r4
  go_upto_region 5 with (fail)
  clear c_q_s0 c_q_s1 c_q_s2 c_q_s3 c_q_k0 c_q_k1 c_q_k2 c_q_r0 c_q_r1 c_q_r2 c_q_r3 c_q_r4
  obtain ⟨q_s, q_k, q_r, O_s, B_x, hB⟩ := HQ.out
  clear HQ
  have hst := (Below.refl w2.heap.size w2).alloc (Nat.le_refl _) (.cells #[.int .u8 (it.key.kind.toNat : Int), .int .u32 (it.key.id.toNat : Int), .int .u32 (it.key.off.toNat : Int), .int .i64 it.ref, .slice a_x it.val.length c_x] 56)
  have hlt : w2.heap.size < (w2.alloc (.cells #[.int .u8 (it.key.kind.toNat : Int), .int .u32 (it.key.id.toNat : Int), .int .u32 (it.key.off.toNat : Int), .int .i64 it.ref, .slice a_x it.val.length c_x] 56)).heap.size := by simp
  have q_x := LK.new w2 (.cells #[.int .u8 (it.key.kind.toNat : Int), .int .u32 (it.key.id.toNat : Int), .int .u32 (it.key.off.toNat : Int), .int .i64 it.ref, .slice a_x it.val.length c_x] 56)
  replace q_s := q_s.step hst
  replace q_k := q_k.step hst
  replace q_r := q_r.step hst
  replace O_s := O_s.step hst
  replace B_x := B_x.step hst
  replace hB := hB.step hst
  obtain ⟨w3, hw⟩ : ∃ v, w2.alloc (.cells #[.int .u8 (it.key.kind.toNat : Int), .int .u32 (it.key.id.toNat : Int), .int .u32 (it.key.off.toNat : Int), .int .i64 it.ref, .slice a_x it.val.length c_x] 56) = v := ⟨_, rfl⟩
  rw [hw] at hlt q_x q_s q_k q_r O_s B_x hB ⊢
  clear hw hst
  have sz_w3 := hlt
  clear hlt
  have HQ := Lib.hid (And.intro q_s (And.intro q_k (And.intro q_r (And.intro O_s (And.intro B_x (And.intro q_x hB))))))
  clear q_s q_k q_r O_s B_x q_x hB
  have c_q_s0 := LK.cell HQ.out.1 0
  have c_q_s1 := LK.cell HQ.out.1 1
  have c_q_s2 := LK.cell HQ.out.1 2
  have c_q_s3 := LK.cell HQ.out.1 3
  have c_q_k0 := LK.cell HQ.out.2.1 0
  have c_q_k1 := LK.cell HQ.out.2.1 1
  have c_q_k2 := LK.cell HQ.out.2.1 2
  have c_q_r0 := LK.cell HQ.out.2.2.1 0
  have c_q_r1 := LK.cell HQ.out.2.2.1 1
  have c_q_r2 := LK.cell HQ.out.2.2.1 2
  have c_q_r3 := LK.cell HQ.out.2.2.1 3
  have c_q_r4 := LK.cell HQ.out.2.2.1 4
  have c_q_x0 := LK.cell HQ.out.2.2.2.2.2.1 0
  have c_q_x1 := LK.cell HQ.out.2.2.2.2.2.1 1
  have c_q_x2 := LK.cell HQ.out.2.2.2.2.2.1 2
  have c_q_x3 := LK.cell HQ.out.2.2.2.2.2.1 3
  have c_q_x4 := LK.cell HQ.out.2.2.2.2.2.1 4
  simp at c_q_s0 c_q_s1 c_q_s2 c_q_s3 c_q_k0 c_q_k1 c_q_k2 c_q_r0 c_q_r1 c_q_r2 c_q_r3 c_q_r4 c_q_x0 c_q_x1 c_q_x2 c_q_x3 c_q_x4
  cases R
  case none =>
    have hef := HE.out.1
    rw [if_neg (by decide)] at hef
    have hi : it = nokI := HE.out.2
    subst hef hi
    clear c_q_s0 c_q_s1 c_q_s2 c_q_s3 c_q_k0 c_q_k1 c_q_k2 c_q_r0 c_q_r1 c_q_r2 c_q_r3 c_q_r4 c_q_x0 c_q_x1 c_q_x2 c_q_x3 c_q_x4
    have c_q_s0 := LK.cell HQ.out.1 0
    have c_q_s1 := LK.cell HQ.out.1 1
    have c_q_s2 := LK.cell HQ.out.1 2
    have c_q_s3 := LK.cell HQ.out.1 3
    have c_q_k0 := LK.cell HQ.out.2.1 0
    have c_q_k1 := LK.cell HQ.out.2.1 1
    have c_q_k2 := LK.cell HQ.out.2.1 2
    have c_q_r0 := LK.cell HQ.out.2.2.1 0
    have c_q_r1 := LK.cell HQ.out.2.2.1 1
    have c_q_r2 := LK.cell HQ.out.2.2.1 2
    have c_q_r3 := LK.cell HQ.out.2.2.1 3
    have c_q_r4 := LK.cell HQ.out.2.2.1 4
    have z_q_r0 := LK.frozen HQ.out.2.2.1 0
    have z_q_r1 := LK.frozen HQ.out.2.2.1 1
    have z_q_r2 := LK.frozen HQ.out.2.2.1 2
    have z_q_r3 := LK.frozen HQ.out.2.2.1 3
    have z_q_r4 := LK.frozen HQ.out.2.2.1 4
    simp at c_q_s0 c_q_s1 c_q_s2 c_q_s3 c_q_k0 c_q_k1 c_q_k2 c_q_r0 c_q_r1 c_q_r2 c_q_r3 c_q_r4
    have hBf := HQ.out.2.2.2.2.2.2
    go_wp2
    refine bodyPost_ret (v := .tuple #[.agg #[.int .u8 0, .int .u32 0, .int .u32 0, .int .i64 0, .slice none 0 0], .int .i64 6]) (by simp [results, Try.results30, go_sem, c_q_r0, c_q_r1, c_q_r2, c_q_r3, c_q_r4]) rfl ⟨_, rfl, Bytes.nil_ _ _ _, below_fiveR hBf _ _ _ _ _ (by omega)⟩
  have hef := HE.out.1
  rw [show (some _ : Option ItemL).isSome = true from rfl, if_pos rfl] at hef
  subst hef
  clear c_q_s0 c_q_s1 c_q_s2 c_q_s3 c_q_k0 c_q_k1 c_q_k2 c_q_r0 c_q_r1 c_q_r2 c_q_r3 c_q_r4 c_q_x0 c_q_x1 c_q_x2 c_q_x3 c_q_x4
  have c_q_r0 := LK.cell HQ.out.2.2.1 0
  have c_q_r1 := LK.cell HQ.out.2.2.1 1
  have c_q_r2 := LK.cell HQ.out.2.2.1 2
  have c_q_r3 := LK.cell HQ.out.2.2.1 3
  have c_q_r4 := LK.cell HQ.out.2.2.1 4
  have z_q_r0 := LK.frozen HQ.out.2.2.1 0
  have z_q_r1 := LK.frozen HQ.out.2.2.1 1
  have z_q_r2 := LK.frozen HQ.out.2.2.1 2
  have z_q_r3 := LK.frozen HQ.out.2.2.1 3
  have z_q_r4 := LK.frozen HQ.out.2.2.1 4
  have c_q_x0 := LK.cell HQ.out.2.2.2.2.2.1 0
  have c_q_x1 := LK.cell HQ.out.2.2.2.2.2.1 1
  have c_q_x2 := LK.cell HQ.out.2.2.2.2.2.1 2
  have c_q_x3 := LK.cell HQ.out.2.2.2.2.2.1 3
  have c_q_x4 := LK.cell HQ.out.2.2.2.2.2.1 4
  simp at c_q_r0 c_q_r1 c_q_r2 c_q_r3 c_q_r4 c_q_x0 c_q_x1 c_q_x2 c_q_x3 c_q_x4
  have hBf := HQ.out.2.2.2.2.2.2
  have hB2 := HQ.out.2.2.2.2.1
  go_wp2
  refine bodyPost_ret (v := .tuple #[.agg #[.int .u8 (it.key.kind.toNat : Int), .int .u32 (it.key.id.toNat : Int), .int .u32 (it.key.off.toNat : Int), .int .i64 it.ref, .slice a_x it.val.length c_x], .int .i64 0]) (by simp [results, Try.results30, go_sem, c_q_r0, c_q_r1, c_q_r2, c_q_r3, c_q_r4]) rfl ⟨.slice a_x it.val.length c_x, rfl, ?_, below_fiveR hBf _ _ _ _ _ (by omega)⟩
  have hso : ∀ k, k ≠ w.heap.size + 1 + 1 → (((((w3.setCell ⟨w.heap.size + 1 + 1, 0, none⟩ (.int .u8 (it.key.kind.toNat : Int))).setCell ⟨w.heap.size + 1 + 1, 1, none⟩ (.int .u32 (it.key.id.toNat : Int))).setCell ⟨w.heap.size + 1 + 1, 2, none⟩ (.int .u32 (it.key.off.toNat : Int))).setCell ⟨w.heap.size + 1 + 1, 3, none⟩ (.int .i64 it.ref)).setCell ⟨w.heap.size + 1 + 1, 4, none⟩ (.slice a_x it.val.length c_x)).heap[k]? = w3.heap[k]? := fun k hk => (set_other _ _ _ _ _ hk).trans ((set_other _ _ _ _ _ hk).trans ((set_other _ _ _ _ _ hk).trans ((set_other _ _ _ _ _ hk).trans ((set_other _ _ _ _ _ hk)))))
  have hsz : (((((w3.setCell ⟨w.heap.size + 1 + 1, 0, none⟩ (.int .u8 (it.key.kind.toNat : Int))).setCell ⟨w.heap.size + 1 + 1, 1, none⟩ (.int .u32 (it.key.id.toNat : Int))).setCell ⟨w.heap.size + 1 + 1, 2, none⟩ (.int .u32 (it.key.off.toNat : Int))).setCell ⟨w.heap.size + 1 + 1, 3, none⟩ (.int .i64 it.ref)).setCell ⟨w.heap.size + 1 + 1, 4, none⟩ (.slice a_x it.val.length c_x)).heap.size = w3.heap.size := by simp only [World.size_setCell]
  exact (hB2.out (n0 := w.heap.size + 2) (h0 := w.heap.size + 3) (Nat.le_of_eq hsz.symm) (fun x _ h => hso x (by omega)) (by omega)).v

end Go.Proofs.Ytcibihakjcenaaa

namespace Go.Proofs.Ytcibihakjcenaaa
open Go.RowKit

/-- A slice of n cells, each of which holds a byte and may be written. -/
def SpoB (w : World) (lo hi : Nat) (v : Value) (n : Nat) : Prop := ∃ a c, v = .slice a n c ∧ n ≤ c ∧ c ≤ maxLen ∧
  (0 < n → ∃ b off, a = some ⟨b, off, none⟩ ∧ lo ≤ b ∧ b < hi ∧ ∀ i, i < n → ∃ x : UInt8, w.cell? ⟨b, off + i, none⟩ = some (bV x) ∧ w.frozen? ⟨b, off + i, none⟩ = false)
theorem SpoB.of {w : World} {lo hi : Nat} {v : Value} {l : List UInt8} (h : Bytes w lo hi v l) (ht : Thawed w v) : SpoB w lo hi v l.length := by
  obtain ⟨a, c, rfl, h1, h2, h3, h4⟩ := h
  refine ⟨a, c, rfl, h1, h2, fun hp => ?_⟩
  obtain ⟨b, off, rfl, hlo, hhi, hc⟩ := h3 hp
  exact ⟨b, off, rfl, hlo, hhi, fun i hi => ⟨l[i], hc i l[i] (by simp [hi]), ht _ _ _ _ rfl i hi⟩⟩
/-- A byte is stored where there was one: bytes stay bytes. -/
theorem SpoB.set {w : World} {lo hi : Nat} {v : Value} {n : Nat} (h : SpoB w lo hi v n) (p : Addr) (x y : UInt8) (hp : w.cell? p = some (bV x)) : SpoB (w.setCell p (bV y)) lo hi v n := by
  obtain ⟨a, c, e, h1, h2, h3⟩ := h
  refine ⟨a, c, e, h1, h2, fun hn => ?_⟩
  obtain ⟨b, off, ea, hlo, hhi, hc⟩ := h3 hn
  refine ⟨b, off, ea, hlo, hhi, fun i hi => ?_⟩
  obtain ⟨z, hz, hf⟩ := hc i hi
  by_cases e : p = ⟨b, off + i, none⟩
  · subst e
    exact ⟨y, World.cell?_setCell_same' _ _ _ (by rw [hz]; rfl), by rw [World.frozen?_setCell]; exact hf⟩
  · exact ⟨z, by rw [World.cell?_setCell_other _ _ _ _ e]; exact hz, by rw [World.frozen?_setCell]; exact hf⟩
theorem SpoB.below {w w' : World} {lo hi B : Nat} {v : Value} {n : Nat} (h : SpoB w lo hi v n) (hb : Below B w w') (hB : hi ≤ B) : SpoB w' lo hi v n := by
  obtain ⟨a, c, e, h1, h2, h3⟩ := h
  refine ⟨a, c, e, h1, h2, fun hn => ?_⟩
  obtain ⟨b, off, ea, hlo, hhi, hc⟩ := h3 hn
  refine ⟨b, off, ea, hlo, hhi, fun i hi => ?_⟩
  obtain ⟨z, hz, hf⟩ := hc i hi
  exact ⟨z, (hb.cell (p := ⟨b, off + i, none⟩) (by show b < B; omega)).trans hz, (hb.frozen (p := ⟨b, off + i, none⟩) (by show b < B; omega)).trans hf⟩
/-- A cell that holds no byte stays. -/
theorem spo_other {w : World} {p q : Addr} {x : UInt8} {y : UInt8} {v : Value} (hp : w.cell? p = some (bV x)) (hq : w.cell? q = some v) (hv : ∀ z : UInt8, v ≠ bV z) : (w.setCell p (bV y)).cell? q = some v := by
  rw [World.cell?_setCell_other _ _ _ _ (fun e => ?_)]
  · exact hq
  · subst e
    rw [hp] at hq
    exact hv x (Option.some.inj hq).symm
/-- A slice of k elements of n cells, number f of which holds such a slice of bytes. -/
def SpS (n f : Nat) (w : World) (lo hi : Nat) (s : Value) (k : Nat) : Prop := ∃ a c, s = .slice a k c ∧ k ≤ c ∧ c ≤ maxLen ∧
  (0 < k → ∃ b off, a = some ⟨b, off, none⟩ ∧ lo ≤ b ∧ b < hi ∧ ∀ i, i < k → ∃ x c m, w.cell? ⟨b, off + i * n + f, none⟩ = some (.slice x m c) ∧ SpoB w lo hi (.slice x m c) m)
theorem SpoB.form {w : World} {lo hi : Nat} {v : Value} {n : Nat} (h : SpoB w lo hi v n) : ∃ a c, v = .slice a n c ∧ n ≤ c ∧ c ≤ maxLen := by
  obtain ⟨a, c, e, h1, h2, -⟩ := h
  exact ⟨a, c, e, h1, h2⟩
theorem SpS.set {n f : Nat} {w : World} {lo hi : Nat} {s : Value} {k : Nat} (h : SpS n f w lo hi s k) (p : Addr) (x y : UInt8) (hp : w.cell? p = some (bV x)) : SpS n f (w.setCell p (bV y)) lo hi s k := by
  obtain ⟨a, c, e, h1, h2, h3⟩ := h
  refine ⟨a, c, e, h1, h2, fun hn => ?_⟩
  obtain ⟨b, off, ea, hlo, hhi, hc⟩ := h3 hn
  refine ⟨b, off, ea, hlo, hhi, fun i hi => ?_⟩
  obtain ⟨u, c2, m, g1, g2⟩ := hc i hi
  exact ⟨u, c2, m, spo_other hp g1 (fun z e => by cases e), g2.set p x y hp⟩
theorem SpS.below {n f : Nat} {w w' : World} {lo hi B : Nat} {s : Value} {k : Nat} (h : SpS n f w lo hi s k) (hb : Below B w w') (hB : hi ≤ B) : SpS n f w' lo hi s k := by
  obtain ⟨a, c, e, h1, h2, h3⟩ := h
  refine ⟨a, c, e, h1, h2, fun hn => ?_⟩
  obtain ⟨b, off, ea, hlo, hhi, hc⟩ := h3 hn
  refine ⟨b, off, ea, hlo, hhi, fun i hi => ?_⟩
  obtain ⟨u, c2, m, g1, g2⟩ := hc i hi
  exact ⟨u, c2, m, (hb.cell (p := ⟨b, off + i * n + f, none⟩) (by show b < B; omega)).trans g1, g2.below hb hB⟩
theorem spo_add (x : UInt8) : ((x.toNat : Int) + 1) % 256 = ((x + 1).toNat : Int) := by
  rw [UInt8.toNat_add]
  simp
end Go.Proofs.Ytcibihakjcenaaa

