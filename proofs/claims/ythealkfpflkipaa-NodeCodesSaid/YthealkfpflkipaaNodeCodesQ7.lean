/- NodeCodes: the words and contracts, part 7. -/
import Derived.Test.YthealkfpflkipaaNodeCodesQ1
import Derived.Test.YthealkfpflkipaaNodeCodesQ2
import Derived.Test.YthealkfpflkipaaNodeCodesQ3
import Derived.Test.YthealkfpflkipaaNodeCodesQ4
import Derived.Test.YthealkfpflkipaaNodeCodesQ5
import Derived.Test.YthealkfpflkipaaNodeCodesQ6
import Derived.WalkKit
import Derived.WalkLawsBesides
import Derived.WalkSpells
import Derived.Lib.Hide
import Derived.Laws.Rows
import Derived.Laws.AppendOwnNone
import Derived.Maps.AppendAt
import Derived.RangeFuncNested
import Derived.RangeFuncBound
import Derived.RangeFuncCalls
import Derived.RangeFuncLeaves
import Derived.RangeFuncBox
import Derived.Shelf.Abstract
import Derived.Shelf.RegionOpen
import Derived.OwnWalkIn
import Derived.TacticsInMore
import Derived.LoopNIn
import Derived.LoopIn
import Derived.ProofKit
import Derived.Deep.Slices
import Derived.WideShapes
import Derived.OrdersHeld
import Derived.Deep.QuietTactic
import Derived.BigQuiet
import Derived.StillTailTactics
import Derived.OpenShut
import Derived.Lib.SliceRun
import Derived.Lib.AppendZerosOnto
import Derived.Lib.Walk
import Derived.Deep.LoopGhost
import Derived.Laws.CopyOwn
import Derived.Deep.DeepCutAuto
import Derived.Deep.RegionHeld
namespace Go.Proofs.Ythealkfpflkipaa
open Go.RowKit

/-- What each operation of the last statement's region is good for. -/
def gWr (g : Nat) (k : List UInt8) (Li Lo Lr Ln val : List UInt8) (vr vv : Value) : Nat → Value → World → Prop
  | 3 => fun v W => Bytes W 0 W.heap.size v k
  | 7 => fun v W => Bytes W 0 W.heap.size v Li
  | 11 => fun v W => Bytes W 0 W.heap.size v Lo
  | 17 => fun v W => Bytes W 0 W.heap.size v Ln
  | 20 => fun v W => ∃ b v0 v1 v2 v4, v = .slice (some ⟨b, 0, none⟩) 6 6 ∧ W.heap[b]? = some (.cells #[v0, v1, v2, vr, v4, vv] 22 (0, 0)) ∧
      Bytes W 0 W.heap.size v0 k ∧ Bytes W 0 W.heap.size v1 Li ∧ Bytes W 0 W.heap.size v2 Lo ∧ Bytes W 0 W.heap.size v4 Ln
  | 21 => fun v W => Bytes W g W.heap.size v (k ++ Li ++ Lo ++ Lr ++ Ln ++ val) ∧ Thawed W v
  | 22 => fun v W => Bytes W g W.heap.size v (k ++ Li ++ Lo ++ Lr ++ Ln ++ val) ∧ Thawed W v
  | 23 => fun v _ => v = .int .i64 0
  | _ => fun _ _ => True
theorem gWr_keep (g : Nat) (k Li Lo Lr Ln val : List UInt8) (vr vv : Value) (i : Nat) (v : Value) (W W' : World) (h : gWr g k Li Lo Lr Ln val vr vv i v W) (hb : Below W.heap.size W W') : gWr g k Li Lo Lr Ln val vr vv i v W' := by
  unfold gWr at *
  split at h
  · exact h.step hb
  · exact h.step hb
  · exact h.step hb
  · exact h.step hb
  · obtain ⟨b, v0, v1, v2, v4, e, hh, h0, h1, h2, h4⟩ := h
    exact ⟨b, v0, v1, v2, v4, e, (hb.block b (Array.getElem?_eq_some_iff.1 hh).1).trans hh, h0.step hb, h1.step hb, h2.step hb, h4.step hb⟩
  · exact ⟨h.1.step hb, thawed_below h.1 h.2 hb (Nat.le_refl _)⟩
  · exact ⟨h.1.step hb, thawed_below h.1 h.2 hb (Nat.le_refl _)⟩
  · exact h
  · exact h

set_option maxRecDepth 100000 in
set_option maxHeartbeats 1000000 in
theorem iwrite_yes (x : ItemL) (v : Value) (w : World) (hv : Bytes w 0 w.heap.size v x.val) (hm : mayI x = true) :
    Calls Try.prog 50 #[itemV x v] w fun e w' => ∃ u, e = .returned (.tuple #[u, .int .i64 0]) ∧ MadeB w w' u (itemB x) := by
  obtain ⟨W, hW, hB, hV, hz, hblk⟩ := item_box x v w hv
  have hck := icheck_any x v W hV
  rw [hm] at hck
  obtain ⟨r0, r1, r2⟩ := may_ref hm
  obtain ⟨a, c, rfl, g1, g2, -, -⟩ := hv
  have hfin : itemB x = [x.key.kind] ++ fourL x.key.id.toNat ++ fourL x.key.off.toNat ++ twoL x.ref.toNat ++ [UInt8.ofNat x.val.length] ++ x.val := rfl
  generalize itemB x = out at *
  obtain ⟨⟨k, i, o⟩, r, l⟩ := x
  obtain ⟨r, rfl⟩ := Int.eq_ofNat_of_zero_le r0
  simp only at r1 r2 hfin hV g1
  rw [Int.toNat_natCast] at hfin
  have hi := i.toNat_lt
  have ho := o.toNat_lt
  have Hck := Lib.hid hck
  have HW := Lib.hid (And.intro hW (And.intro hB (And.intro hV hz)))
  have Hblk := Lib.hid hblk
  have HF := Lib.hid hfin
  clear hck hW hB hV hz hblk hm r0 hfin
  simp only [itemV, bV, wV] at *
  go_enter Try.func50, Try.ntmps50
  go_upto_region 1 with (fail)
  rw [HW.out.1]
  have q := Hblk.out W (Below.refl _ _)
  have c0 := blk_cell q 0
  have c1 := blk_cell q 1
  have c2 := blk_cell q 2
  have c3 := blk_cell q 3
  have c4 := blk_cell q 4
  simp at c0 c1 c2 c3 c4
  clear q
  go_wp2_with fail
  refine Hck.out.mono ?_
  have e9 : mayE true = 0 := rfl
  rw [e9]
  rintro e w1 ⟨rfl, hb1⟩
  have q := Hblk.out w1 hb1
  have hB1 := below_step HW.out.2.1 HW.out.2.1.size hb1
  clear c0 c1 c2 c3 c4 e9
  have c3 := blk_cell q 3
  simp at c3
  have H1 := Lib.hid (And.intro hb1 hB1)
  clear q hb1 hB1
  go_wp2_with fail
  refine (two_yes r w1 (by omega)).mono ?_
  rintro e w2 ⟨vr, rfl, hm2⟩
  have hb2 := below_step H1.out.1 H1.out.1.size hm2.below
  have hB2 := below_step H1.out.2 H1.out.2.size hm2.below
  have hr2 := hm2.bytes.all0
  have q := Hblk.out w2 hb2
  have hv2 := HW.out.2.2.1.step hb2
  have lr : (twoL r).length = 2 := rfl
  have li : (fourL i.toNat).length = 4 := rfl
  have lo : (fourL o.toNat).length = 4 := rfl
  obtain ⟨ra, rc, rfl, -, -⟩ := hr2.form lr
  have H2 := Lib.hid (And.intro hB2 (And.intro hr2 (And.intro hv2 (And.intro q (And.intro lr (And.intro li lo))))))
  clear c3 H1 hm2 hb2 hB2 hr2 hv2 q lr li lo
  have hlt2 : w.heap.size < w2.heap.size := (Array.getElem?_eq_some_iff.1 H2.out.2.2.2.1).1
  have c0 := fun X => (((aft_below w2 X).cell (p := ⟨w.heap.size, 0, none⟩) hlt2)).trans (blk_cell H2.out.2.2.2.1 0)
  have c1 := fun X => (((aft_below w2 X).cell (p := ⟨w.heap.size, 1, none⟩) hlt2)).trans (blk_cell H2.out.2.2.2.1 1)
  have c2 := fun X => (((aft_below w2 X).cell (p := ⟨w.heap.size, 2, none⟩) hlt2)).trans (blk_cell H2.out.2.2.2.1 2)
  have c4 := fun X => (((aft_below w2 X).cell (p := ⟨w.heap.size, 4, none⟩) hlt2)).trans (blk_cell H2.out.2.2.2.1 4)
  simp at c0 c1 c2 c4
  go_wp2_with fail
  refine wp_region_held_drew (S := Cls w2) (by kernel_rfl) (Cls.of (Below.refl _ _).drew) (fun hCl => ?_)
  refine wpAnyH_seg (fuel := 8) (by kernel_rfl) (fun _ d _ _ _ h => by cases d <;> exact h) hCl [0, 1, 2, 4, 5, 6, 8, 9, 10, 12, 13, 14, 15, 16, 18, 19] _ _ _ (by kernel_rfl) (by kernel_rfl) ?_
  simp only [opsOf_cons, opsOf_nil, consOp_some, List.getElem?_toArray, List.getElem?_cons_succ, List.getElem?_cons_zero]
  repeat (first | go_big_quiet_step (fail) | quiet_step (fail))
  refine wpQuiet_nil ?_
  refine wpAnyH_inv0 [3, 7, 11, 17, 20, 21, 22, 23] (fun | 20 => [3, 7, 11, 17] | 21 => [20] | 22 => [21] | _ => []) (gWr w.heap.size [k] (fourL i.toNat) (fourL o.toNat) (twoL r) [UInt8.ofNat l.length] l (.slice ra 2 rc) (.slice a l.length c)) hCl (cls_step _) (gWr_keep _ _ _ _ _ _ _ _ _) (by kernel_rfl) (by kernel_rfl) (by kernel_rfl) (by decide) ?_ ?_
  · refine OpsI.cons _ (by simp only [List.getElem?_toArray, List.getElem?_cons_succ, List.getElem?_cons_zero]; rfl) (fun vs V hV hd K hK => ?_) ?_
    · simp only [putAll, dstOf, List.getElem?_toArray, List.getElem?_cons_succ, List.getElem?_cons_zero, Option.bind_some, Act.put, List.setIfInBounds_toArray, List.set_cons_succ, List.set_cons_zero] at hK ⊢
      go_simp
      exact hK _ _ ((one_new V _ _ _ rfl).more (Nat.zero_le _) (by simp)) ((Below.refl _ _).alloc (Nat.le_refl _) _)
    refine OpsI.cons _ (by simp only [List.getElem?_toArray, List.getElem?_cons_succ, List.getElem?_cons_zero]; rfl) (fun vs V hV hd K hK => ?_) ?_
    · simp only [putAll, dstOf, List.getElem?_toArray, List.getElem?_cons_succ, List.getElem?_cons_zero, Option.bind_some, Act.put, List.setIfInBounds_toArray, List.set_cons_succ, List.set_cons_zero] at hK ⊢
      go_simp
      refine (four_any _ _ (by omega)).mono ?_
      rintro e W' ⟨u, rfl, hm⟩
      exact hK _ _ hm.bytes.all0 hm.below
    refine OpsI.cons _ (by simp only [List.getElem?_toArray, List.getElem?_cons_succ, List.getElem?_cons_zero]; rfl) (fun vs V hV hd K hK => ?_) ?_
    · simp only [putAll, dstOf, List.getElem?_toArray, List.getElem?_cons_succ, List.getElem?_cons_zero, Option.bind_some, Act.put, List.setIfInBounds_toArray, List.set_cons_succ, List.set_cons_zero] at hK ⊢
      go_simp
      refine (four_any _ _ (by omega)).mono ?_
      rintro e W' ⟨u, rfl, hm⟩
      exact hK _ _ hm.bytes.all0 hm.below
    refine OpsI.cons _ (by simp only [List.getElem?_toArray, List.getElem?_cons_succ, List.getElem?_cons_zero]; rfl) (fun vs V hV hd K hK => ?_) ?_
    · simp only [putAll, dstOf, List.getElem?_toArray, List.getElem?_cons_succ, List.getElem?_cons_zero, Option.bind_some, Act.put, List.setIfInBounds_toArray, List.set_cons_succ, List.set_cons_zero] at hK ⊢
      go_simp
      exact hK _ _ ((one_new V _ _ _ (by simp [bV]; omega)).more (Nat.zero_le _) (by simp)) ((Below.refl _ _).alloc (Nat.le_refl _) _)
    refine OpsI.cons _ (by simp only [List.getElem?_toArray, List.getElem?_cons_succ, List.getElem?_cons_zero]; rfl) (fun vs V hV hd K hK => ?_) ?_
    · simp only [putAll, dstOf, List.getElem?_toArray, List.getElem?_cons_succ, List.getElem?_cons_zero, Option.bind_some, Act.put, List.setIfInBounds_toArray, List.set_cons_succ, List.set_cons_zero] at hK ⊢
      have h3 : Bytes V 0 V.heap.size (vs 3) [k] := hd 3 (by simp)
      have h7 : Bytes V 0 V.heap.size (vs 7) (fourL i.toNat) := hd 7 (by simp)
      have h11 : Bytes V 0 V.heap.size (vs 11) (fourL o.toNat) := hd 11 (by simp)
      have h17 : Bytes V 0 V.heap.size (vs 17) [UInt8.ofNat l.length] := hd 17 (by simp)
      clear hd
      generalize vs 3 = v3 at *
      generalize vs 7 = v7 at *
      generalize vs 11 = v11 at *
      generalize vs 17 = v17 at *
      obtain ⟨a3, b3, rfl, -, -⟩ := h3.form (n := 1) rfl
      obtain ⟨a7, b7, rfl, -, -⟩ := h7.form (n := 4) rfl
      obtain ⟨a11, b11, rfl, -, -⟩ := h11.form (n := 4) rfl
      obtain ⟨a17, b17, rfl, -, -⟩ := h17.form (n := 1) rfl
      have Hh := Lib.hid (And.intro h3 (And.intro h7 (And.intro h11 h17)))
      clear h3 h7 h11 h17
      go_simp
      have hb := (Below.refl V.heap.size V).alloc (Nat.le_refl _) (.cells #[.slice a3 1 b3, .slice a7 4 b7, .slice a11 4 b11, .slice ra 2 rc, .slice a17 1 b17, .slice a l.length c] 22)
      exact hK _ _ ⟨V.heap.size, _, _, _, _, rfl, World.alloc_heap_new V _, Hh.out.1.step hb, Hh.out.2.1.step hb, Hh.out.2.2.1.step hb, Hh.out.2.2.2.step hb⟩ hb
    refine OpsI.cons _ (by simp only [List.getElem?_toArray, List.getElem?_cons_succ, List.getElem?_cons_zero]; rfl) (fun vs V hV hd K hK => ?_) ?_
    · simp only [putAll, dstOf, List.getElem?_toArray, List.getElem?_cons_succ, List.getElem?_cons_zero, Option.bind_some, Act.put, List.setIfInBounds_toArray, List.set_cons_succ, List.set_cons_zero] at hK ⊢
      obtain ⟨b, v0, v1, v2, v4, e20, hh, h0, h1, h2, h4⟩ : gWr w.heap.size [k] (fourL i.toNat) (fourL o.toNat) (twoL r) [UInt8.ofNat l.length] l (.slice ra 2 rc) (.slice a l.length c) 20 (vs 20) V := hd 20 (by simp)
      clear hd
      generalize vs 20 = v20 at *
      subst e20
      have hV2 := hV.below
      have hr3 := H2.out.2.1.step hV2
      have hv3 := H2.out.2.2.1.step hV2
      have hcc := concat_any [(v0, [k]), (v1, fourL i.toNat), (v2, fourL o.toNat), (.slice ra 2 rc, twoL r), (v4, [UInt8.ofNat l.length]), (.slice a l.length c, l)] b 0 6 V (Array.getElem?_eq_some_iff.1 hh).1
        (fun j p hp => by
          rw [Nat.zero_add, blk_cell hh j]
          match j, hp with
          | 0, hp => cases hp; rfl
          | 1, hp => cases hp; rfl
          | 2, hp => cases hp; rfl
          | 3, hp => cases hp; rfl
          | 4, hp => cases hp; rfl
          | 5, hp => cases hp; rfl)
        (fun p hp => by
          simp only [List.mem_cons, List.not_mem_nil, or_false] at hp
          rcases hp with rfl | rfl | rfl | rfl | rfl | rfl
          · exact h0
          · exact h1
          · exact h2
          · exact hr3
          · exact h4
          · exact hv3)
        (by simp) (by omega) (by simp [catL, fourL, twoL]; omega)
      have Hcc := Lib.hid hcc
      clear hcc h0 h1 h2 h4 hr3 hv3 hh hV2
      go_simp
      refine Hcc.out.mono ?_
      rintro e W' ⟨u, rfl, hm⟩
      refine hK _ _ ⟨?_, hm.thawed⟩ hm.below
      have hbb := hm.bytes.more (Nat.le_trans H2.out.1.size hV.below.size) (Nat.le_refl _)
      simpa [catL] using hbb
    refine OpsI.cons _ (by simp only [List.getElem?_toArray, List.getElem?_cons_succ, List.getElem?_cons_zero]; rfl) (fun vs V hV hd K hK => ?_) ?_
    · simp only [putAll, dstOf, List.getElem?_toArray, List.getElem?_cons_succ, List.getElem?_cons_zero, Option.bind_some, Act.put, List.setIfInBounds_toArray, List.set_cons_succ, List.set_cons_zero] at hK ⊢
      have h21 := hd 21 (by simp)
      clear hd
      go_simp
      exact hK _ _ h21 (Below.refl _ _)
    refine OpsI.cons _ (by simp only [List.getElem?_toArray, List.getElem?_cons_succ, List.getElem?_cons_zero]; rfl) (fun vs V hV hd K hK => ?_) ?_
    · simp only [putAll, dstOf, List.getElem?_toArray, List.getElem?_cons_succ, List.getElem?_cons_zero, Option.bind_some, Act.put, List.setIfInBounds_toArray, List.set_cons_succ, List.set_cons_zero] at hK ⊢
      clear hd
      go_simp
      exact hK _ _ rfl (Below.refl _ _)
    exact OpsI.nil
  · intro vs V hV hall
    have h22 : Bytes V w.heap.size V.heap.size (vs 22) ([k] ++ fourL i.toNat ++ fourL o.toNat ++ twoL r ++ [UInt8.ofNat l.length] ++ l) ∧ Thawed V (vs 22) := hall 22 (by simp)
    have h23 : vs 23 = .int .i64 0 := hall 23 (by simp)
    have hB3 := below_step H2.out.1 H2.out.1.size hV.below
    simp only [putAll, dstOf, List.getElem?_toArray, List.getElem?_cons_succ, List.getElem?_cons_zero, Option.bind_some, Act.put, List.setIfInBounds_toArray, List.set_cons_succ, List.set_cons_zero]
    clear hall c0 c1 c2 c4 hCl hV
    rw [h23]
    clear h23
    have HZ := Lib.hid (And.intro h22 hB3)
    clear h22 hB3
    generalize vs 22 = u at *
    go_wp2
    go_ret2
    exact ⟨u, rfl, by rw [HF.out]; exact HZ.out.1.1, HZ.out.1.2, HZ.out.2⟩

set_option maxRecDepth 100000 in
set_option maxHeartbeats 1000000 in
theorem iwrite_any (x : ItemL) (v : Value) (w : World) (hv : Bytes w 0 w.heap.size v x.val) :
    Calls Try.prog 50 #[itemV x v] w fun e w' => ∃ u, e = .returned (.tuple #[u, .int .i64 (mayE (mayI x))]) ∧ MadeB w w' u (wrI x) := by
  have hfin : wrI x = if mayI x then itemB x else [] := rfl
  cases hm : mayI x
  · rw [hm] at hfin
    rw [hfin]
    obtain ⟨W, hW, hB, hV, hz, hblk⟩ := item_box x v w hv
    have hck := icheck_any x v W hV
    rw [hm] at hck
    obtain ⟨a, c, rfl, g1, g2, -, -⟩ := hv
    obtain ⟨⟨k, i, o⟩, r, l⟩ := x
    have Hck := Lib.hid hck
    have HW := Lib.hid (And.intro hW hB)
    have q := hblk W (Below.refl _ _)
    clear hck hW hB hV hz hblk hm hfin
    simp only [itemV, bV, wV] at *
    go_enter Try.func50, Try.ntmps50
    go_upto_region 1 with (fail)
    rw [HW.out.1]
    have c0 := blk_cell q 0
    have c1 := blk_cell q 1
    have c2 := blk_cell q 2
    have c3 := blk_cell q 3
    have c4 := blk_cell q 4
    simp at c0 c1 c2 c3 c4
    clear q
    go_wp2_with fail
    refine Hck.out.mono ?_
    have e9 : mayE false = 8 := rfl
    rw [e9]
    rintro e w1 ⟨rfl, hb1⟩
    have hB1 := below_step HW.out.2 HW.out.2.size hb1
    clear c0 c1 c2 c3 c4 hb1
    go_wp2
    go_ret2
    exact ⟨_, rfl, MadeB.nil_ hB1⟩
  · rw [hm] at hfin
    rw [hfin]
    exact iwrite_yes x v w hv hm
end Go.Proofs.Ythealkfpflkipaa

namespace Go.Proofs.Ythealkfpflkipaa
open Go.RowKit

theorem get_l {α : Type} (l : List α) (d : α) (i : Nat) (h : i < l.length) : l[i]? = some (l.getD i d) := by simp [h]

end Go.Proofs.Ythealkfpflkipaa

