/- DropDoes: the words and contracts, part 8. -/
import Derived.Test.YtkfgegdnpinbdaaDropDoesQ1
import Derived.Test.YtkfgegdnpinbdaaDropDoesQ2
import Derived.Test.YtkfgegdnpinbdaaDropDoesQ3
import Derived.Test.YtkfgegdnpinbdaaDropDoesQ4
import Derived.Test.YtkfgegdnpinbdaaDropDoesQ5
import Derived.Test.YtkfgegdnpinbdaaDropDoesQ6
import Derived.Test.YtkfgegdnpinbdaaDropDoesQ7
import Derived.WalkKit
import Derived.WalkLawsBesides
import Derived.WalkSpells
import Derived.Lib.Hide
import Derived.Laws.Rows
import Derived.Laws.AppendOwnNone
import Derived.Maps.AppendAt
import Derived.RangeFuncNested
import Derived.RangeFuncBound
import Derived.RangeFuncCalls
import Derived.RangeFuncLeaves
import Derived.RangeFuncBox
import Derived.Shelf.Abstract
import Derived.Shelf.RegionOpen
import Derived.OwnWalkIn
import Derived.TacticsInMore
import Derived.LoopNIn
import Derived.LoopIn
import Derived.ProofKit
import Derived.Deep.Slices
import Derived.WideShapes
import Derived.OrdersHeld
import Derived.Deep.QuietTactic
import Derived.BigQuiet
import Derived.StillTailTactics
import Derived.OpenShut
import Derived.Lib.SliceRun
import Derived.Lib.AppendZerosOnto
import Derived.Lib.Walk
import Derived.Deep.LoopGhost
import Derived.Laws.CopyOwn
import Derived.Deep.DeepCutAuto
import Derived.Deep.RegionHeld
import Derived.Laws.CopyRow
import Derived.Laws.MakeOwn
import Derived.KernelRfl
namespace Go.Proofs.Ytkfgegdnpinbdaa
open Go.RowKit

/-- What each operation of the last statement's region is good for. -/
def gWr (g : Nat) (k : List UInt8) (Li Lo Lr Ln val : List UInt8) (vr vv : Value) : Nat → Value → World → Prop
  | 3 => fun v W => Bytes W 0 W.heap.size v k
  | 7 => fun v W => Bytes W 0 W.heap.size v Li
  | 11 => fun v W => Bytes W 0 W.heap.size v Lo
  | 17 => fun v W => Bytes W 0 W.heap.size v Ln
  | 20 => fun v W => ∃ b v0 v1 v2 v4, v = .slice (some ⟨b, 0, none⟩) 6 6 ∧ W.heap[b]? = some (.cells #[v0, v1, v2, vr, v4, vv] 26 (0, 0)) ∧
      Bytes W 0 W.heap.size v0 k ∧ Bytes W 0 W.heap.size v1 Li ∧ Bytes W 0 W.heap.size v2 Lo ∧ Bytes W 0 W.heap.size v4 Ln
  | 21 => fun v W => Bytes W g W.heap.size v (k ++ Li ++ Lo ++ Lr ++ Ln ++ val) ∧ Thawed W v
  | 22 => fun v W => Bytes W g W.heap.size v (k ++ Li ++ Lo ++ Lr ++ Ln ++ val) ∧ Thawed W v
  | 23 => fun v _ => v = .int .i64 0
  | _ => fun _ _ => True
theorem gWr_keep (g : Nat) (k Li Lo Lr Ln val : List UInt8) (vr vv : Value) (i : Nat) (v : Value) (W W' : World) (h : gWr g k Li Lo Lr Ln val vr vv i v W) (hb : Below W.heap.size W W') : gWr g k Li Lo Lr Ln val vr vv i v W' := by
  unfold gWr at *
  split at h
  · exact h.step hb
  · exact h.step hb
  · exact h.step hb
  · exact h.step hb
  · obtain ⟨b, v0, v1, v2, v4, e, hh, h0, h1, h2, h4⟩ := h
    exact ⟨b, v0, v1, v2, v4, e, (hb.block b (Array.getElem?_eq_some_iff.1 hh).1).trans hh, h0.step hb, h1.step hb, h2.step hb, h4.step hb⟩
  · exact ⟨h.1.step hb, thawed_below h.1 h.2 hb (Nat.le_refl _)⟩
  · exact ⟨h.1.step hb, thawed_below h.1 h.2 hb (Nat.le_refl _)⟩
  · exact h
  · exact h

set_option maxRecDepth 100000 in
set_option maxHeartbeats 1000000 in
theorem iwrite_yes (x : ItemL) (v : Value) (w : World) (hv : Bytes w 0 w.heap.size v x.val) (hm : mayI x = true) :
    Calls Try.prog 117 #[itemV x v] w fun e w' => ∃ u, e = .returned (.tuple #[u, .int .i64 0]) ∧ MadeB w w' u (itemB x) := by
  obtain ⟨W, hW, hB, hV, hz, hblk⟩ := item_box x v w hv
  have hck := icheck_any x v W hV
  rw [hm] at hck
  obtain ⟨r0, r1, r2⟩ := may_ref hm
  obtain ⟨a, c, rfl, g1, g2, -, -⟩ := hv
  have hfin : itemB x = [x.key.kind] ++ fourL x.key.id.toNat ++ fourL x.key.off.toNat ++ twoL x.ref.toNat ++ [UInt8.ofNat x.val.length] ++ x.val := rfl
  generalize itemB x = out at *
  obtain ⟨⟨k, i, o⟩, r, l⟩ := x
  obtain ⟨r, rfl⟩ := Int.eq_ofNat_of_zero_le r0
  simp only at r1 r2 hfin hV g1
  rw [Int.toNat_natCast] at hfin
  have hi := i.toNat_lt
  have ho := o.toNat_lt
  have Hck := Lib.hid hck
  have HW := Lib.hid (And.intro hW (And.intro hB (And.intro hV hz)))
  have Hblk := Lib.hid hblk
  have HF := Lib.hid hfin
  clear hck hW hB hV hz hblk hm r0 hfin
  simp only [itemV, bV, wV] at *
  go_enter Try.func117, Try.ntmps117
  go_upto_region 1 with (fail)
  rw [HW.out.1]
  have q := Hblk.out W (Below.refl _ _)
  have c0 := blk_cell q 0
  have c1 := blk_cell q 1
  have c2 := blk_cell q 2
  have c3 := blk_cell q 3
  have c4 := blk_cell q 4
  simp at c0 c1 c2 c3 c4
  clear q
  go_wp2_with fail
  refine Hck.out.mono ?_
  have e9 : mayE true = 0 := rfl
  rw [e9]
  rintro e w1 ⟨rfl, hb1⟩
  have q := Hblk.out w1 hb1
  have hB1 := below_step HW.out.2.1 HW.out.2.1.size hb1
  clear c0 c1 c2 c3 c4 e9
  have c3 := blk_cell q 3
  simp at c3
  have H1 := Lib.hid (And.intro hb1 hB1)
  clear q hb1 hB1
  go_wp2_with fail
  refine (two_yes r w1 (by omega)).mono ?_
  rintro e w2 ⟨vr, rfl, hm2⟩
  have hb2 := below_step H1.out.1 H1.out.1.size hm2.below
  have hB2 := below_step H1.out.2 H1.out.2.size hm2.below
  have hr2 := hm2.bytes.all0
  have q := Hblk.out w2 hb2
  have hv2 := HW.out.2.2.1.step hb2
  have lr : (twoL r).length = 2 := rfl
  have li : (fourL i.toNat).length = 4 := rfl
  have lo : (fourL o.toNat).length = 4 := rfl
  obtain ⟨ra, rc, rfl, -, -⟩ := hr2.form lr
  have H2 := Lib.hid (And.intro hB2 (And.intro hr2 (And.intro hv2 (And.intro q (And.intro lr (And.intro li lo))))))
  clear c3 H1 hm2 hb2 hB2 hr2 hv2 q lr li lo
  have hlt2 : w.heap.size < w2.heap.size := (Array.getElem?_eq_some_iff.1 H2.out.2.2.2.1).1
  have c0 := fun X => (((aft_below w2 X).cell (p := ⟨w.heap.size, 0, none⟩) hlt2)).trans (blk_cell H2.out.2.2.2.1 0)
  have c1 := fun X => (((aft_below w2 X).cell (p := ⟨w.heap.size, 1, none⟩) hlt2)).trans (blk_cell H2.out.2.2.2.1 1)
  have c2 := fun X => (((aft_below w2 X).cell (p := ⟨w.heap.size, 2, none⟩) hlt2)).trans (blk_cell H2.out.2.2.2.1 2)
  have c4 := fun X => (((aft_below w2 X).cell (p := ⟨w.heap.size, 4, none⟩) hlt2)).trans (blk_cell H2.out.2.2.2.1 4)
  simp at c0 c1 c2 c4
  go_wp2_with fail
  refine wp_region_held_drew (S := Cls w2) (by kernel_rfl) (Cls.of (Below.refl _ _).drew) (fun hCl => ?_)
  refine wpAnyH_seg (fuel := 8) (by kernel_rfl) (fun _ d _ _ _ h => by cases d <;> exact h) hCl [0, 1, 2, 4, 5, 6, 8, 9, 10, 12, 13, 14, 15, 16, 18, 19] _ _ _ (by kernel_rfl) (by kernel_rfl) ?_
  simp only [opsOf_cons, opsOf_nil, consOp_some, List.getElem?_toArray, List.getElem?_cons_succ, List.getElem?_cons_zero]
  repeat (first | go_big_quiet_step (fail) | quiet_step (fail))
  refine wpQuiet_nil ?_
  refine wpAnyH_inv0 [3, 7, 11, 17, 20, 21, 22, 23] (fun | 20 => [3, 7, 11, 17] | 21 => [20] | 22 => [21] | _ => []) (gWr w.heap.size [k] (fourL i.toNat) (fourL o.toNat) (twoL r) [UInt8.ofNat l.length] l (.slice ra 2 rc) (.slice a l.length c)) hCl (cls_step _) (gWr_keep _ _ _ _ _ _ _ _ _) (by kernel_rfl) (by kernel_rfl) (by kernel_rfl) (by decide) ?_ ?_
  · refine OpsI.cons _ (by simp only [List.getElem?_toArray, List.getElem?_cons_succ, List.getElem?_cons_zero]; rfl) (fun vs V hV hd K hK => ?_) ?_
    · simp only [putAll, dstOf, List.getElem?_toArray, List.getElem?_cons_succ, List.getElem?_cons_zero, Option.bind_some, Act.put, List.setIfInBounds_toArray, List.set_cons_succ, List.set_cons_zero] at hK ⊢
      go_simp
      exact hK _ _ ((one_new V _ _ _ rfl).more (Nat.zero_le _) (by simp)) ((Below.refl _ _).alloc (Nat.le_refl _) _)
    refine OpsI.cons _ (by simp only [List.getElem?_toArray, List.getElem?_cons_succ, List.getElem?_cons_zero]; rfl) (fun vs V hV hd K hK => ?_) ?_
    · simp only [putAll, dstOf, List.getElem?_toArray, List.getElem?_cons_succ, List.getElem?_cons_zero, Option.bind_some, Act.put, List.setIfInBounds_toArray, List.set_cons_succ, List.set_cons_zero] at hK ⊢
      go_simp
      refine (four_any _ _ (by omega)).mono ?_
      rintro e W' ⟨u, rfl, hm⟩
      exact hK _ _ hm.bytes.all0 hm.below
    refine OpsI.cons _ (by simp only [List.getElem?_toArray, List.getElem?_cons_succ, List.getElem?_cons_zero]; rfl) (fun vs V hV hd K hK => ?_) ?_
    · simp only [putAll, dstOf, List.getElem?_toArray, List.getElem?_cons_succ, List.getElem?_cons_zero, Option.bind_some, Act.put, List.setIfInBounds_toArray, List.set_cons_succ, List.set_cons_zero] at hK ⊢
      go_simp
      refine (four_any _ _ (by omega)).mono ?_
      rintro e W' ⟨u, rfl, hm⟩
      exact hK _ _ hm.bytes.all0 hm.below
    refine OpsI.cons _ (by simp only [List.getElem?_toArray, List.getElem?_cons_succ, List.getElem?_cons_zero]; rfl) (fun vs V hV hd K hK => ?_) ?_
    · simp only [putAll, dstOf, List.getElem?_toArray, List.getElem?_cons_succ, List.getElem?_cons_zero, Option.bind_some, Act.put, List.setIfInBounds_toArray, List.set_cons_succ, List.set_cons_zero] at hK ⊢
      go_simp
      exact hK _ _ ((one_new V _ _ _ (by simp [bV]; omega)).more (Nat.zero_le _) (by simp)) ((Below.refl _ _).alloc (Nat.le_refl _) _)
    refine OpsI.cons _ (by simp only [List.getElem?_toArray, List.getElem?_cons_succ, List.getElem?_cons_zero]; rfl) (fun vs V hV hd K hK => ?_) ?_
    · simp only [putAll, dstOf, List.getElem?_toArray, List.getElem?_cons_succ, List.getElem?_cons_zero, Option.bind_some, Act.put, List.setIfInBounds_toArray, List.set_cons_succ, List.set_cons_zero] at hK ⊢
      have h3 : Bytes V 0 V.heap.size (vs 3) [k] := hd 3 (by simp)
      have h7 : Bytes V 0 V.heap.size (vs 7) (fourL i.toNat) := hd 7 (by simp)
      have h11 : Bytes V 0 V.heap.size (vs 11) (fourL o.toNat) := hd 11 (by simp)
      have h17 : Bytes V 0 V.heap.size (vs 17) [UInt8.ofNat l.length] := hd 17 (by simp)
      clear hd
      generalize vs 3 = v3 at *
      generalize vs 7 = v7 at *
      generalize vs 11 = v11 at *
      generalize vs 17 = v17 at *
      obtain ⟨a3, b3, rfl, -, -⟩ := h3.form (n := 1) rfl
      obtain ⟨a7, b7, rfl, -, -⟩ := h7.form (n := 4) rfl
      obtain ⟨a11, b11, rfl, -, -⟩ := h11.form (n := 4) rfl
      obtain ⟨a17, b17, rfl, -, -⟩ := h17.form (n := 1) rfl
      have Hh := Lib.hid (And.intro h3 (And.intro h7 (And.intro h11 h17)))
      clear h3 h7 h11 h17
      go_simp
      have hb := (Below.refl V.heap.size V).alloc (Nat.le_refl _) (.cells #[.slice a3 1 b3, .slice a7 4 b7, .slice a11 4 b11, .slice ra 2 rc, .slice a17 1 b17, .slice a l.length c] 26)
      exact hK _ _ ⟨V.heap.size, _, _, _, _, rfl, World.alloc_heap_new V _, Hh.out.1.step hb, Hh.out.2.1.step hb, Hh.out.2.2.1.step hb, Hh.out.2.2.2.step hb⟩ hb
    refine OpsI.cons _ (by simp only [List.getElem?_toArray, List.getElem?_cons_succ, List.getElem?_cons_zero]; rfl) (fun vs V hV hd K hK => ?_) ?_
    · simp only [putAll, dstOf, List.getElem?_toArray, List.getElem?_cons_succ, List.getElem?_cons_zero, Option.bind_some, Act.put, List.setIfInBounds_toArray, List.set_cons_succ, List.set_cons_zero] at hK ⊢
      obtain ⟨b, v0, v1, v2, v4, e20, hh, h0, h1, h2, h4⟩ : gWr w.heap.size [k] (fourL i.toNat) (fourL o.toNat) (twoL r) [UInt8.ofNat l.length] l (.slice ra 2 rc) (.slice a l.length c) 20 (vs 20) V := hd 20 (by simp)
      clear hd
      generalize vs 20 = v20 at *
      subst e20
      have hV2 := hV.below
      have hr3 := H2.out.2.1.step hV2
      have hv3 := H2.out.2.2.1.step hV2
      have hcc := concat_any [(v0, [k]), (v1, fourL i.toNat), (v2, fourL o.toNat), (.slice ra 2 rc, twoL r), (v4, [UInt8.ofNat l.length]), (.slice a l.length c, l)] b 0 6 V (Array.getElem?_eq_some_iff.1 hh).1
        (fun j p hp => by
          rw [Nat.zero_add, blk_cell hh j]
          match j, hp with
          | 0, hp => cases hp; rfl
          | 1, hp => cases hp; rfl
          | 2, hp => cases hp; rfl
          | 3, hp => cases hp; rfl
          | 4, hp => cases hp; rfl
          | 5, hp => cases hp; rfl)
        (fun p hp => by
          simp only [List.mem_cons, List.not_mem_nil, or_false] at hp
          rcases hp with rfl | rfl | rfl | rfl | rfl | rfl
          · exact h0
          · exact h1
          · exact h2
          · exact hr3
          · exact h4
          · exact hv3)
        (by simp) (by omega) (by simp [catL, fourL, twoL]; omega)
      have Hcc := Lib.hid hcc
      clear hcc h0 h1 h2 h4 hr3 hv3 hh hV2
      go_simp
      refine Hcc.out.mono ?_
      rintro e W' ⟨u, rfl, hm⟩
      refine hK _ _ ⟨?_, hm.thawed⟩ hm.below
      have hbb := hm.bytes.more (Nat.le_trans H2.out.1.size hV.below.size) (Nat.le_refl _)
      simpa [catL] using hbb
    refine OpsI.cons _ (by simp only [List.getElem?_toArray, List.getElem?_cons_succ, List.getElem?_cons_zero]; rfl) (fun vs V hV hd K hK => ?_) ?_
    · simp only [putAll, dstOf, List.getElem?_toArray, List.getElem?_cons_succ, List.getElem?_cons_zero, Option.bind_some, Act.put, List.setIfInBounds_toArray, List.set_cons_succ, List.set_cons_zero] at hK ⊢
      have h21 := hd 21 (by simp)
      clear hd
      go_simp
      exact hK _ _ h21 (Below.refl _ _)
    refine OpsI.cons _ (by simp only [List.getElem?_toArray, List.getElem?_cons_succ, List.getElem?_cons_zero]; rfl) (fun vs V hV hd K hK => ?_) ?_
    · simp only [putAll, dstOf, List.getElem?_toArray, List.getElem?_cons_succ, List.getElem?_cons_zero, Option.bind_some, Act.put, List.setIfInBounds_toArray, List.set_cons_succ, List.set_cons_zero] at hK ⊢
      clear hd
      go_simp
      exact hK _ _ rfl (Below.refl _ _)
    exact OpsI.nil
  · intro vs V hV hall
    have h22 : Bytes V w.heap.size V.heap.size (vs 22) ([k] ++ fourL i.toNat ++ fourL o.toNat ++ twoL r ++ [UInt8.ofNat l.length] ++ l) ∧ Thawed V (vs 22) := hall 22 (by simp)
    have h23 : vs 23 = .int .i64 0 := hall 23 (by simp)
    have hB3 := below_step H2.out.1 H2.out.1.size hV.below
    simp only [putAll, dstOf, List.getElem?_toArray, List.getElem?_cons_succ, List.getElem?_cons_zero, Option.bind_some, Act.put, List.setIfInBounds_toArray, List.set_cons_succ, List.set_cons_zero]
    clear hall c0 c1 c2 c4 hCl hV
    rw [h23]
    clear h23
    have HZ := Lib.hid (And.intro h22 hB3)
    clear h22 hB3
    generalize vs 22 = u at *
    go_wp2
    go_ret2
    exact ⟨u, rfl, by rw [HF.out]; exact HZ.out.1.1, HZ.out.1.2, HZ.out.2⟩

set_option maxRecDepth 100000 in
set_option maxHeartbeats 1000000 in
theorem iwrite_any (x : ItemL) (v : Value) (w : World) (hv : Bytes w 0 w.heap.size v x.val) :
    Calls Try.prog 117 #[itemV x v] w fun e w' => ∃ u, e = .returned (.tuple #[u, .int .i64 (mayE (mayI x))]) ∧ MadeB w w' u (wrI x) := by
  have hfin : wrI x = if mayI x then itemB x else [] := rfl
  cases hm : mayI x
  · rw [hm] at hfin
    rw [hfin]
    obtain ⟨W, hW, hB, hV, hz, hblk⟩ := item_box x v w hv
    have hck := icheck_any x v W hV
    rw [hm] at hck
    obtain ⟨a, c, rfl, g1, g2, -, -⟩ := hv
    obtain ⟨⟨k, i, o⟩, r, l⟩ := x
    have Hck := Lib.hid hck
    have HW := Lib.hid (And.intro hW hB)
    have q := hblk W (Below.refl _ _)
    clear hck hW hB hV hz hblk hm hfin
    simp only [itemV, bV, wV] at *
    go_enter Try.func117, Try.ntmps117
    go_upto_region 1 with (fail)
    rw [HW.out.1]
    have c0 := blk_cell q 0
    have c1 := blk_cell q 1
    have c2 := blk_cell q 2
    have c3 := blk_cell q 3
    have c4 := blk_cell q 4
    simp at c0 c1 c2 c3 c4
    clear q
    go_wp2_with fail
    refine Hck.out.mono ?_
    have e9 : mayE false = 8 := rfl
    rw [e9]
    rintro e w1 ⟨rfl, hb1⟩
    have hB1 := below_step HW.out.2 HW.out.2.size hb1
    clear c0 c1 c2 c3 c4 hb1
    go_wp2
    go_ret2
    exact ⟨_, rfl, MadeB.nil_ hB1⟩
  · rw [hm] at hfin
    rw [hfin]
    exact iwrite_yes x v w hv hm
end Go.Proofs.Ytkfgegdnpinbdaa

namespace Go.Proofs.Ytkfgegdnpinbdaa
open Go.RowKit

theorem below_dr (w : World) (n : Nat) : Below w.heap.size w (w.drewN n) := ⟨rfl, rfl, rfl, Nat.le_refl _, fun _ _ => rfl⟩
def nokI : ItemL := ⟨⟨0, 0, 0⟩, 0, []⟩
/-- What is asked of item number i of a node. -/
def stepN (n : NodeL) (i : Nat) : Bool := mayI (n.items.getD i nokI) && (i == 0 || lessK (n.items.getD (i - 1) nokI).key (n.items.getD i nokI).key) && (decide (n.level ≤ 0) || (decide ((n.items.getD i nokI).ref ≠ 0) && (n.items.getD i nokI).val.length == 0))
def mayN (n : NodeL) : Bool := decide (0 ≤ n.level) && decide (n.level < 6) && decide (n.items.length ≤ 5) && (decide (n.level ≤ 0) || n.items.length != 0) && (List.range n.items.length).all (stepN n)
theorem mayN_bad {n : NodeL} {i : Nat} (hi : i < n.items.length) (h : stepN n i = false) : mayN n = false := by
  have : (List.range n.items.length).all (stepN n) = false := by
    rw [List.all_eq_false]
    exact ⟨i, List.mem_range.2 hi, by rw [h]; decide⟩
  unfold mayN
  rw [this, Bool.and_false]
theorem mayN_yes {n : NodeL} (h0 : 0 ≤ n.level) (h1 : n.level < 6) (h2 : n.items.length ≤ 5) (h3 : n.level ≤ 0 ∨ n.items.length ≠ 0) (h : ∀ i, i < n.items.length → stepN n i = true) : mayN n = true := by
  have : (List.range n.items.length).all (stepN n) = true := by
    rw [List.all_eq_true]
    intro x hx
    exact h x (List.mem_range.1 hx)
  unfold mayN
  rw [this]
  have h4 : (decide (n.level ≤ 0) || n.items.length != 0) = true := by
    rcases h3 with h | h
    · simp [h]
    · rw [bne_iff_ne.2 h, Bool.or_true]
  rw [decide_eq_true h0, decide_eq_true h1, decide_eq_true h2, h4]
  rfl

set_option maxRecDepth 100000 in
set_option maxHeartbeats 4000000 in
/-- node.Check. -/
theorem ncheck_any (n : NodeL) (v : Value) (w : World) (h : Sl rItem w 0 w.heap.size v n.items) :
    Calls Try.prog 60 #[.agg #[.int .i64 n.level, v]] w fun e w' => e = .returned (.int .i64 (mayE (mayN n))) ∧ Below w.heap.size w w' := by
  obtain ⟨av, cv, rfl, g1, g2, -, -⟩ := id h
  unfold maxLen at g2
  have hst := (Below.refl w.heap.size w).alloc (Nat.le_refl _) (.cells #[.int .i64 n.level, .slice av n.items.length cv] 47)
  have qn := LK.new w (.cells #[.int .i64 n.level, .slice av n.items.length cv] 47)
  have hB : LW w _ := hst
  have hS := (LS.of h (Nat.le_refl _)).step hst
  obtain ⟨V, hV⟩ : ∃ V, w.alloc (.cells #[.int .i64 n.level, .slice av n.items.length cv] 47) = V := ⟨_, rfl⟩
  rw [hV] at hB hS qn
  have HBAD := Lib.hid (fun i hi h => mayN_bad (n := n) (i := i) hi h)
  have HYES := Lib.hid (fun a b c d e => mayN_yes (n := n) a b c d e)
  have hb1 : ¬ 0 ≤ n.level → mayN n = false := fun h => by unfold mayN; simp [h]
  have hb2 : ¬ n.level < 6 → mayN n = false := fun h => by unfold mayN; simp [h]
  have hb3 : ¬ n.items.length ≤ 5 → mayN n = false := fun h => by unfold mayN; simp [h]
  have hb4 : ¬ n.level ≤ 0 → n.items.length = 0 → mayN n = false := fun h h2 => by unfold mayN; rw [h2, decide_eq_false h]; simp
  have HB4 := Lib.hid (And.intro hb1 (And.intro hb2 (And.intro hb3 hb4)))
  have hstep : ∀ i, stepN n i = (mayI (n.items.getD i nokI) && (i == 0 || lessK (n.items.getD (i - 1) nokI).key (n.items.getD i nokI).key) && (decide (n.level ≤ 0) || (decide ((n.items.getD i nokI).ref ≠ 0) && (n.items.getD i nokI).val.length == 0))) := fun i => rfl
  have HST := Lib.hid hstep
  generalize mayN n = mn at *
  clear h hst hb1 hb2 hb3 hb4 hstep
  obtain ⟨lv, its⟩ := n
  simp only at *
  have HQ := Lib.hid (And.intro qn (And.intro hS hB))
  have c0 := LK.cell qn 0
  have c1 := LK.cell qn 1
  simp at c0 c1
  clear qn hS hB
  obtain ⟨ab, hab⟩ : ∃ ab, decide (0 < lv) = ab := ⟨_, rfl⟩
  go_enter Try.func60, Try.ntmps60
  go_upto_region 1 with (fail)
  clear hV
  by_cases l0 : lv < 0
  · have hm := HB4.out.1 (by omega)
    subst hm
    go_wp2
    go_ret
    exact ⟨rfl, HQ.out.2.2⟩
  have d0 : decide (lv < 0) = false := by simp; omega
  by_cases l6 : 6 ≤ lv
  · have hm := HB4.out.2.1 (by omega)
    subst hm
    go_wp2
    go_ret
    exact ⟨rfl, HQ.out.2.2⟩
  have d6 : decide (6 ≤ lv) = false := by simp; omega
  by_cases l5 : 5 < its.length
  · have hm := HB4.out.2.2.1 (by omega)
    subst hm
    have d5 : (5 : Int) < its.length := by omega
    go_wp2
    go_ret
    exact ⟨rfl, HQ.out.2.2⟩
  have d5 : decide ((5 : Int) < its.length) = false := by simp; omega
  by_cases lz : 0 < lv ∧ its.length = 0
  · have hm := HB4.out.2.2.2 (by omega) lz.2
    subst hm
    obtain rfl : ab = true := by rw [← hab]; simpa using lz.1
    have e0 : ((its.length : Int) == 0) = true := by rw [lz.2]; rfl
    clear lz
    go_wp2
    go_ret
    exact ⟨rfl, HQ.out.2.2⟩
  have hz : ab = true → ((its.length : Int) == 0) = false := fun hh => by
    rw [hh] at hab
    have : 0 < lv := by simpa using hab
    rw [beq_eq_false_iff_ne]
    intro e
    exact lz ⟨this, by omega⟩
  have hlz : lv ≤ 0 ∨ its.length ≠ 0 := by
    by_cases e : its.length = 0
    · left
      by_cases e2 : 0 < lv
      · exact absurd ⟨e2, e⟩ lz
      · omega
    · exact .inr e
  have HLZ := Lib.hid (And.intro hlz hab)
  clear lz hlz
  go_upto_region 2 with (fail)
  clear hab
  go_cut [32] (fun t wx => t = .bool false ∧ wx = V)
  case first =>
    cases ab
    · clear hz
      go_wp2
      go_meet
      exact ⟨rfl, rfl⟩
    · have hz1 := hz rfl
      clear hz
      go_wp2
      go_meet
      exact ⟨rfl, rfl⟩
  case rest =>
  obtain ⟨rfl, rfl⟩ := hcut
  obtain ⟨V2, hV2⟩ : ∃ V2, V2 = wc := ⟨_, rfl⟩
  subst hV2
  clear hz d0 d6 d5
  go_wp2_with fail
  go_loopw [36] (fun i wr => ∃ k : Nat, k ≤ its.length ∧ i = .int .i64 k ∧ Below V2.heap.size V2 wr ∧ ∀ j, j < k → stepN ⟨lv, its⟩ j = true) (fun i _ => its.length - (intOf i).toNat)
  case atStart => exact ⟨0, Nat.zero_le _, rfl, Below.refl _ _, fun j hj => absurd hj (Nat.not_lt_zero _)⟩
  case round =>
  obtain ⟨k, hk, rfl, hBr, hall⟩ := hrel
  have hst := hBr
  clear c0 c1
  obtain ⟨qn, hS, hB⟩ := HQ.out
  clear HQ
  have sz_wr : V2.heap.size ≤ wr.heap.size := hst.size
  replace qn := qn.step hst
  replace hS := hS.step hst
  replace hB := hB.step hst
  clear hst
  have HQ := Lib.hid (And.intro qn (And.intro hS hB))
  clear qn hS hB
  have c_qn0 := LK.cell HQ.out.1 0
  have c_qn1 := LK.cell HQ.out.1 1
  simp at c_qn0 c_qn1
  by_cases hlt : k < its.length
  · obtain ⟨bb, bo, cb, e1, -, -, -, zc, hcell⟩ := HQ.out.2.1.v.at_ (by omega)
    injection e1 with e1 _ e2
    subst e1 e2
    obtain ⟨f0, f1, f2, f3, f3w, vx, f4, hvx⟩ := hcell k (its.getD k nokI) (get_l _ _ _ hlt)
    obtain ⟨xn, hxn⟩ : ∃ xn, (its.getD k nokI).val.length = xn := ⟨_, rfl⟩
    obtain ⟨ax, cx, rfl, -, hcx⟩ := hvx.form hxn
    have hbad := HBAD.out k hlt
    have hstk := HST.out k
    obtain ⟨x, hx⟩ : ∃ x, its.getD k nokI = x := ⟨_, rfl⟩
    rw [hx] at f0 f1 f2 f3 f3w hvx hstk hxn
    rw [hxn] at hstk
    simp only [bV, wV, Nat.add_zero] at f0 f1 f2 f3 f4
    have hn5 : rItem.n = 5 := rfl
    rw [hn5] at f0 f1 f2 f3 f4 hcell
    unfold maxLen at zc hcx
    have hX := LB.of hvx (Nat.le_refl _)
    have HBR := Lib.hid (And.intro hBr (And.intro hall (And.intro hcell (And.intro hbad (And.intro hstk (And.intro hx hxn))))))
    clear hxn hBr hall hcell hvx hbad hstk hx hn5
    obtain ⟨qn, hS, hB⟩ := HQ.out
    clear HQ
    have hR : LW wr wr := Below.refl _ _
    have HQ := Lib.hid (And.intro qn (And.intro hS (And.intro hX (And.intro hR hB))))
    clear qn hS hX hR hB
    go_upto_region 7 with (fail)
    clear c_qn0 c_qn1
    obtain ⟨qn, hS, hX, hR, hB⟩ := HQ.out
    clear HQ
    have hst := (Below.refl wr.heap.size wr).alloc (Nat.le_refl _) (.cells #[.int .u8 (x.key.kind.toNat : Int), .int .u32 (x.key.id.toNat : Int), .int .u32 (x.key.off.toNat : Int), .int .i64 x.ref, .slice ax xn cx] 97)
    have hlt : wr.heap.size < (wr.alloc (.cells #[.int .u8 (x.key.kind.toNat : Int), .int .u32 (x.key.id.toNat : Int), .int .u32 (x.key.off.toNat : Int), .int .i64 x.ref, .slice ax xn cx] 97)).heap.size := by simp
    have qx := LK.new wr (.cells #[.int .u8 (x.key.kind.toNat : Int), .int .u32 (x.key.id.toNat : Int), .int .u32 (x.key.off.toNat : Int), .int .i64 x.ref, .slice ax xn cx] 97)
    replace qn := qn.step hst
    replace hS := hS.step hst
    replace hX := hX.step hst
    replace hR := hR.step hst
    replace hB := hB.step hst
    obtain ⟨w1, hw⟩ : ∃ v, wr.alloc (.cells #[.int .u8 (x.key.kind.toNat : Int), .int .u32 (x.key.id.toNat : Int), .int .u32 (x.key.off.toNat : Int), .int .i64 x.ref, .slice ax xn cx] 97) = v := ⟨_, rfl⟩
    rw [hw] at hlt qx qn hS hX hR hB ⊢
    clear hw hst
    have sz_w1 := hlt
    clear hlt
    have HQ := Lib.hid (And.intro qn (And.intro hS (And.intro hX (And.intro hR (And.intro qx hB)))))
    clear qn hS hX hR qx hB
    have c_qn0 := LK.cell HQ.out.1 0
    have c_qn1 := LK.cell HQ.out.1 1
    have c_qx0 := LK.cell HQ.out.2.2.2.2.1 0
    have c_qx1 := LK.cell HQ.out.2.2.2.2.1 1
    have c_qx2 := LK.cell HQ.out.2.2.2.2.1 2
    have c_qx3 := LK.cell HQ.out.2.2.2.2.1 3
    have c_qx4 := LK.cell HQ.out.2.2.2.2.1 4
    simp at c_qn0 c_qn1 c_qx0 c_qx1 c_qx2 c_qx3 c_qx4
    clear f0 f1 f2 f3 f4
    have k_chk := icheck_any x (.slice ax xn cx) w1 HQ.out.2.2.1.v
    simp only [itemV, bV, wV] at k_chk
    have KC := Lib.hid k_chk
    clear k_chk
    go_wp2_with fail
    refine (KC.out).mono ?_
    rintro e w2 ⟨rfl, hst⟩
    clear c_qn0 c_qn1 c_qx0 c_qx1 c_qx2 c_qx3 c_qx4
    obtain ⟨qn, hS, hX, hR, qx, hB⟩ := HQ.out
    clear HQ
    have sz_w2 : w1.heap.size ≤ w2.heap.size := hst.size
    replace qn := qn.step hst
    replace hS := hS.step hst
    replace hX := hX.step hst
    replace hR := hR.step hst
    replace qx := qx.step hst
    replace hB := hB.step hst
    clear hst
    have HQ := Lib.hid (And.intro qn (And.intro hS (And.intro hX (And.intro hR (And.intro qx hB)))))
    clear qn hS hX hR qx hB
    have c_qn0 := LK.cell HQ.out.1 0
    have c_qn1 := LK.cell HQ.out.1 1
    have c_qx0 := LK.cell HQ.out.2.2.2.2.1 0
    have c_qx1 := LK.cell HQ.out.2.2.2.2.1 1
    have c_qx2 := LK.cell HQ.out.2.2.2.2.1 2
    have c_qx3 := LK.cell HQ.out.2.2.2.2.1 3
    have c_qx4 := LK.cell HQ.out.2.2.2.2.1 4
    simp at c_qn0 c_qn1 c_qx0 c_qx1 c_qx2 c_qx3 c_qx4
    cases hmx : mayI x
    case false =>
      have hm := HBR.out.2.2.2.1 (by rw [HBR.out.2.2.2.2.1, hmx]; rfl)
      subst hm
      have me8 : mayE false = 8 := rfl
      rw [me8]
      go_wp2
      go_ret
      exact ⟨rfl, HQ.out.2.2.2.2.2⟩
    have me0 : mayE true = 0 := rfl
    rw [me0]
    clear me0 KC
    have hstk := HBR.out.2.2.2.2.1
    rw [hmx, Bool.true_and] at hstk
    have HS2 := Lib.hid hstk
    clear hstk hmx
    go_upto_region 10 with (fail)
    rcases Nat.eq_zero_or_pos k with hk0 | hk0
    · have e0 : decide ((0 : Int) < (k : Int)) = false := by simp; omega
      have e00 : decide (0 < k) = false := by simp; omega
      have e01 : ¬ 0 < k := by omega
      have hs3 : stepN ⟨lv, its⟩ k = (decide (lv ≤ 0) || decide (x.ref ≠ 0) && xn == 0) := by
        rw [HS2.out, show (k == 0) = true by simp [hk0]]
        rfl
      have HS3 := Lib.hid hs3
      clear hs3 hk0
      cases ab
      · have hlv : decide (lv ≤ 0) = true := by
          have := HLZ.out.2
          rw [decide_eq_false_iff_not] at this
          rw [decide_eq_true_eq]
          omega
        have HLV := Lib.hid hlv
        clear hlv
        go_quiet (fail)
        have hok : stepN ⟨lv, its⟩ k = true := by rw [HS3.out]; rw [HLV.out]; rfl
        have hallk := fun j (hj : j < k + 1) => (Nat.lt_succ_iff_lt_or_eq.1 hj).elim (HBR.out.2.1 j) (fun e => e ▸ hok)
        have HAL := Lib.hid hallk
        clear hallk hok
        go_wp2
        go_roundw
        case rel => exact ⟨k + 1, by omega, by go_num, HBR.out.1.trans (Below.mono (LW.step HQ.out.2.2.2.1 (below_dr _ _)) HBR.out.1.size), HAL.out⟩
        case measure => simp [intOf]; omega
      have hlv : decide (lv ≤ 0) = false := by
        have := HLZ.out.2
        rw [decide_eq_true_eq] at this
        rw [decide_eq_false_iff_not]
        omega
      have HLV := Lib.hid hlv
      clear hlv
      by_cases hr0 : x.ref = 0
      · have r0 : (x.ref == 0) = true := by simp [hr0]
        have HR0 := Lib.hid hr0
        clear hr0
        go_quiet (fail)
        have hm := HBR.out.2.2.2.1 (by rw [HS3.out]; rw [HLV.out, HR0.out]; rfl)
        subst hm
        go_wp2
        go_ret
        exact ⟨rfl, LW.step HQ.out.2.2.2.2.2 (below_dr _ _)⟩
      have r0 : (x.ref == 0) = false := by simp [hr0]
      have hr1 : decide (x.ref ≠ 0) = true := by simp [hr0]
      have HR0 := Lib.hid hr1
      clear hr0 hr1
      by_cases hv0 : xn = 0
      · have v0 : decide ((0 : Int) < (xn : Int)) = false := by simp [hv0]
        have v00 : decide (0 < xn) = false := by simp [hv0]
        have v01 : ¬ 0 < xn := by omega
        have hv1 : (xn == 0) = true := by simp [hv0]
        have HV1 := Lib.hid hv1
        clear hv0 hv1
        go_quiet (fail)
        have hok : stepN ⟨lv, its⟩ k = true := by rw [HS3.out]; rw [HLV.out, HR0.out, HV1.out]; rfl
        have hallk := fun j (hj : j < k + 1) => (Nat.lt_succ_iff_lt_or_eq.1 hj).elim (HBR.out.2.1 j) (fun e => e ▸ hok)
        have HAL := Lib.hid hallk
        clear hallk hok
        go_wp2
        go_roundw
        case rel => exact ⟨k + 1, by omega, by go_num, HBR.out.1.trans (Below.mono (LW.step HQ.out.2.2.2.1 (below_dr _ _)) HBR.out.1.size), HAL.out⟩
        case measure => simp [intOf]; omega
      have v0 : decide ((0 : Int) < (xn : Int)) = true := by simp; omega
      have v00 : decide (0 < xn) = true := by simp; omega
      have v01 : 0 < xn := by omega
      have hv1 : (xn == 0) = false := by simp [hv0]
      have HV1 := Lib.hid hv1
      clear hv0 hv1
      go_quiet (fail)
      have hm := HBR.out.2.2.2.1 (by rw [HS3.out]; rw [HLV.out, HR0.out, HV1.out]; rfl)
      subst hm
      go_wp2
      go_ret
      exact ⟨rfl, LW.step HQ.out.2.2.2.2.2 (below_dr _ _)⟩
    obtain ⟨m, rfl⟩ : ∃ m, k = m + 1 := ⟨k - 1, by omega⟩
    have hcm := HBR.out.2.2.1 m (its.getD m nokI) (get_l _ _ _ (by omega))
    obtain ⟨y, hy⟩ : ∃ y, its.getD m nokI = y := ⟨_, rfl⟩
    rw [hy] at hcm
    obtain ⟨u0, u1, u2, -, -, -, -⟩ := hcm
    simp only [bV, wV, Nat.add_zero] at u0 u1 u2
    have hbb := cell_lt' u0
    simp only at hbb
    have y0 := fun X => (Below.cell (below_step HQ.out.2.2.2.1 (Below.size HQ.out.2.2.2.1) (aft_below w2 X)) (p := ⟨bb, bo + m * 5, none⟩) hbb).trans u0
    have y1 := fun X => (Below.cell (below_step HQ.out.2.2.2.1 (Below.size HQ.out.2.2.2.1) (aft_below w2 X)) (p := ⟨bb, bo + m * 5 + 1, none⟩) hbb).trans u1
    have y2 := fun X => (Below.cell (below_step HQ.out.2.2.2.1 (Below.size HQ.out.2.2.2.1) (aft_below w2 X)) (p := ⟨bb, bo + m * 5 + 2, none⟩) hbb).trans u2
    have k_less := fun W => less_any y.key x.key W
    simp only [keyV, bV, wV] at k_less
    have hs3 := HS2.out
    rw [show (m + 1 == 0) = false by simp, Bool.false_or, Nat.add_sub_cancel, hy] at hs3
    obtain ⟨bl, hbl⟩ : ∃ bl, lessK y.key x.key = bl := ⟨_, rfl⟩
    rw [hbl] at k_less hs3
    have HKL := Lib.hid k_less
    clear k_less hbl u0 u1 u2 hy
    clear c_qn0 c_qn1 c_qx0 c_qx1 c_qx2 c_qx3 c_qx4
    have x_qn0 := fun X => LK.cell (HQ.out.1.step (aft_below w2 X)) 0
    have x_qn1 := fun X => LK.cell (HQ.out.1.step (aft_below w2 X)) 1
    have x_qx0 := fun X => LK.cell (HQ.out.2.2.2.2.1.step (aft_below w2 X)) 0
    have x_qx1 := fun X => LK.cell (HQ.out.2.2.2.2.1.step (aft_below w2 X)) 1
    have x_qx2 := fun X => LK.cell (HQ.out.2.2.2.2.1.step (aft_below w2 X)) 2
    have x_qx3 := fun X => LK.cell (HQ.out.2.2.2.2.1.step (aft_below w2 X)) 3
    have x_qx4 := fun X => LK.cell (HQ.out.2.2.2.2.1.step (aft_below w2 X)) 4
    simp at x_qn0 x_qn1 x_qx0 x_qx1 x_qx2 x_qx3 x_qx4
    have im1 : (m : Int) < its.length := by omega
    have im2 : ¬ (its.length : Int) ≤ m := by omega
    have e0 : decide ((0 : Int) < ((m + 1 : Nat) : Int)) = true := by rw [decide_eq_true_eq]; omega
    have e1 : decide ((0 : Int) < (m : Int) + 1) = true := by rw [decide_eq_true_eq]; omega
    cases bl
    · have hs4 : stepN ⟨lv, its⟩ (m + 1) = false := hs3
      have HS3 := Lib.hid hs4
      clear hs3 hs4
      refine wp_region_held_drew (S := Cls w2) (by kernel_rfl) (Cls.drew w2) (fun hCl => ?_)
      refine wpAnyH_seg (fuel := 17) (by kernel_rfl) (fun _ d _ _ _ h => by cases d <;> exact h) hCl [0, 1, 2, 3, 4, 5, 6, 7, 8, 9, 10, 11] _ _ _ (by kernel_rfl) (by kernel_rfl) ?_
      simp only [opsOf_cons, opsOf_nil, consOp_some, List.getElem?_toArray, List.getElem?_cons_succ, List.getElem?_cons_zero]
      repeat (first | go_big_quiet_step (fail) | quiet_step (fail))
      refine wpQuiet_nil ?_
      refine wpAnyH_each (fuel := 16) [12] (by kernel_rfl) (by simp) (by kernel_rfl) ?_
      refine Each.cons _ rfl (fun K' hK => ?_) Each.nil
      go_simp
      refine (HKL.out _).mono ?_
      rintro e z1 ⟨rfl, hb⟩
      have hst := below_step hCl.below hCl.below.size hb
      clear hb
      have hCl := Cls.of hst
      refine hK.out (Cls w2) (fun _ h => h) hCl ?_
      clear hK K'
      refine wpAnyH_seg (fuel := 0) (by kernel_rfl) (fun _ d _ _ _ h => by cases d <;> exact h) hCl [13, 14, 15, 16, 17, 18, 19, 20, 21, 22, 23, 24, 25, 26, 27, 28] _ _ _ (by kernel_rfl) (by kernel_rfl) ?_
      simp only [opsOf_cons, opsOf_nil, consOp_some, List.getElem?_toArray, List.getElem?_cons_succ, List.getElem?_cons_zero]
      repeat (first | go_big_quiet_step (fail) | quiet_step (fail))
      refine wpQuiet_nil ?_
      refine wpAnyH_done (by kernel_rfl) ?_ _
      have hm := HBR.out.2.2.2.1 (by rw [HS3.out]; skip)
      subst hm
      go_wp2
      go_ret
      exact ⟨rfl, LW.step HQ.out.2.2.2.2.2 (hst)⟩
    rw [Bool.true_and] at hs3
    have HS3 := Lib.hid hs3
    clear hs3
    cases ab
    · have hlv : decide (lv ≤ 0) = true := by
        have := HLZ.out.2
        rw [decide_eq_false_iff_not] at this
        rw [decide_eq_true_eq]
        omega
      have HLV := Lib.hid hlv
      clear hlv
      refine wp_region_held_drew (S := Cls w2) (by kernel_rfl) (Cls.drew w2) (fun hCl => ?_)
      refine wpAnyH_seg (fuel := 17) (by kernel_rfl) (fun _ d _ _ _ h => by cases d <;> exact h) hCl [0, 1, 2, 3, 4, 5, 6, 7, 8, 9, 10, 11] _ _ _ (by kernel_rfl) (by kernel_rfl) ?_
      simp only [opsOf_cons, opsOf_nil, consOp_some, List.getElem?_toArray, List.getElem?_cons_succ, List.getElem?_cons_zero]
      repeat (first | go_big_quiet_step (fail) | quiet_step (fail))
      refine wpQuiet_nil ?_
      refine wpAnyH_each (fuel := 16) [12] (by kernel_rfl) (by simp) (by kernel_rfl) ?_
      refine Each.cons _ rfl (fun K' hK => ?_) Each.nil
      go_simp
      refine (HKL.out _).mono ?_
      rintro e z1 ⟨rfl, hb⟩
      have hst := below_step hCl.below hCl.below.size hb
      clear hb
      have hCl := Cls.of hst
      refine hK.out (Cls w2) (fun _ h => h) hCl ?_
      clear hK K'
      refine wpAnyH_seg (fuel := 0) (by kernel_rfl) (fun _ d _ _ _ h => by cases d <;> exact h) hCl [13, 14, 15, 16, 17, 18, 19, 20, 21, 22, 23, 24, 25, 26, 27, 28] _ _ _ (by kernel_rfl) (by kernel_rfl) ?_
      simp only [opsOf_cons, opsOf_nil, consOp_some, List.getElem?_toArray, List.getElem?_cons_succ, List.getElem?_cons_zero]
      repeat (first | go_big_quiet_step (fail) | quiet_step (fail))
      refine wpQuiet_nil ?_
      refine wpAnyH_done (by kernel_rfl) ?_ _
      have hok : stepN ⟨lv, its⟩ (m + 1) = true := by rw [HS3.out]; rw [HLV.out]; rfl
      have hallk := fun j (hj : j < (m + 1) + 1) => (Nat.lt_succ_iff_lt_or_eq.1 hj).elim (HBR.out.2.1 j) (fun e => e ▸ hok)
      have HAL := Lib.hid hallk
      clear hallk hok
      go_wp2
      go_roundw
      case rel => exact ⟨(m + 1) + 1, by omega, by go_num, HBR.out.1.trans (Below.mono (LW.step HQ.out.2.2.2.1 (hst)) HBR.out.1.size), HAL.out⟩
      case measure => simp [intOf]; omega
    have hlv : decide (lv ≤ 0) = false := by
      have := HLZ.out.2
      rw [decide_eq_true_eq] at this
      rw [decide_eq_false_iff_not]
      omega
    have HLV := Lib.hid hlv
    clear hlv
    by_cases hr0 : x.ref = 0
    · have r0 : (x.ref == 0) = true := by simp [hr0]
      have HR0 := Lib.hid hr0
      clear hr0
      refine wp_region_held_drew (S := Cls w2) (by kernel_rfl) (Cls.drew w2) (fun hCl => ?_)
      refine wpAnyH_seg (fuel := 17) (by kernel_rfl) (fun _ d _ _ _ h => by cases d <;> exact h) hCl [0, 1, 2, 3, 4, 5, 6, 7, 8, 9, 10, 11] _ _ _ (by kernel_rfl) (by kernel_rfl) ?_
      simp only [opsOf_cons, opsOf_nil, consOp_some, List.getElem?_toArray, List.getElem?_cons_succ, List.getElem?_cons_zero]
      repeat (first | go_big_quiet_step (fail) | quiet_step (fail))
      refine wpQuiet_nil ?_
      refine wpAnyH_each (fuel := 16) [12] (by kernel_rfl) (by simp) (by kernel_rfl) ?_
      refine Each.cons _ rfl (fun K' hK => ?_) Each.nil
      go_simp
      refine (HKL.out _).mono ?_
      rintro e z1 ⟨rfl, hb⟩
      have hst := below_step hCl.below hCl.below.size hb
      clear hb
      have hCl := Cls.of hst
      refine hK.out (Cls w2) (fun _ h => h) hCl ?_
      clear hK K'
      refine wpAnyH_seg (fuel := 0) (by kernel_rfl) (fun _ d _ _ _ h => by cases d <;> exact h) hCl [13, 14, 15, 16, 17, 18, 19, 20, 21, 22, 23, 24, 25, 26, 27, 28] _ _ _ (by kernel_rfl) (by kernel_rfl) ?_
      simp only [opsOf_cons, opsOf_nil, consOp_some, List.getElem?_toArray, List.getElem?_cons_succ, List.getElem?_cons_zero]
      repeat (first | go_big_quiet_step (fail) | quiet_step (fail))
      refine wpQuiet_nil ?_
      refine wpAnyH_done (by kernel_rfl) ?_ _
      have hm := HBR.out.2.2.2.1 (by rw [HS3.out]; rw [HLV.out, HR0.out]; rfl)
      subst hm
      go_wp2
      go_ret
      exact ⟨rfl, LW.step HQ.out.2.2.2.2.2 (hst)⟩
    have r0 : (x.ref == 0) = false := by simp [hr0]
    have hr1 : decide (x.ref ≠ 0) = true := by simp [hr0]
    have HR0 := Lib.hid hr1
    clear hr0 hr1
    by_cases hv0 : xn = 0
    · have v0 : decide ((0 : Int) < (xn : Int)) = false := by simp [hv0]
      have v00 : decide (0 < xn) = false := by simp [hv0]
      have v01 : ¬ 0 < xn := by omega
      have hv1 : (xn == 0) = true := by simp [hv0]
      have HV1 := Lib.hid hv1
      clear hv0 hv1
      refine wp_region_held_drew (S := Cls w2) (by kernel_rfl) (Cls.drew w2) (fun hCl => ?_)
      refine wpAnyH_seg (fuel := 17) (by kernel_rfl) (fun _ d _ _ _ h => by cases d <;> exact h) hCl [0, 1, 2, 3, 4, 5, 6, 7, 8, 9, 10, 11] _ _ _ (by kernel_rfl) (by kernel_rfl) ?_
      simp only [opsOf_cons, opsOf_nil, consOp_some, List.getElem?_toArray, List.getElem?_cons_succ, List.getElem?_cons_zero]
      repeat (first | go_big_quiet_step (fail) | quiet_step (fail))
      refine wpQuiet_nil ?_
      refine wpAnyH_each (fuel := 16) [12] (by kernel_rfl) (by simp) (by kernel_rfl) ?_
      refine Each.cons _ rfl (fun K' hK => ?_) Each.nil
      go_simp
      refine (HKL.out _).mono ?_
      rintro e z1 ⟨rfl, hb⟩
      have hst := below_step hCl.below hCl.below.size hb
      clear hb
      have hCl := Cls.of hst
      refine hK.out (Cls w2) (fun _ h => h) hCl ?_
      clear hK K'
      refine wpAnyH_seg (fuel := 0) (by kernel_rfl) (fun _ d _ _ _ h => by cases d <;> exact h) hCl [13, 14, 15, 16, 17, 18, 19, 20, 21, 22, 23, 24, 25, 26, 27, 28] _ _ _ (by kernel_rfl) (by kernel_rfl) ?_
      simp only [opsOf_cons, opsOf_nil, consOp_some, List.getElem?_toArray, List.getElem?_cons_succ, List.getElem?_cons_zero]
      repeat (first | go_big_quiet_step (fail) | quiet_step (fail))
      refine wpQuiet_nil ?_
      refine wpAnyH_done (by kernel_rfl) ?_ _
      have hok : stepN ⟨lv, its⟩ (m + 1) = true := by rw [HS3.out]; rw [HLV.out, HR0.out, HV1.out]; rfl
      have hallk := fun j (hj : j < (m + 1) + 1) => (Nat.lt_succ_iff_lt_or_eq.1 hj).elim (HBR.out.2.1 j) (fun e => e ▸ hok)
      have HAL := Lib.hid hallk
      clear hallk hok
      go_wp2
      go_roundw
      case rel => exact ⟨(m + 1) + 1, by omega, by go_num, HBR.out.1.trans (Below.mono (LW.step HQ.out.2.2.2.1 (hst)) HBR.out.1.size), HAL.out⟩
      case measure => simp [intOf]; omega
    have v0 : decide ((0 : Int) < (xn : Int)) = true := by simp; omega
    have v00 : decide (0 < xn) = true := by simp; omega
    have v01 : 0 < xn := by omega
    have hv1 : (xn == 0) = false := by simp [hv0]
    have HV1 := Lib.hid hv1
    clear hv0 hv1
    refine wp_region_held_drew (S := Cls w2) (by kernel_rfl) (Cls.drew w2) (fun hCl => ?_)
    refine wpAnyH_seg (fuel := 17) (by kernel_rfl) (fun _ d _ _ _ h => by cases d <;> exact h) hCl [0, 1, 2, 3, 4, 5, 6, 7, 8, 9, 10, 11] _ _ _ (by kernel_rfl) (by kernel_rfl) ?_
    simp only [opsOf_cons, opsOf_nil, consOp_some, List.getElem?_toArray, List.getElem?_cons_succ, List.getElem?_cons_zero]
    repeat (first | go_big_quiet_step (fail) | quiet_step (fail))
    refine wpQuiet_nil ?_
    refine wpAnyH_each (fuel := 16) [12] (by kernel_rfl) (by simp) (by kernel_rfl) ?_
    refine Each.cons _ rfl (fun K' hK => ?_) Each.nil
    go_simp
    refine (HKL.out _).mono ?_
    rintro e z1 ⟨rfl, hb⟩
    have hst := below_step hCl.below hCl.below.size hb
    clear hb
    have hCl := Cls.of hst
    refine hK.out (Cls w2) (fun _ h => h) hCl ?_
    clear hK K'
    refine wpAnyH_seg (fuel := 0) (by kernel_rfl) (fun _ d _ _ _ h => by cases d <;> exact h) hCl [13, 14, 15, 16, 17, 18, 19, 20, 21, 22, 23, 24, 25, 26, 27, 28] _ _ _ (by kernel_rfl) (by kernel_rfl) ?_
    simp only [opsOf_cons, opsOf_nil, consOp_some, List.getElem?_toArray, List.getElem?_cons_succ, List.getElem?_cons_zero]
    repeat (first | go_big_quiet_step (fail) | quiet_step (fail))
    refine wpQuiet_nil ?_
    refine wpAnyH_done (by kernel_rfl) ?_ _
    have hm := HBR.out.2.2.2.1 (by rw [HS3.out]; rw [HLV.out, HR0.out, HV1.out]; rfl)
    subst hm
    go_wp2
    go_ret
    exact ⟨rfl, LW.step HQ.out.2.2.2.2.2 (hst)⟩
  obtain rfl : k = its.length := by omega
  have hm := HYES.out l0 l6 (by omega) HLZ.out.1 hall
  subst hm
  clear hall
  go_wp2
  go_ret
  exact ⟨rfl, HQ.out.2.2⟩
end Go.Proofs.Ytkfgegdnpinbdaa

namespace Go.Proofs.Ytkfgegdnpinbdaa
open Go.RowKit

def bodyN (its : List ItemL) : List UInt8 := (its.map itemB).flatten
def headN (n : NodeL) : List UInt8 := [78, UInt8.ofNat n.level.toNat, UInt8.ofNat n.items.length]
def bytesN (n : NodeL) : List UInt8 := headN n ++ bodyN n.items
def blockN (n : NodeL) : List UInt8 := if mayN n then sealL (bytesN n) else []
theorem mayN_all {n : NodeL} (h : mayN n = true) : (0 ≤ n.level ∧ n.level < 6) ∧ n.items.length ≤ 5 ∧ (n.level ≤ 0 ∨ n.items.length ≠ 0) ∧ ∀ i, i < n.items.length → stepN n i = true := by
  unfold mayN at h
  simp only [Bool.and_eq_true, decide_eq_true_eq, Bool.or_eq_true, bne_iff_ne, List.all_eq_true, List.mem_range] at h
  exact ⟨⟨h.1.1.1.1, h.1.1.1.2⟩, h.1.1.2, h.1.2, h.2⟩
theorem stepN_may {n : NodeL} {i : Nat} (h : stepN n i = true) : mayI (n.items.getD i nokI) = true := by
  unfold stepN at h
  simp only [Bool.and_eq_true] at h
  exact h.1.1
theorem itemB_len' {x : ItemL} (h : mayI x = true) : (itemB x).length ≤ 24 := by
  have h1 : x.val.length ≤ 12 := by
    unfold mayI at h
    exact (of_decide_eq_true h).2
  have h2 : (itemB x).length = 12 + x.val.length := itemB_length x
  omega
theorem bodyN_len (its : List ItemL) (h : ∀ x ∈ its, mayI x = true) : (bodyN its).length ≤ its.length * 24 := by
  induction its with
  | nil => simp [bodyN]
  | cons x l ih =>
    have h1 := itemB_len' (h x (List.mem_cons_self ..))
    have h2 := ih (fun y hy => h y (List.mem_cons_of_mem _ hy))
    unfold bodyN at h2 ⊢
    simp only [List.map_cons, List.flatten_cons, List.length_append, List.length_cons]
    omega
theorem mem_getD {α : Type} {l : List α} {x d : α} (h : x ∈ l) : ∃ i, i < l.length ∧ l.getD i d = x := by
  obtain ⟨i, hi, e⟩ := List.mem_iff_getElem.1 h
  exact ⟨i, hi, by simp [hi, e]⟩
theorem mayN_items {n : NodeL} (h : mayN n = true) : ∀ x ∈ n.items, mayI x = true := fun x hx => by
  obtain ⟨i, hi, rfl⟩ := mem_getD (d := nokI) hx
  exact stepN_may ((mayN_all h).2.2.2 i hi)
theorem bytesN_len {n : NodeL} (h : mayN n = true) : (bytesN n).length ≤ 124 := by
  have h1 := bodyN_len n.items (mayN_items h)
  have h2 := (mayN_all h).2.1
  unfold bytesN headN
  simp only [List.length_append, List.length_cons, List.length_nil]
  omega
theorem bodyN_succ (its : List ItemL) (k : Nat) (h : k < its.length) : bodyN (its.take (k + 1)) = bodyN (its.take k) ++ itemB (its.getD k nokI) := by
  unfold bodyN
  rw [List.take_succ_eq_append_getElem h, List.map_append, List.flatten_append]
  simp [h]
theorem own_lit (w : World) (l : List UInt8) (cs : Array Value) (e : TypeId) (base : Nat) (hb : base ≤ w.heap.size) (hl : l.length ≤ maxLen) (hcs : cs = (l.map bV).toArray) (n : Nat) (hn : n = l.length) : OwnB base e (w.alloc (.cells cs e)) (.slice (some ⟨w.heap.size, 0, none⟩) n n) l := by
  subst hcs hn
  refine ⟨by simp, .inr ⟨w.heap.size, l.length, _, rfl, hb, World.alloc_heap_new w _, Nat.le_refl _, hl, by simp, by simp only [Nat.mul_one]; exact List.take_of_length_le (by simp)⟩⟩

set_option maxRecDepth 100000 in
set_option maxHeartbeats 4000000 in
/-- node.Write. -/
theorem nwrite_any (n : NodeL) (v : Value) (w : World) (h : Sl rItem w 0 w.heap.size v n.items) :
    Calls Try.prog 95 #[.agg #[.int .i64 n.level, v]] w fun e w' => ∃ u, e = .returned (.tuple #[u, .int .i64 (mayE (mayN n))]) ∧ MadeB w w' u (blockN n) := by
  have k1 := fun V v hh => ncheck_any n v V hh
  cases hm : mayN n with
  | false =>
    rw [hm] at k1
    obtain ⟨av, cv, rfl, -, -, -, -⟩ := id h
    have hst := (Below.refl w.heap.size w).alloc (Nat.le_refl _) (.cells #[.int .i64 n.level, .slice av n.items.length cv] 47)
    have hq := World.alloc_heap_new w (.cells #[.int .i64 n.level, .slice av n.items.length cv] 47)
    have K1 := Lib.hid (k1 _ _ (h.step hst))
    have hbl : blockN n = [] := by unfold blockN; rw [hm]; rfl
    rw [hbl]
    clear k1 hm h hbl
    obtain ⟨V, hV⟩ : ∃ V, w.alloc (.cells #[.int .i64 n.level, .slice av n.items.length cv] 47) = V := ⟨_, rfl⟩
    rw [hV] at hst hq K1
    have c0 := blk_cell hq 0
    have c1 := blk_cell hq 1
    simp at c0 c1
    have HB := Lib.hid hst
    clear hst hq
    go_enter Try.func95, Try.ntmps95
    go_wp2_with fail
    refine K1.out.mono ?_
    rintro e w1 ⟨rfl, hst⟩
    have me8 : mayE false = 8 := rfl
    rw [me8]
    go_wp2
    go_ret2
    exact ⟨_, rfl, MadeB.nil_ (below_step HB.out HB.out.size hst)⟩
  | true =>
  rw [hm] at k1
  have me0 : mayE true = 0 := rfl
  rw [me0] at k1 ⊢
  obtain ⟨⟨l0, l6⟩, l5, -, -⟩ := mayN_all hm
  have hbl : blockN n = sealL (headN n ++ bodyN n.items) := by unfold blockN; rw [hm]; rfl
  have HLN := Lib.hid (bytesN_len hm)
  have HIT := Lib.hid (mayN_items hm)
  rw [hbl]
  obtain ⟨lvi, its⟩ := n
  simp only at *
  obtain ⟨lv, rfl⟩ : ∃ lv : Nat, lvi = lv := ⟨lvi.toNat, by omega⟩
  obtain ⟨hd, hhd⟩ : ∃ hd, headN ⟨lv, its⟩ = hd := ⟨_, rfl⟩
  have hhd2 : hd = [78, UInt8.ofNat lv, UInt8.ofNat its.length] := by rw [← hhd]; unfold headN; simp
  unfold bytesN at HLN
  simp only at HLN
  rw [hhd] at HLN ⊢
  have HHD := Lib.hid hhd2
  obtain ⟨av, cv, rfl, g1, g2, -, -⟩ := id h
  unfold maxLen at g2
  have hst := (Below.refl w.heap.size w).alloc (Nat.le_refl _) (.cells #[.int .i64 (lv : Nat), .slice av its.length cv] 47)
  have qn := LK.new w (.cells #[.int .i64 (lv : Nat), .slice av its.length cv] 47)
  have hB : LW w _ := hst
  have hS := (LS.of h (Nat.le_refl _)).step hst
  have sz_V : w.heap.size < (w.alloc (.cells #[.int .i64 (lv : Nat), .slice av its.length cv] 47)).heap.size := by simp
  obtain ⟨V, hV⟩ : ∃ V, w.alloc (.cells #[.int .i64 (lv : Nat), .slice av its.length cv] 47) = V := ⟨_, rfl⟩
  rw [hV] at hB hS qn sz_V
  clear h hst hm hbl me0 hhd hhd2
  have K1 := Lib.hid k1
  clear k1
  have HQ := Lib.hid (And.intro qn (And.intro hS hB))
  clear qn hS hB
  have c_qn0 := LK.cell HQ.out.1 0
  have c_qn1 := LK.cell HQ.out.1 1
  simp at c_qn0 c_qn1
  go_enter Try.func95, Try.ntmps95
  go_upto_region 1 with (fail)
  clear hV
  go_wp2_with fail
  refine (K1.out _ _ HQ.out.2.1.v).mono ?_
  rintro e w1 ⟨rfl, hst⟩
  clear c_qn0 c_qn1
  obtain ⟨qn, hS, hB⟩ := HQ.out
  clear HQ
  have sz_w1 : V.heap.size ≤ w1.heap.size := hst.size
  replace qn := qn.step hst
  replace hS := hS.step hst
  replace hB := hB.step hst
  clear hst
  have HQ := Lib.hid (And.intro qn (And.intro hS hB))
  clear qn hS hB
  have c_qn0 := LK.cell HQ.out.1 0
  have c_qn1 := LK.cell HQ.out.1 1
  simp at c_qn0 c_qn1
  have i5 : (its.length : Int) < 256 := by omega
  have i6 : (lv : Int) < 256 := by omega
  go_upto_region 5 with (fail)
  clear c_qn0 c_qn1
  obtain ⟨qn, hS, hB⟩ := HQ.out
  clear HQ
  have hst := (Below.refl w1.heap.size w1).alloc (Nat.le_refl _) (.cells #[.int .u8 78, .int .u8 (lv : Nat), .int .u8 (its.length : Nat)] 5)
  have hown := own_lit w1 hd #[.int .u8 78, .int .u8 (lv : Nat), .int .u8 (its.length : Nat)] 5 w1.heap.size (Nat.le_refl _) (by rw [HHD.out]; simp [maxLen]) (by rw [HHD.out]; simp [bV]; constructor <;> omega) 3 (by rw [HHD.out]; rfl)
  obtain ⟨wb, hw⟩ : ∃ v, w1.alloc (.cells #[.int .u8 78, .int .u8 (lv : Nat), .int .u8 (its.length : Nat)] 5) = v := ⟨_, rfl⟩
  have hqb := qn.step hst
  rw [hw] at hst hown hqb ⊢
  clear hw
  have cb0 := LK.cell hqb 0
  have cb1 := LK.cell hqb 1
  simp at cb0 cb1
  have HQ := Lib.hid (And.intro qn (And.intro hS hB))
  clear qn hS hB
  have HOW := Lib.hid (And.intro hown hst)
  clear hown hst hqb
  go_wp2_with fail
  go_loopw [5, 26] (fun s i wr => ∃ j : Nat, j ≤ its.length ∧ i = .int .i64 j ∧ OwnB w1.heap.size 5 wr s (hd ++ bodyN (its.take j)) ∧ Below w1.heap.size w1 wr) (fun _ i _ => its.length - (intOf i).toNat)
  case atStart => exact ⟨0, Nat.zero_le _, rfl, by simpa [bodyN] using HOW.out.1, HOW.out.2⟩
  case round =>
  obtain ⟨j, hj, rfl, hown, hBr⟩ := hrel
  clear cb0 cb1
  have hst := hBr
  obtain ⟨qn, hS, hB⟩ := HQ.out
  clear HQ
  have sz_wr : w1.heap.size ≤ wr.heap.size := hst.size
  replace qn := qn.step hst
  replace hS := hS.step hst
  replace hB := hB.step hst
  clear hst
  have HQ := Lib.hid (And.intro qn (And.intro hS hB))
  clear qn hS hB
  have c_qn0 := LK.cell HQ.out.1 0
  have c_qn1 := LK.cell HQ.out.1 1
  simp at c_qn0 c_qn1
  by_cases hlt : j < its.length
  · obtain ⟨bb, bo, cb, e1, -, -, -, zc, hcell⟩ := HQ.out.2.1.v.at_ (by omega)
    injection e1 with e1 _ e2
    subst e1 e2
    obtain ⟨f0, f1, f2, f3, f3w, vx, f4, hvx⟩ := hcell j (its.getD j nokI) (get_l _ _ _ hlt)
    have hsc := bodyN_succ its j hlt
    have hmi := HIT.out (its.getD j nokI) (List.mem_of_getElem? (get_l _ _ _ hlt))
    have htk := bodyN_len (its.take j) (fun x hx => HIT.out x (List.mem_of_mem_take hx))
    rw [List.length_take] at htk
    obtain ⟨x, hx⟩ : ∃ x, its.getD j nokI = x := ⟨_, rfl⟩
    rw [hx] at f0 f1 f2 f3 hsc hmi hvx
    obtain ⟨xn, hxn⟩ : ∃ xn, x.val.length = xn := ⟨_, rfl⟩
    obtain ⟨ax, cx, rfl, -, -⟩ := hvx.form hxn
    simp only [bV, wV, Nat.add_zero] at f0 f1 f2 f3 f4
    have hn5 : rItem.n = 5 := rfl
    rw [hn5] at f0 f1 f2 f3 f4
    unfold maxLen at zc
    obtain ⟨bd, hbd⟩ : ∃ bd, bodyN (its.take j) = bd := ⟨_, rfl⟩
    rw [hbd] at hsc htk hown
    have hix := itemB_len' hmi
    have k_w := fun V hh => iwrite_any x (.slice ax xn cx) V hh
    rw [show wrI x = itemB x by unfold wrI; rw [hmi]; rfl, hmi, show mayE true = 0 from rfl] at k_w
    simp only [itemV, bV, wV] at k_w
    have hXB := LB.of hvx (Nat.le_refl _)
    have HX := Lib.hid (And.intro k_w (And.intro hsc (And.intro hBr hown)))
    have hbl : bd.length ≤ 120 := by omega
    clear hvx hcell hx hxn hbd k_w hsc hBr hn5 hmi htk hown
    obtain ⟨qn, hS, hB⟩ := HQ.out
    clear HQ
    have hR : LW wr wr := Below.refl _ _
    have HQ := Lib.hid (And.intro qn (And.intro hS (And.intro hXB (And.intro hR hB))))
    clear qn hS hXB hR hB
    go_upto_region 8 with (fail)
    clear c_qn0 c_qn1
    obtain ⟨qn, hS, hXB, hR, hB⟩ := HQ.out
    clear HQ
    have hst := (Below.refl wr.heap.size wr).alloc (Nat.le_refl _) (.cells #[.int .u8 (x.key.kind.toNat : Int), .int .u32 (x.key.id.toNat : Int), .int .u32 (x.key.off.toNat : Int), .int .i64 x.ref, .slice ax xn cx] 97)
    have hlt : wr.heap.size < (wr.alloc (.cells #[.int .u8 (x.key.kind.toNat : Int), .int .u32 (x.key.id.toNat : Int), .int .u32 (x.key.off.toNat : Int), .int .i64 x.ref, .slice ax xn cx] 97)).heap.size := by simp
    have qx := LK.new wr (.cells #[.int .u8 (x.key.kind.toNat : Int), .int .u32 (x.key.id.toNat : Int), .int .u32 (x.key.off.toNat : Int), .int .i64 x.ref, .slice ax xn cx] 97)
    replace qn := qn.step hst
    replace hS := hS.step hst
    replace hXB := hXB.step hst
    replace hR := hR.step hst
    replace hB := hB.step hst
    obtain ⟨w2, hw⟩ : ∃ v, wr.alloc (.cells #[.int .u8 (x.key.kind.toNat : Int), .int .u32 (x.key.id.toNat : Int), .int .u32 (x.key.off.toNat : Int), .int .i64 x.ref, .slice ax xn cx] 97) = v := ⟨_, rfl⟩
    rw [hw] at hlt qx qn hS hXB hR hB ⊢
    clear hw hst
    have sz_w2 := hlt
    clear hlt
    have HQ := Lib.hid (And.intro qn (And.intro hS (And.intro hXB (And.intro hR (And.intro qx hB)))))
    clear qn hS hXB hR qx hB
    have c_qn0 := LK.cell HQ.out.1 0
    have c_qn1 := LK.cell HQ.out.1 1
    have c_qx0 := LK.cell HQ.out.2.2.2.2.1 0
    have c_qx1 := LK.cell HQ.out.2.2.2.2.1 1
    have c_qx2 := LK.cell HQ.out.2.2.2.2.1 2
    have c_qx3 := LK.cell HQ.out.2.2.2.2.1 3
    have c_qx4 := LK.cell HQ.out.2.2.2.2.1 4
    simp at c_qn0 c_qn1 c_qx0 c_qx1 c_qx2 c_qx3 c_qx4
    clear f0 f1 f2 f3 f4
    go_wp2_with fail
    refine (HX.out.1 _ HQ.out.2.2.1.v).mono ?_
    rintro e w3 ⟨vi, rfl, hm⟩
    clear c_qn0 c_qn1 c_qx0 c_qx1 c_qx2 c_qx3 c_qx4
    obtain ⟨qn, hS, hXB, hR, qx, hB⟩ := HQ.out
    clear HQ
    have hI := LM.of hm
    have hst := hm.below
    clear hm
    have sz_w3 : w2.heap.size ≤ w3.heap.size := hst.size
    replace qn := qn.step hst
    replace hS := hS.step hst
    replace hXB := hXB.step hst
    replace hR := hR.step hst
    replace qx := qx.step hst
    replace hB := hB.step hst
    clear hst
    have HQ := Lib.hid (And.intro qn (And.intro hS (And.intro hXB (And.intro hR (And.intro qx (And.intro hI hB))))))
    clear qn hS hXB hR qx hI hB
    have c_qn0 := LK.cell HQ.out.1 0
    have c_qn1 := LK.cell HQ.out.1 1
    have c_qx0 := LK.cell HQ.out.2.2.2.2.1 0
    have c_qx1 := LK.cell HQ.out.2.2.2.2.1 1
    have c_qx2 := LK.cell HQ.out.2.2.2.2.1 2
    have c_qx3 := LK.cell HQ.out.2.2.2.2.1 3
    have c_qx4 := LK.cell HQ.out.2.2.2.2.1 4
    simp at c_qn0 c_qn1 c_qx0 c_qx1 c_qx2 c_qx3 c_qx4
    obtain ⟨ib, hib⟩ : ∃ ib, itemB x = ib := ⟨_, rfl⟩
    have hir := HX.out.2.1
    rw [hib] at HQ hir hix
    have hown2 : OwnB w1.heap.size 5 w3 _ (hd ++ bd) := World.ownsRow.kept HX.out.2.2.2 (row := none) ⟨(HQ.out.2.2.2.1).os, (HQ.out.2.2.2.1).tape, (HQ.out.2.2.2.1).output, (HQ.out.2.2.2.1).size, fun q hq _ => (HQ.out.2.2.2.1).block q hq⟩ (by cases hvv : Value.ownBlock _ <;> simp)
    have HI2 := Lib.hid (And.intro hir hown2)
    have hhl : hd.length = 3 := by rw [HHD.out]; rfl
    clear hib hir hown2
    have HHL := Lib.hid hhl
    clear hhl
    go_wp2_with (at_builtin; refine wpList_appB rfl _ _ 26 rfl w1.heap.size 5 Try.underlying26 info_u8 _ (hd ++ bd) rfl HI2.out.2 0 w3.heap.size vi ib rfl HQ.out.2.2.2.2.2.1.v (by rw [List.length_append, HHL.out]; omega) (by omega) ?_; intro v5 w5 hown5 hB5)
    rw [List.append_assoc, ← HI2.out.1] at hown5
    have hBf := HX.out.2.2.1.trans ((Below.mono HQ.out.2.2.2.1 (show w1.heap.size ≤ wr.heap.size from sz_wr)).trans hB5)
    have HF := Lib.hid (And.intro hown5 hBf)
    clear hown5 hBf hB5
    clear c_qn0 c_qn1 c_qx0 c_qx1 c_qx2 c_qx3 c_qx4
    go_wp2
    go_roundw
    case rel => exact ⟨j + 1, by omega, by go_num, HF.out.1, HF.out.2⟩
    case measure => simp [intOf]; omega
  obtain rfl : j = its.length := by omega
  rw [List.take_length] at hown
  have hbs := hown.bytes.all0
  have k_s := seal_yes _ (hd ++ bodyN its) wr hbs HLN.out
  have KS := Lib.hid k_s
  clear k_s hbs hown
  have HBf := Lib.hid (HQ.out.2.2)
  go_wp2_with fail
  refine KS.out.mono ?_
  rintro e w6 ⟨u, rfl, hm⟩
  go_wp2
  go_ret2
  exact ⟨_, rfl, hm.bytes.more (by have := Below.size HBf.out; omega) (Nat.le_refl _), hm.thawed, LW.step HBf.out hm.below⟩
end Go.Proofs.Ytkfgegdnpinbdaa

