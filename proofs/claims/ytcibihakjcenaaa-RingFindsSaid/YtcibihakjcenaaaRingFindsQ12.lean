/- RingFinds: the words and contracts, part 12. -/
import Derived.Test.YtcibihakjcenaaaRingFindsQ1
import Derived.Test.YtcibihakjcenaaaRingFindsQ2
import Derived.Test.YtcibihakjcenaaaRingFindsQ3
import Derived.Test.YtcibihakjcenaaaRingFindsQ4
import Derived.Test.YtcibihakjcenaaaRingFindsQ5
import Derived.Test.YtcibihakjcenaaaRingFindsQ6
import Derived.Test.YtcibihakjcenaaaRingFindsQ7
import Derived.Test.YtcibihakjcenaaaRingFindsQ8
import Derived.Test.YtcibihakjcenaaaRingFindsQ9
import Derived.Test.YtcibihakjcenaaaRingFindsQ10
import Derived.Test.YtcibihakjcenaaaRingFindsQ11
import Derived.WalkKit
import Derived.WalkLawsBesides
import Derived.WalkSpells
import Derived.Lib.Hide
import Derived.Laws.Rows
import Derived.Laws.AppendOwnNone
import Derived.Maps.AppendAt
import Derived.ProofKit
import Derived.Deep.Slices
import Derived.WideShapes
import Derived.RangeFuncNested
import Derived.RangeFuncBound
import Derived.RangeFuncCalls
import Derived.RangeFuncLeaves
import Derived.RangeFuncBox
import Derived.Shelf.Abstract
import Derived.Shelf.RegionOpen
import Derived.OwnWalkIn
import Derived.TacticsInMore
import Derived.LoopNIn
import Derived.LoopIn
import Derived.Lib.AppendZerosOnto
import Derived.Lib.SliceRun
import Derived.Lib.Walk
import Derived.Deep.LoopGhost
import Derived.Laws.CopyOwn
import Derived.Laws.CopyRow
import Derived.OrdersHeld
import Derived.Deep.QuietTactic
import Derived.BigQuiet
import Derived.StillTailTactics
import Derived.OpenShut
import Derived.Deep.DeepCutAuto
import Derived.Deep.RegionHeld
import Derived.Laws.MakeOwn
import Derived.KernelRfl
import Derived.BigFrameIn
import Derived.ShutString
import Derived.ChangeOld
import Derived.Below
namespace Go.Proofs.Ytcibihakjcenaaa
open Go.RowKit

theorem own_below {base : Nat} {w w' : World} {v : Value} {l : List UInt8} (h : OwnB base 5 w v l) (hb : Below w.heap.size w w') : OwnB base 5 w' v l := World.ownsRow.kept h (row := none) ⟨hb.os, hb.tape, hb.output, hb.size, fun q hq _ => hb.block q hq⟩ (Classical.em _)
theorem own_mono {base base' : Nat} {w : World} {v : Value} {l : List UInt8} (h : OwnB base 5 w v l) (hb : base' ≤ base) : OwnB base' 5 w v l := by
  obtain ⟨h1, h2⟩ := h
  refine ⟨h1, ?_⟩
  rcases h2 with h2 | ⟨g, cap, cur, e, hg, h3⟩
  · exact .inl h2
  · exact .inr ⟨g, cap, cur, e, Nat.le_trans hb hg, h3⟩
/-- What each operation of the head's region is good for. -/
def gWu (g : Nat) (La Lr Lb Lc Ln : List UInt8) (vr : Value) : Nat → Value → World → Prop
  | 2 => fun v W => Bytes W 0 W.heap.size v La
  | 6 => fun v W => Bytes W 0 W.heap.size v Lb
  | 9 => fun v W => Bytes W 0 W.heap.size v Lc
  | 14 => fun v W => Bytes W 0 W.heap.size v Ln
  | 15 => fun v W => ∃ b v0 v2 v3 v4, v = .slice (some ⟨b, 0, none⟩) 5 5 ∧ W.heap[b]? = some (.cells #[v0, vr, v2, v3, v4] 26 (0, 0)) ∧
      Bytes W 0 W.heap.size v0 La ∧ Bytes W 0 W.heap.size v2 Lb ∧ Bytes W 0 W.heap.size v3 Lc ∧ Bytes W 0 W.heap.size v4 Ln
  | 16 => fun v W => OwnB g 5 W v (La ++ Lr ++ Lb ++ Lc ++ Ln)
  | 17 => fun v W => OwnB g 5 W v (La ++ Lr ++ Lb ++ Lc ++ Ln)
  | _ => fun _ _ => True
theorem gWu_keep (g : Nat) (La Lr Lb Lc Ln : List UInt8) (vr : Value) (i : Nat) (v : Value) (W W' : World) (h : gWu g La Lr Lb Lc Ln vr i v W) (hb : Below W.heap.size W W') : gWu g La Lr Lb Lc Ln vr i v W' := by
  unfold gWu at *
  split at h
  · exact h.step hb
  · exact h.step hb
  · exact h.step hb
  · exact h.step hb
  · obtain ⟨b, v0, v2, v3, v4, e, hh, h0, h2, h3, h4⟩ := h
    exact ⟨b, v0, v2, v3, v4, e, (hb.block b (Array.getElem?_eq_some_iff.1 hh).1).trans hh, h0.step hb, h2.step hb, h3.step hb, h4.step hb⟩
  · exact own_below h hb
  · exact own_below h hb
  · exact h
set_option maxRecDepth 100000 in
set_option maxHeartbeats 1000000 in
theorem uwrite_yes (s : SupL) (u : Value) (w : World) (h_s : SupV w 0 w.heap.size u s) (hm : mayU s = true) :
    Calls Try.prog 15 #[.agg #[wV s.gen, .int .i64 s.root, wV s.next, wV s.table, u]] w fun e w' => ∃ x, e = .returned (.tuple #[x, .int .i64 0]) ∧ MadeB w w' x (blockU s) := by
  have hI := h_s.2
  obtain ⟨md, mr, mn⟩ := mayU_iff.1 hm
  have hbl := bytesU_len hm
  have hck := fun V hh => ucheck_any s u V ⟨h_s.1, hh⟩
  rw [show errUw s = 0 by unfold errUw; rw [hm]; rfl] at hck
  have hfin : blockU s = sealL (headU s ++ deadB s.dead) := by unfold blockU bytesU; rw [hm]; rfl
  rw [hfin]
  clear hfin h_s hm
  unfold bytesU at hbl
  obtain ⟨g, ro, nx, tb, dl⟩ := s
  have hhd : headU ⟨g, ro, nx, tb, dl⟩ = fourL g.toNat ++ twoL ro.toNat ++ fourL nx.toNat ++ fourL tb.toNat ++ [UInt8.ofNat dl.length] := rfl
  have hhl := headU_len ⟨g, ro, nx, tb, dl⟩
  generalize headU ⟨g, ro, nx, tb, dl⟩ = hdd at *
  simp only at *
  obtain ⟨ro, rfl⟩ : ∃ q : Nat, ro = q := ⟨ro.toNat, by omega⟩
  rw [Int.toNat_natCast] at hhd
  have hg := g.toNat_lt
  have hn := nx.toNat_lt
  have ht := tb.toNat_lt
  simp only [wV] at *
  generalize g.toNat = ge at *
  generalize nx.toNat = ne at *
  generalize tb.toNat = ta at *
  obtain ⟨n, hn0⟩ : ∃ n, dl.length = n := ⟨_, rfl⟩
  have HN := Lib.hid hn0
  obtain ⟨a, c, rfl, g1, g2, -, -⟩ := id hI
  unfold maxLen at g2
  rw [hn0] at mn g1 hhd hck ⊢
  rw [hn0] at hI
  have hst := (Below.refl w.heap.size w).alloc (Nat.le_refl _) (.cells #[.int .u32 (ge : Nat), .int .i64 (ro : Nat), .int .u32 (ne : Nat), .int .u32 (ta : Nat), .slice a n c] 25)
  have hq := LK.new w (.cells #[.int .u32 (ge : Nat), .int .i64 (ro : Nat), .int .u32 (ne : Nat), .int .u32 (ta : Nat), .slice a n c] 25)
  replace hI := hI.step hst
  have HI := Lib.hid (And.intro hI (And.intro hst hck))
  have HF := Lib.hid (And.intro hhd (And.intro hhl (And.intro hbl md)))
  clear hI hst hck hhd hhl hbl md hn0
  go_enter Try.func15, Try.ntmps15
  go_upto_region 1 with (fail)
  obtain ⟨V, hV⟩ : ∃ V, (w.alloc (.cells #[.int .u32 (ge : Nat), .int .i64 (ro : Nat), .int .u32 (ne : Nat), .int .u32 (ta : Nat), .slice a n c] 25)) = V := ⟨_, rfl⟩
  rw [hV] at hq HI ⊢
  clear hV
  have c0 := LK.cell hq 0
  have c1 := LK.cell hq 1
  have c2 := LK.cell hq 2
  have c3 := LK.cell hq 3
  have c4 := LK.cell hq 4
  simp at c0 c1 c2 c3 c4
  go_wp2_with fail
  refine (HI.out.2.2 _ HI.out.1).mono ?_
  rintro e w1 ⟨rfl, hst⟩
  clear c0 c1 c2 c3 c4
  have HB := Lib.hid (And.intro (HI.out.2.1.trans (hst.mono HI.out.2.1.size)) (HI.out.1.step hst))
  replace hq := hq.step hst
  clear hst HI
  have c1 := LK.cell hq 1
  simp at c1
  go_wp2_with fail
  refine (two_yes ro w1 (by omega)).mono ?_
  rintro e w2 ⟨vr, rfl, hm2⟩
  clear c1
  have lr : (twoL ro).length = 2 := rfl
  have hr2 := hm2.bytes.all0
  obtain ⟨ra, rc, rfl, -, -⟩ := hr2.form lr
  replace hq := hq.step hm2.below
  have hB2 := HB.out.1.trans (hm2.below.mono HB.out.1.size)
  have hS2 := HB.out.2.step hm2.below
  have H2 := Lib.hid (And.intro hB2 (And.intro hr2 (And.intro hS2 hq)))
  clear hm2 hB2 hr2 hS2 hq HB lr
  have hlt2 : w.heap.size < w2.heap.size := H2.out.2.2.2.lt
  have c0 := fun X => LK.cell (H2.out.2.2.2.step (aft_below w2 X)) 0
  have c2 := fun X => LK.cell (H2.out.2.2.2.step (aft_below w2 X)) 2
  have c3 := fun X => LK.cell (H2.out.2.2.2.step (aft_below w2 X)) 3
  have c4 := fun X => LK.cell (H2.out.2.2.2.step (aft_below w2 X)) 4
  simp at c0 c2 c3 c4
  have n6 : (n : Int) < 256 := by omega
  go_wp2_with fail
  refine wp_region_held_drew (S := Cls w2) (by kernel_rfl) (Cls.of (Below.refl _ _).drew) (fun hCl => ?_)
  refine wpAnyH_seg (fuel := 7) (by kernel_rfl) (fun _ d _ _ _ h => by cases d <;> exact h) hCl [0, 1, 3, 4, 5, 7, 8, 10, 11, 12, 13] _ _ _ (by kernel_rfl) (by kernel_rfl) ?_
  simp only [opsOf_cons, opsOf_nil, consOp_some, List.getElem?_toArray, List.getElem?_cons_succ, List.getElem?_cons_zero]
  repeat (first | go_big_quiet_step (fail) | quiet_step (fail))
  refine wpQuiet_nil ?_
  refine wpAnyH_inv0 [2, 6, 9, 14, 15, 16, 17] (fun | 15 => [2, 6, 9, 14] | 16 => [15] | 17 => [16] | _ => []) (gWu w2.heap.size (fourL ge) (twoL ro) (fourL ne) (fourL ta) [UInt8.ofNat n] (.slice ra 2 rc)) hCl (cls_step _) (gWu_keep _ _ _ _ _ _ _) (by kernel_rfl) (by kernel_rfl) (by kernel_rfl) (by decide) ?_ ?_
  · refine OpsI.cons _ (by simp only [List.getElem?_toArray, List.getElem?_cons_succ, List.getElem?_cons_zero]; rfl) (fun vs V hV hd K hK => ?_) ?_
    · simp only [putAll, dstOf, List.getElem?_toArray, List.getElem?_cons_succ, List.getElem?_cons_zero, Option.bind_some, Act.put, List.setIfInBounds_toArray, List.set_cons_succ, List.set_cons_zero] at hK ⊢
      go_simp
      refine (four_any _ _ (by omega)).mono ?_
      rintro e W' ⟨u, rfl, hm⟩
      exact hK _ _ hm.bytes.all0 hm.below
    refine OpsI.cons _ (by simp only [List.getElem?_toArray, List.getElem?_cons_succ, List.getElem?_cons_zero]; rfl) (fun vs V hV hd K hK => ?_) ?_
    · simp only [putAll, dstOf, List.getElem?_toArray, List.getElem?_cons_succ, List.getElem?_cons_zero, Option.bind_some, Act.put, List.setIfInBounds_toArray, List.set_cons_succ, List.set_cons_zero] at hK ⊢
      go_simp
      refine (four_any _ _ (by omega)).mono ?_
      rintro e W' ⟨u, rfl, hm⟩
      exact hK _ _ hm.bytes.all0 hm.below
    refine OpsI.cons _ (by simp only [List.getElem?_toArray, List.getElem?_cons_succ, List.getElem?_cons_zero]; rfl) (fun vs V hV hd K hK => ?_) ?_
    · simp only [putAll, dstOf, List.getElem?_toArray, List.getElem?_cons_succ, List.getElem?_cons_zero, Option.bind_some, Act.put, List.setIfInBounds_toArray, List.set_cons_succ, List.set_cons_zero] at hK ⊢
      go_simp
      refine (four_any _ _ (by omega)).mono ?_
      rintro e W' ⟨u, rfl, hm⟩
      exact hK _ _ hm.bytes.all0 hm.below
    refine OpsI.cons _ (by simp only [List.getElem?_toArray, List.getElem?_cons_succ, List.getElem?_cons_zero]; rfl) (fun vs V hV hd K hK => ?_) ?_
    · simp only [putAll, dstOf, List.getElem?_toArray, List.getElem?_cons_succ, List.getElem?_cons_zero, Option.bind_some, Act.put, List.setIfInBounds_toArray, List.set_cons_succ, List.set_cons_zero] at hK ⊢
      go_simp
      exact hK _ _ ((one_new V _ _ _ (by simp [bV]; omega)).more (Nat.zero_le _) (by simp)) ((Below.refl _ _).alloc (Nat.le_refl _) _)
    refine OpsI.cons _ (by simp only [List.getElem?_toArray, List.getElem?_cons_succ, List.getElem?_cons_zero]; rfl) (fun vs V hV hd K hK => ?_) ?_
    · simp only [putAll, dstOf, List.getElem?_toArray, List.getElem?_cons_succ, List.getElem?_cons_zero, Option.bind_some, Act.put, List.setIfInBounds_toArray, List.set_cons_succ, List.set_cons_zero] at hK ⊢
      have h2 : Bytes V 0 V.heap.size (vs 2) (fourL ge) := hd 2 (by simp)
      have h6 : Bytes V 0 V.heap.size (vs 6) (fourL ne) := hd 6 (by simp)
      have h9 : Bytes V 0 V.heap.size (vs 9) (fourL ta) := hd 9 (by simp)
      have h14 : Bytes V 0 V.heap.size (vs 14) [UInt8.ofNat n] := hd 14 (by simp)
      clear hd
      generalize vs 2 = v2 at *
      generalize vs 6 = v6 at *
      generalize vs 9 = v9 at *
      generalize vs 14 = v14 at *
      obtain ⟨a2, b2, rfl, -, -⟩ := h2.form (n := 4) rfl
      obtain ⟨a6, b6, rfl, -, -⟩ := h6.form (n := 4) rfl
      obtain ⟨a9, b9, rfl, -, -⟩ := h9.form (n := 4) rfl
      obtain ⟨a14, b14, rfl, -, -⟩ := h14.form (n := 1) rfl
      have Hh := Lib.hid (And.intro h2 (And.intro h6 (And.intro h9 h14)))
      clear h2 h6 h9 h14
      go_simp
      have hb := (Below.refl V.heap.size V).alloc (Nat.le_refl _) (.cells #[.slice a2 4 b2, .slice ra 2 rc, .slice a6 4 b6, .slice a9 4 b9, .slice a14 1 b14] 26)
      exact hK _ _ ⟨V.heap.size, _, _, _, _, rfl, World.alloc_heap_new V _, Hh.out.1.step hb, Hh.out.2.1.step hb, Hh.out.2.2.1.step hb, Hh.out.2.2.2.step hb⟩ hb
    refine OpsI.cons _ (by simp only [List.getElem?_toArray, List.getElem?_cons_succ, List.getElem?_cons_zero]; rfl) (fun vs V hV hd K hK => ?_) ?_
    · simp only [putAll, dstOf, List.getElem?_toArray, List.getElem?_cons_succ, List.getElem?_cons_zero, Option.bind_some, Act.put, List.setIfInBounds_toArray, List.set_cons_succ, List.set_cons_zero] at hK ⊢
      obtain ⟨b, v0, v2, v3, v4, e15, hh, h0, h2, h3, h4⟩ : gWu w2.heap.size (fourL ge) (twoL ro) (fourL ne) (fourL ta) [UInt8.ofNat n] (.slice ra 2 rc) 15 (vs 15) V := hd 15 (by simp)
      clear hd
      generalize vs 15 = v15 at *
      subst e15
      have hV2 := hV.below
      have hr3 := H2.out.2.1.step hV2
      have hcc := concat_own [(v0, fourL ge), (.slice ra 2 rc, twoL ro), (v2, fourL ne), (v3, fourL ta), (v4, [UInt8.ofNat n])] b 0 5 V (Array.getElem?_eq_some_iff.1 hh).1
        (fun j p hp => by
          rw [Nat.zero_add, blk_cell hh j]
          match j, hp with
          | 0, hp => cases hp; rfl
          | 1, hp => cases hp; rfl
          | 2, hp => cases hp; rfl
          | 3, hp => cases hp; rfl
          | 4, hp => cases hp; rfl)
        (fun p hp => by
          simp only [List.mem_cons, List.not_mem_nil, or_false] at hp
          rcases hp with rfl | rfl | rfl | rfl | rfl
          · exact h0
          · exact hr3
          · exact h2
          · exact h3
          · exact h4)
        (by simp) (by omega) (by simp [catL, fourL, twoL])
      have Hcc := Lib.hid hcc
      clear hcc h0 h2 h3 h4 hr3 hh hV2
      go_simp
      refine Hcc.out.mono ?_
      rintro e W' ⟨u, rfl, hm, hmb⟩
      refine hK _ _ ?_ hmb
      have hbb : OwnB w2.heap.size 5 W' u _ := own_mono hm hV.below.size
      show OwnB w2.heap.size 5 W' u _
      simpa [catL] using hbb
    refine OpsI.cons _ (by simp only [List.getElem?_toArray, List.getElem?_cons_succ, List.getElem?_cons_zero]; rfl) (fun vs V hV hd K hK => ?_) ?_
    · simp only [putAll, dstOf, List.getElem?_toArray, List.getElem?_cons_succ, List.getElem?_cons_zero, Option.bind_some, Act.put, List.setIfInBounds_toArray, List.set_cons_succ, List.set_cons_zero] at hK ⊢
      have h16 := hd 16 (by simp)
      clear hd
      go_simp
      exact hK _ _ h16 (Below.refl _ _)
    exact OpsI.nil
  · intro vs V hV hall
    have h17 : OwnB w2.heap.size 5 V (vs 17) (fourL ge ++ twoL ro ++ fourL ne ++ fourL ta ++ [UInt8.ofNat n]) := hall 17 (by simp)
    have hB3 := hV.below
    simp only [putAll, dstOf, List.getElem?_toArray, List.getElem?_cons_succ, List.getElem?_cons_zero, Option.bind_some, Act.put, List.setIfInBounds_toArray, List.set_cons_succ, List.set_cons_zero]
    clear hall c0 c2 c3 c4 hCl hV
    rw [← HF.out.1] at h17
    have HZ := Lib.hid (And.intro h17 hB3)
    clear h17 hB3
    generalize vs 17 = x17 at *
    generalize vs 16 = x16 at *
    generalize vs 15 = x15 at *
    generalize vs 14 = x14 at *
    generalize vs 9 = x9 at *
    generalize vs 6 = x6 at *
    generalize vs 2 = x2 at *
    have c4 := LK.cell (H2.out.2.2.2.step HZ.out.2) 4
    simp at c4
    go_wp2
    go_loopw [7, 43] (fun x i wr => ∃ j : Nat, j ≤ n ∧ i = .int .i64 j ∧ OwnB w2.heap.size 5 wr x (hdd ++ deadB (dl.take j)) ∧ Below w2.heap.size w2 wr) (fun _ i _ => n - (intOf i).toNat)
    case atStart => exact ⟨0, Nat.zero_le _, rfl, by simpa [deadB] using HZ.out.1, HZ.out.2⟩
    case round =>
    obtain ⟨j, hj, rfl, hown, hBr⟩ := hrel
    clear c4
    by_cases hlt : j < n
    · obtain ⟨b, off, rfl⟩ : ∃ b off, a = some ⟨b, off, none⟩ := by
        obtain ⟨b, off, c', e1, -⟩ := H2.out.2.2.1.at_ (by rw [HN.out]; omega)
        injection e1 with ea _ _
        exact ⟨b, off, ea⟩
      have hcell := (H2.out.2.2.1.step hBr).cellI j (by rw [HN.out]; omega)
      have hS : deadB (dl.take (j + 1)) = deadB (dl.take j) ++ twoL (dl.getD j 0).toNat := by
        have hjl : j < dl.length := by rw [HN.out]; omega
        rw [List.take_succ_eq_append_getElem hjl, deadB_app, List.getD_eq_getElem?_getD, List.getElem?_eq_getElem hjl]
        simp [deadB]
      have hmd := HF.out.2.2.2 (dl.getD j 0) (by
        have hjl : j < dl.length := by rw [HN.out]; omega
        rw [List.getD_eq_getElem?_getD, List.getElem?_eq_getElem hjl]
        exact List.getElem_mem hjl)
      have hlen : (hdd ++ deadB (dl.take j)).length ≤ 200 := by
        rw [List.length_append, deadB_len, List.length_take, HF.out.2.1]
        omega
      obtain ⟨q, hq⟩ : ∃ q : Nat, dl.getD j 0 = q := ⟨(dl.getD j 0).toNat, by omega⟩
      rw [hq] at hcell hS hmd
      rw [Int.toNat_natCast] at hS
      have hq2 : q < 256 := by omega
      have HS := Lib.hid (And.intro hS (And.intro hown (And.intro hBr hlen)))
      clear hS hown hBr hlen hmd hq
      generalize deadB (dl.take j) = dj at *
      go_wp2_with fail
      refine (two_yes q wr (by omega)).mono ?_
      rintro e w3 ⟨v3, rfl, hm3⟩
      clear hcell
      have hown2 := own_below HS.out.2.1 hm3.below
      have hB3 := HS.out.2.2.1.trans (hm3.below.mono HS.out.2.2.1.size)
      have HO := Lib.hid (And.intro hown2 (And.intro hB3 hm3.bytes.all0))
      clear hown2 hB3 hm3
      go_wp2_with (at_builtin; refine wpList_appB rfl _ _ 26 rfl w2.heap.size 5 Try.underlying26 info_u8 _ (hdd ++ dj) rfl HO.out.1 0 w3.heap.size v3 (twoL q) rfl HO.out.2.2 (by have := HS.out.2.2.2; rw [twoL_len]; omega) HO.out.2.1.size ?_; intro x5 w5 hown5 hB5)
      rw [List.append_assoc, ← HS.out.1] at hown5
      have HE := Lib.hid (And.intro hown5 (HO.out.2.1.trans hB5))
      clear hown5 hB5
      go_wp2
      go_roundw
      case rel => exact ⟨j + 1, by omega, by go_num, HE.out.1, HE.out.2⟩
      case measure => simp [intOf]; omega
    · obtain rfl : j = n := by omega
      have htk : dl.take j = dl := by rw [← HN.out, List.take_length]
      rw [htk] at hown
      have hB4 := H2.out.1.trans (hBr.mono H2.out.1.size)
      have ks := seal_yes _ (hdd ++ deadB dl) wr hown.bytes.all0 HF.out.2.2.1
      have KS := Lib.hid (And.intro ks hB4)
      clear ks hB4 hown hBr htk
      go_wp2_with fail
      refine KS.out.1.mono ?_
      rintro e w6 ⟨x6, rfl, hm6⟩
      have hB6 := KS.out.2.trans (hm6.below.mono KS.out.2.size)
      have HM := Lib.hid (And.intro hm6 hB6)
      clear hm6 hB6
      go_wp2
      go_ret2
      exact ⟨_, rfl, HM.out.1.bytes.more KS.out.2.size (Nat.le_refl _), HM.out.1.thawed, HM.out.2⟩
set_option maxRecDepth 100000 in
set_option maxHeartbeats 1000000 in
/-- ring.Write. -/
theorem uwrite_any (s : SupL) (u : Value) (w : World) (h_s : SupV w 0 w.heap.size u s) :
    Calls Try.prog 15 #[.agg #[wV s.gen, .int .i64 s.root, wV s.next, wV s.table, u]] w fun e w' => ∃ x, e = .returned (.tuple #[x, .int .i64 (errUw s)]) ∧ MadeB w w' x (blockU s) := by
  cases hm : mayU s with
  | true =>
    rw [show errUw s = 0 by unfold errUw; rw [hm]; rfl]
    exact uwrite_yes s u w h_s hm
  | false =>
  have he : errUw s = 8 := by unfold errUw; rw [hm]; rfl
  rw [he, show blockU s = [] by unfold blockU; rw [hm]; rfl]
  have hI := h_s.2
  have hck := fun V hh => ucheck_any s u V ⟨h_s.1, hh⟩
  rw [he] at hck
  clear he hm
  generalize wV s.gen = vg at *
  generalize wV s.next = vn at *
  generalize wV s.table = vt at *
  obtain ⟨a, c, rfl, -, -, -, -⟩ := id hI
  generalize s.dead.length = n at *
  have hst := (Below.refl w.heap.size w).alloc (Nat.le_refl _) (.cells #[vg, .int .i64 s.root, vn, vt, .slice a n c] 25)
  have hq := LK.new w (.cells #[vg, .int .i64 s.root, vn, vt, .slice a n c] 25)
  replace hI := hI.step hst
  have HI := Lib.hid (And.intro hI (And.intro hst hck))
  clear hI hst hck h_s
  go_enter Try.func15, Try.ntmps15
  go_upto_region 1 with (fail)
  obtain ⟨V, hV⟩ : ∃ V, (w.alloc (.cells #[vg, .int .i64 s.root, vn, vt, .slice a n c] 25)) = V := ⟨_, rfl⟩
  rw [hV] at hq HI ⊢
  clear hV
  have c0 := LK.cell hq 0
  have c1 := LK.cell hq 1
  have c2 := LK.cell hq 2
  have c3 := LK.cell hq 3
  have c4 := LK.cell hq 4
  simp at c0 c1 c2 c3 c4
  go_wp2_with fail
  refine (HI.out.2.2 _ HI.out.1).mono ?_
  rintro e w1 ⟨rfl, hst⟩
  clear c0 c1 c2 c3 c4
  have HB := Lib.hid (HI.out.2.1.trans (hst.mono HI.out.2.1.size))
  clear hst HI hq
  go_wp2
  go_ret2
  exact ⟨_, rfl, MadeB.nil_ HB.out⟩
end Go.Proofs.Ytcibihakjcenaaa

namespace Go.Proofs.Ytcibihakjcenaaa
open Go.RowKit
theorem bytes_zero (w : World) (t : TypeId) :
    Bytes (w.alloc (.cells #[.int .u8 0] t)) w.heap.size (w.heap.size + 1) (.slice (some ⟨w.heap.size, 0, none⟩) 1 1) [0] :=
  Bytes.new w t [0] (by simp [maxLen]) (0, 0)
def lenOf : Value → Nat
  | .slice _ n _ => n
  | _ => 0

set_option maxHeartbeats 1000000 in
theorem rsealed_any (v : Value) (l : List UInt8) (w : World) (hI : Bytes w 0 w.heap.size v l) (hl : l.length ≤ 124) : Calls Try.prog 105 #[v] w fun e w' => ∃ u, e = .returned u ∧ MadeB w w' u (sealL l) := by
  obtain ⟨a, c, rfl, g1, g2, g3, _⟩ := id hI
  unfold maxLen at g2
  go_enter Try.func105, Try.ntmps105
  go_wp2_with (at_builtin; refine wpList_appB rfl _ _ 26 rfl w.heap.size 5 Try.underlying26 info_u8 _ [] rfl (OwnB.nil_ _ _ _) _ _ _ l rfl hI (by simp; omega) (Nat.le_refl _) ?_; intro v1 w1 hown1 hB1)
  rw [List.nil_append] at hown1
  go_loopw [3] (fun v wr => ∃ k : Nat, l.length + k ≤ 124 ∧ OwnB w.heap.size 5 wr v (l ++ List.replicate k 0) ∧ Below w.heap.size w wr) (fun v _ => 124 - lenOf v)
  case atStart => exact ⟨0, by omega, by simpa using hown1, hB1⟩
  case round =>
    obtain ⟨k, hk, hown, hB⟩ := hrel
    have hlen : (l ++ List.replicate k (0 : UInt8)).length = l.length + k := by simp
    obtain ⟨b1, c1, rfl, q1, q2, _, _⟩ := hown.bytes
    unfold maxLen at q2
    have hs : l ++ List.replicate (k + 1) (0 : UInt8) = (l ++ List.replicate k 0) ++ [0] := by rw [List.replicate_succ', ← List.append_assoc]
    have HS := Lib.hid hs
    by_cases hlt : l.length + k < 124
    · clear hs
      generalize l ++ List.replicate k (0 : UInt8) = r at *
      have hr : (r.length : Int) < 124 := by omega
      have HL := Lib.hid hlen
      clear hlen
      go_wp2_with (at_builtin; refine wpList_appB rfl _ _ 26 rfl w.heap.size 5 Try.underlying26 info_u8 _ r rfl (hown.alloc _) wr.heap.size (wr.heap.size + 1) _ [0] rfl (bytes_zero wr _) (by have := HL.out; simp; omega) (by have := hB.size; simp; omega) ?_; intro v' w1 hown' hB1)
      go_roundw
      case rel => exact ⟨k + 1, by omega, by rw [HS.out]; exact hown', (hB.alloc hB.size _).trans hB1⟩
      case measure => 
        obtain ⟨b2, c2, rfl, _, _, _, _⟩ := hown'.bytes
        have := HL.out
        simp [lenOf]; omega
    · have hkk : k = 124 - l.length := by omega
      have hp : l ++ List.replicate k (0 : UInt8) = padL l := by rw [hkk]; rfl
      rw [hp] at hown hlen q1 ⊢
      have hof := rof_any _ _ _ (hown.bytes.all0)
      have hx := (crc (padL l)).isLt
      have hfin : fourL (crc (padL l)).toNat ++ padL l = sealL l := rfl
      have HX := Lib.hid (And.intro hfin (And.intro hof hlen))
      clear hfin hof hs hp hown1
      unfold u32v at HX
      generalize crc (padL l) = C at *
      generalize C.toNat = cn at *
      have hr : ¬ ((padL l).length : Int) < 124 := by omega
      have HL := Lib.hid hlen
      generalize padL l = pl at *
      clear hlen hkk
      go_wp2_with fail
      refine HX.out.2.1.mono ?_
      rintro e w2 ⟨rfl, hb2⟩
      go_wp2_with fail
      refine (rfour_own _ _ (by omega)).mono ?_
      rintro e w3 ⟨v4, rfl, hown4, hb3⟩
      obtain ⟨b4, c4, rfl, _, _, _, _⟩ := id hown4.bytes
      have hpl := ((hown.bytes.all0).step hb2).step hb3
      have h4 : (fourL cn).length = 4 := rfl
      have HB := Lib.hid (And.intro (below_step (below_step hB hB.size hb2) (below_step hB hB.size hb2).size hb3) (below_step hB hB.size hb2).size)
      rw [h4] at *
      go_wp2_with (at_builtin; refine wpList_appB rfl _ _ 26 rfl w2.heap.size 5 Try.underlying26 info_u8 _ (fourL cn) rfl hown4 _ _ _ pl rfl hpl (by have := HL.out; simp [fourL]; omega) hb3.size ?_; intro u5 w5 hown5 hB5)
      go_ret
      rw [HX.out.1] at hown5
      have hm := hown5.made (hb3.trans hB5)
      exact ⟨_, rfl, (hown5.bytes.more HB.out.2 (Nat.le_refl _)), hm.thawed, HB.out.1.trans (hB5.mono HB.out.2)⟩

set_option maxHeartbeats 1000000 in
theorem ropen_any (v : Value) (l : List UInt8) (w : World) (hI : Bytes w 0 w.heap.size v l) :
    Calls Try.prog 63 #[v] w fun e w' => ∃ u, e = .returned (.tuple #[u, .int .i64 (openE l)]) ∧ MadeB w w' u (openL l) := by
  by_cases hl : l.length = 128
  · obtain ⟨b, off, c, rfl, g0, g1, g2, g3, g4⟩ := hI.at_ (by omega)
    clear g4
    rw [hl] at g2 hI ⊢
    unfold maxLen at g3
    have hcut := hI.cut 4 124 (c - 4) (by omega) (by omega) (by unfold maxLen; omega)
    rw [List.take_of_length_le (by simp; omega)] at hcut
    have hdl : (l.drop 4).length = 124 := by simp; omega
    have hget := rgetFour_any _ l 0 w hI
    have hE0 : getE l 0 4 = 0 := if_pos (by simp; omega)
    have hgl := getN_lt l 0 4
    rw [hE0] at hget
    have hof := rof_any _ _ _ hcut
    have hrel : opensL l = true ↔ (getN l 0 4 : Int) = ((crc (l.drop 4)).toNat : Int) := by simp only [opensL, beq_iff_eq]; omega
    unfold openL openE
    rw [if_pos hl]
    have hlt := (crc (l.drop 4)).isLt
    clear hE0 hI
    unfold u32v at hof
    generalize crc (l.drop 4) = C at *
    generalize C.toNat = cn at *
    generalize getN l 0 4 = gn at *
    generalize l.drop 4 = d at *
    have HH := Lib.hid (And.intro hcut hdl)
    clear hcut hdl
    by_cases ho : opensL l = true
    · rw [hrel] at ho
      rw [if_pos (hrel.2 ho), if_pos rfl]
      obtain rfl : gn = cn := by omega
      clear hrel ho
      go_enter Try.func63, Try.ntmps63
      go_wp2_with fail
      refine hget.mono ?_
      rintro e w1 ⟨rfl, rfl⟩
      go_wp2_with fail
      refine hof.mono ?_
      rintro e w2 ⟨rfl, hb2⟩
      go_wp2_with (at_builtin; refine wpList_appB rfl _ _ 26 rfl w.heap.size 5 Try.underlying26 info_u8 _ [] rfl (OwnB.nil_ _ _ _) _ _ _ d rfl (HH.out.1.step hb2) (by have := HH.out.2; simp; omega) hb2.size ?_; intro u5 w5 hown5 hB5)
      go_ret2
      exact ⟨_, rfl, hown5.made (hb2.trans hB5)⟩
    · have hne : ¬ ((gn : Int) = (cn : Int)) := fun h => ho (hrel.2 h)
      rw [if_neg ho, if_neg (by decide)]
      clear hrel ho
      go_enter Try.func63, Try.ntmps63
      go_wp2_with fail
      refine hget.mono ?_
      rintro e w1 ⟨rfl, rfl⟩
      go_wp2_with fail
      refine hof.mono ?_
      rintro e w2 ⟨rfl, hb2⟩
      go_wp2
      go_ret2
      exact ⟨_, rfl, MadeB.nil_ hb2⟩
  · have e1 : openE l = 3 := by simp [openE, hl]
    have e2 : openL l = [] := by simp [openL, e1]
    rw [e1, e2]
    obtain ⟨a, c, rfl, g1, g2, _, _⟩ := id hI
    clear hI e1 e2
    go_enter Try.func63, Try.ntmps63
    go_wp2
    go_ret2
    exact ⟨_, rfl, MadeB.nil_ (Below.refl _ _)⟩
end Go.Proofs.Ytcibihakjcenaaa

namespace Go.Proofs.Ytcibihakjcenaaa
open Go.RowKit

set_option maxRecDepth 100000 in
set_option maxHeartbeats 2000000 in
/-- The reference's Block. -/
theorem rublock_any (s : SupL) (u : Value) (w : World) (h_s : SupV w 0 w.heap.size u s) (hm : mayU s = true) :
    Calls Try.prog 58 #[.agg #[wV s.gen, .int .i64 s.root, wV s.next, wV s.table, u]] w fun e w' => ∃ x, e = .returned x ∧ MadeB w w' x (blockU s) := by
  have hI := h_s.2
  obtain ⟨md, mr, mn⟩ := mayU_iff.1 hm
  have hbl := bytesU_len hm
  have hfin : blockU s = sealL (headU s ++ deadB s.dead) := by unfold blockU bytesU; rw [hm]; rfl
  rw [hfin]
  clear hfin h_s hm
  unfold bytesU at hbl
  obtain ⟨g, ro, nx, tb, dl⟩ := s
  have hhd : headU ⟨g, ro, nx, tb, dl⟩ = fourL g.toNat ++ twoL ro.toNat ++ fourL nx.toNat ++ fourL tb.toNat ++ [UInt8.ofNat dl.length] := rfl
  have hhl := headU_len ⟨g, ro, nx, tb, dl⟩
  generalize headU ⟨g, ro, nx, tb, dl⟩ = hdd at *
  simp only at *
  obtain ⟨ro, rfl⟩ : ∃ q : Nat, ro = q := ⟨ro.toNat, by omega⟩
  rw [Int.toNat_natCast] at hhd
  have hg := g.toNat_lt
  have hn := nx.toNat_lt
  have ht := tb.toNat_lt
  simp only [wV] at *
  generalize g.toNat = ge at *
  generalize nx.toNat = ne at *
  generalize tb.toNat = ta at *
  obtain ⟨n, hn0⟩ : ∃ n, dl.length = n := ⟨_, rfl⟩
  have HN := Lib.hid hn0
  obtain ⟨a, c, rfl, g1, g2, -, -⟩ := id hI
  unfold maxLen at g2
  rw [hn0] at mn g1 hhd ⊢
  rw [hn0] at hI
  have hst := (Below.refl w.heap.size w).alloc (Nat.le_refl _) (.cells #[.int .u32 (ge : Nat), .int .i64 (ro : Nat), .int .u32 (ne : Nat), .int .u32 (ta : Nat), .slice a n c] 25)
  have hq := LK.new w (.cells #[.int .u32 (ge : Nat), .int .i64 (ro : Nat), .int .u32 (ne : Nat), .int .u32 (ta : Nat), .slice a n c] 25)
  replace hI := hI.step hst
  have HI := Lib.hid (And.intro hI hst)
  have HF := Lib.hid (And.intro hhd (And.intro hhl (And.intro hbl md)))
  clear hI hst hhd hhl hbl md hn0
  have n6 : (n : Int) < 256 := by omega
  go_enter Try.func58, Try.ntmps58
  go_upto_region 1 with (fail)
  obtain ⟨V, hV⟩ : ∃ V, (w.alloc (.cells #[.int .u32 (ge : Nat), .int .i64 (ro : Nat), .int .u32 (ne : Nat), .int .u32 (ta : Nat), .slice a n c] 25)) = V := ⟨_, rfl⟩
  rw [hV] at hq HI ⊢
  clear hV
  have HQ := Lib.hid hq
  have c0 := LK.cell hq 0
  simp at c0
  clear hq
  go_wp2_with fail
  refine (rfour_own ge V (by omega)).mono ?_
  rintro e w0 ⟨v0, rfl, own0, hB0⟩
  clear c0
  have c1 := LK.cell (HQ.out.step hB0) 1
  simp at c1
  go_wp2_with fail
  have kc := bytes_own ro 2 w0 (by omega) (by omega)
  rw [bytesL_two] at kc
  refine kc.mono ?_
  clear kc
  rintro e w1 ⟨v1, rfl, hown, hb⟩
  clear c1
  have own1 := own_below own0 hb
  have hB1 := hB0.trans (hb.mono hB0.size)
  have src := hown.bytes.all0
  clear own0 hown hb hB0
  obtain ⟨va1, vc1, rfl, -, -⟩ := src.form (n := 2) rfl
  go_wp2_with (at_builtin; refine wpList_appB rfl _ _ 26 rfl V.heap.size 5 Try.underlying26 info_u8 _ (fourL ge) rfl own1 0 w1.heap.size _ (twoL ro) rfl src (by simp [fourL, twoL]) hB1.size ?_; intro v2 w2 own2 hb; have hB2 := hB1.trans hb; clear own1 src hb hB1; have c2 := LK.cell (HQ.out.step hB2) 2; simp at c2)
  refine (rfour_own ne w2 (by omega)).mono ?_
  rintro e w3 ⟨v3, rfl, hown, hb⟩
  clear c2
  have own3 := own_below own2 hb
  have hB3 := hB2.trans (hb.mono hB2.size)
  have src := hown.bytes.all0
  clear own2 hown hb hB2
  obtain ⟨va3, vc3, rfl, -, -⟩ := src.form (n := 4) rfl
  go_wp2_with (at_builtin; refine wpList_appB rfl _ _ 26 rfl V.heap.size 5 Try.underlying26 info_u8 _ (fourL ge ++ twoL ro) rfl own3 0 w3.heap.size _ (fourL ne) rfl src (by simp [fourL, twoL]) hB3.size ?_; intro v4 w4 own4 hb; have hB4 := hB3.trans hb; clear own3 src hb hB3; have c3 := LK.cell (HQ.out.step hB4) 3; simp at c3)
  refine (rfour_own ta w4 (by omega)).mono ?_
  rintro e w5 ⟨v5, rfl, hown, hb⟩
  clear c3
  have own5 := own_below own4 hb
  have hB5 := hB4.trans (hb.mono hB4.size)
  have src := hown.bytes.all0
  clear own4 hown hb hB4
  obtain ⟨va5, vc5, rfl, -, -⟩ := src.form (n := 4) rfl
  go_upto_region 5 with (at_builtin; refine wpList_appB rfl _ _ 26 rfl V.heap.size 5 Try.underlying26 info_u8 _ (fourL ge ++ twoL ro ++ fourL ne) rfl own5 0 w5.heap.size _ (fourL ta) rfl src (by simp [fourL, twoL]) hB5.size ?_; intro v6 w6 own6 hb; have hB6 := hB5.trans hb; clear own5 src hb hB5)
  have c4 := LK.cell (HQ.out.step hB6) 4
  simp at c4
  have hlen : Value.int .u8 ((n : Int) % 256) = bV (UInt8.ofNat n) := by simp [bV]
  have Hlen := Lib.hid hlen
  clear hlen
  go_upto_region 6 with (at_builtin; refine wpList_appB rfl _ _ 26 rfl V.heap.size 5 Try.underlying26 info_u8 _ (fourL ge ++ twoL ro ++ fourL ne ++ fourL ta) rfl (own6.alloc _) w6.heap.size (w6.heap.size + 1) _ [UInt8.ofNat n] rfl (one_new w6 _ _ _ (by first | exact Hlen.out | (simp [bV]; omega))) (by simp [fourL, twoL]) (by have := hB6.size; simp; omega) ?_; intro v7 w7 own7 hb; have hB7 := (hB6.alloc hB6.size _).trans hb; clear own6 hb hB6)
  clear c4
  rw [← HF.out.1] at own7
  have HZ := Lib.hid (And.intro own7 hB7)
  clear own7 hB7 Hlen
  have c4 := fun W (hb : Below V.heap.size V W) => LK.cell (HQ.out.step hb) 4
  simp at c4
  have C4 := Lib.hid c4
  clear c4
  go_wp2
  go_loopw [3, 4] (fun x i wr => ∃ j : Nat, j ≤ n ∧ i = .int .i64 j ∧ OwnB V.heap.size 5 wr x (hdd ++ deadB (dl.take j)) ∧ Below V.heap.size V wr) (fun _ i _ => n - (intOf i).toNat)
  case atStart => exact ⟨0, Nat.zero_le _, rfl, by simpa [deadB] using HZ.out.1, HZ.out.2⟩
  case round =>
  obtain ⟨j, hj, rfl, hown, hBr⟩ := hrel
  have c4 := C4.out wr hBr
  by_cases hlt : j < n
  · obtain ⟨b, off, rfl⟩ : ∃ b off, a = some ⟨b, off, none⟩ := by
      obtain ⟨b, off, c', e1, -⟩ := HI.out.1.at_ (by rw [HN.out]; omega)
      injection e1 with ea _ _
      exact ⟨b, off, ea⟩
    have hcell := (HI.out.1.step hBr).cellI j (by rw [HN.out]; omega)
    have hS : deadB (dl.take (j + 1)) = deadB (dl.take j) ++ twoL (dl.getD j 0).toNat := by
      have hjl : j < dl.length := by rw [HN.out]; omega
      rw [List.take_succ_eq_append_getElem hjl, deadB_app, List.getD_eq_getElem?_getD, List.getElem?_eq_getElem hjl]
      simp [deadB]
    have hmd := HF.out.2.2.2 (dl.getD j 0) (by
      have hjl : j < dl.length := by rw [HN.out]; omega
      rw [List.getD_eq_getElem?_getD, List.getElem?_eq_getElem hjl]
      exact List.getElem_mem hjl)
    have hlen : (hdd ++ deadB (dl.take j)).length ≤ 200 := by
      rw [List.length_append, deadB_len, List.length_take, HF.out.2.1]
      omega
    obtain ⟨q, hq⟩ : ∃ q : Nat, dl.getD j 0 = q := ⟨(dl.getD j 0).toNat, by omega⟩
    rw [hq] at hcell hS hmd
    rw [Int.toNat_natCast] at hS
    have hq2 : q < 256 := by omega
    have HS := Lib.hid (And.intro hS (And.intro hown (And.intro hBr hlen)))
    clear hS hown hBr hlen hmd hq
    generalize deadB (dl.take j) = dj at *
    go_wp2_with fail
    have kc := bytes_own q 2 wr (by omega) (by omega)
    rw [bytesL_two] at kc
    refine kc.mono ?_
    clear kc
    rintro e w3 ⟨v3, rfl, hm3, hb3⟩
    clear hcell c4
    have hown2 := own_below HS.out.2.1 hb3
    have hB3 := HS.out.2.2.1.trans (hb3.mono HS.out.2.2.1.size)
    have HO := Lib.hid (And.intro hown2 (And.intro hB3 hm3.bytes.all0))
    clear hown2 hB3 hm3 hb3
    obtain ⟨va3, vc3, rfl, -, -⟩ := HO.out.2.2.form (n := 2) rfl
    go_wp2_with (at_builtin; refine wpList_appB rfl _ _ 26 rfl V.heap.size 5 Try.underlying26 info_u8 _ (hdd ++ dj) rfl HO.out.1 0 w3.heap.size _ (twoL q) rfl HO.out.2.2 (by have := HS.out.2.2.2; rw [twoL_len]; omega) HO.out.2.1.size ?_; intro x5 w5 hown5 hB5)
    rw [List.append_assoc, ← HS.out.1] at hown5
    have HE := Lib.hid (And.intro hown5 (HO.out.2.1.trans hB5))
    clear hown5 hB5
    go_wp2
    go_roundw
    case rel => exact ⟨j + 1, by omega, by go_num, HE.out.1, HE.out.2⟩
    case measure => simp [intOf]; omega
  · obtain rfl : j = n := by omega
    have htk : dl.take j = dl := by rw [← HN.out, List.take_length]
    rw [htk] at hown
    have hB4 := HI.out.2.trans (hBr.mono HI.out.2.size)
    have ks := rsealed_any _ (hdd ++ deadB dl) wr hown.bytes.all0 HF.out.2.2.1
    have KS := Lib.hid (And.intro ks hB4)
    clear ks hB4 hown hBr htk
    go_wp2_with fail
    refine KS.out.1.mono ?_
    rintro e w6 ⟨x6, rfl, hm6⟩
    have hB6 := KS.out.2.trans (hm6.below.mono KS.out.2.size)
    have HM := Lib.hid (And.intro hm6 hB6)
    clear hm6 hB6
    go_wp2
    go_ret
    exact ⟨_, rfl, HM.out.1.bytes.more KS.out.2.size (Nat.le_refl _), HM.out.1.thawed, HM.out.2⟩
end Go.Proofs.Ytcibihakjcenaaa

