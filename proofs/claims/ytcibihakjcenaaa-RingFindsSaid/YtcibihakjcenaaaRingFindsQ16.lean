/- RingFinds: the words and contracts, part 16. -/
import Derived.Test.YtcibihakjcenaaaRingFindsQ1
import Derived.Test.YtcibihakjcenaaaRingFindsQ2
import Derived.Test.YtcibihakjcenaaaRingFindsQ3
import Derived.Test.YtcibihakjcenaaaRingFindsQ4
import Derived.Test.YtcibihakjcenaaaRingFindsQ5
import Derived.Test.YtcibihakjcenaaaRingFindsQ6
import Derived.Test.YtcibihakjcenaaaRingFindsQ7
import Derived.Test.YtcibihakjcenaaaRingFindsQ8
import Derived.Test.YtcibihakjcenaaaRingFindsQ9
import Derived.Test.YtcibihakjcenaaaRingFindsQ10
import Derived.Test.YtcibihakjcenaaaRingFindsQ11
import Derived.Test.YtcibihakjcenaaaRingFindsQ12
import Derived.Test.YtcibihakjcenaaaRingFindsQ15
import Derived.WalkKit
import Derived.WalkLawsBesides
import Derived.WalkSpells
import Derived.Lib.Hide
import Derived.Laws.Rows
import Derived.Laws.AppendOwnNone
import Derived.Maps.AppendAt
import Derived.ProofKit
import Derived.Deep.Slices
import Derived.WideShapes
import Derived.RangeFuncNested
import Derived.RangeFuncBound
import Derived.RangeFuncCalls
import Derived.RangeFuncLeaves
import Derived.RangeFuncBox
import Derived.Shelf.Abstract
import Derived.Shelf.RegionOpen
import Derived.OwnWalkIn
import Derived.TacticsInMore
import Derived.LoopNIn
import Derived.LoopIn
import Derived.Lib.AppendZerosOnto
import Derived.Lib.SliceRun
import Derived.Lib.Walk
import Derived.Deep.LoopGhost
import Derived.Laws.CopyOwn
import Derived.Laws.CopyRow
import Derived.OrdersHeld
import Derived.Deep.QuietTactic
import Derived.BigQuiet
import Derived.StillTailTactics
import Derived.OpenShut
import Derived.Deep.DeepCutAuto
import Derived.Deep.RegionHeld
import Derived.Laws.MakeOwn
import Derived.KernelRfl
import Derived.BigFrameIn
import Derived.ShutString
import Derived.ChangeOld
import Derived.Below
namespace Go.Proofs.Ytcibihakjcenaaa
open Go.RowKit

theorem dead_some {lo : List UInt8} (hl : lo.length = 124) : ∀ k, k ≤ 40 → ∃ l, deadR lo k = some l
  | 0, _ => ⟨[], rfl⟩
  | k + 1, h => by
    obtain ⟨l, hl2⟩ := dead_some hl k (by omega)
    rw [deadR, hl2]
    dsimp only
    rw [if_pos]
    · exact ⟨_, rfl⟩
    · unfold getE
      rw [if_pos ⟨by omega, by omega⟩]
theorem dead_long {lo : List UInt8} {g n t : UInt32} {r : Int} (h : 40 < (lo.getD 14 0).toNat) : ∀ d, deadAll lo = some d → mayU ⟨g, r, n, t, d⟩ = false := fun d hd => by
  have := deadR_len hd
  rw [Bool.eq_false_iff]
  intro e
  have := (mayU_iff.1 e).2.2
  simp only at this
  omega

set_option maxRecDepth 100000 in
set_option maxHeartbeats 4000000 in
/-- The reference's Read. -/
theorem ruread_any (v : Value) (l : List UInt8) (w : World) (hv : Bytes w 0 w.heap.size v l) :
    Calls Try.prog 18 #[v] w fun e w' => ∃ u, e = .returned (.tuple #[.agg #[wV (readU l).gen, .int .i64 (readU l).root, wV (readU l).next, wV (readU l).table, u], .int .i64 (errUr l)]) ∧ SupV w' 0 w'.heap.size u (readU l) ∧ Below w.heap.size w w' := by
  have k1 := fun V hh => ropen_any v l V hh
  have hbad : errUr l ≠ 0 → readU l = noU := fun h => by unfold readU; rw [if_neg h]
  have hst := (Below.refl w.heap.size w).alloc (Nat.le_refl _) (.cells #[.int .u32 0, .int .i64 0, .int .u32 0, .int .u32 0, .slice none 0 0] 25)
  have qr := LK.new w (.cells #[.int .u32 0, .int .i64 0, .int .u32 0, .int .u32 0, .slice none 0 0] 25)
  have hB : LW w _ := hst
  have hV0 := (LB.of hv (Nat.le_refl _)).step hst
  have sz_V : w.heap.size < (w.alloc (.cells #[.int .u32 0, .int .i64 0, .int .u32 0, .int .u32 0, .slice none 0 0] 25)).heap.size := by simp
  obtain ⟨av, cv, rfl, g1, g2⟩ := hv.form rfl
  obtain ⟨V, hV⟩ : ∃ V, w.alloc (.cells #[.int .u32 0, .int .i64 0, .int .u32 0, .int .u32 0, .slice none 0 0] 25) = V := ⟨_, rfl⟩
  rw [hV] at hB hV0 qr sz_V
  have hen : openE l = 0 → errUr l = (if okU l then 0 else 8) := fun h => by unfold errUr; rw [if_pos h]
  have hen2 : openE l ≠ 0 → errUr l = openE l := fun h => by unfold errUr; rw [if_neg h]
  have hol : openE l = 0 → openL l = l.drop 4 ∧ l.length = 128 := fun h => by
    refine ⟨by unfold openL; rw [if_pos h], ?_⟩
    unfold openE at h
    by_cases hl : l.length = 128
    · exact hl
    · rw [if_neg hl] at h; cases h
  have hrd : errUr l = 0 → readU l = rawU (openL l) ((deadAll (openL l)).getD []) := fun h => by unfold readU; rw [if_pos h]
  have hok1 : deadAll (openL l) = none → okU l = false := fun h => by unfold okU; rw [h]
  have hok2 : ∀ d, deadAll (openL l) = some d → okU l = (mayU (rawU (openL l) d) && decide (blockU (rawU (openL l) d) = l)) := fun d h => by unfold okU; rw [h, Bool.eq_iff_iff]; simp
  have hra : deadAll (openL l) = deadR (openL l) ((openL l).getD 14 0).toNat := rfl
  generalize errUr l = en at *
  generalize readU l = rn at *
  generalize okU l = okb at *
  have hds := fun (h : (openL l).length = 124) => dead_some h
  have hdl := fun (h : 40 < ((openL l).getD 14 0).toNat) d (hd : deadAll (openL l) = some d) => dead_long (g := UInt32.ofNat (getN (openL l) 0 4)) (r := (getN (openL l) 4 2 : Int)) (n := UInt32.ofNat (getN (openL l) 6 4)) (t := UInt32.ofNat (getN (openL l) 10 4)) h d hd
  generalize deadAll (openL l) = da at *
  generalize openE l = eo at *
  generalize openL l = lo at *
  have HE := Lib.hid (And.intro hbad (And.intro hen (And.intro hen2 (And.intro hol (And.intro hrd (And.intro hok1 (And.intro hok2 (And.intro hra (And.intro hds hdl)))))))))
  have K1 := Lib.hid k1
  clear hbad hen hen2 hol hrd hok1 hok2 hra k1 hst hv hds hdl
  have HQ := Lib.hid (And.intro qr (And.intro hV0 hB))
  clear qr hV0 hB
  go_enter Try.func18, Try.ntmps18
  go_upto_region 1 with (fail)
  clear hV
  go_wp2_with fail
  refine (K1.out _ HQ.out.2.1.v).mono ?_
  rintro e w1 ⟨ub, rfl, hm⟩
  obtain ⟨qr, hV0, hB⟩ := HQ.out
  clear HQ
  have hO := (LM.of hm).b
  have hst := hm.below
  clear hm
  have sz_w1 : V.heap.size ≤ w1.heap.size := hst.size
  replace qr := qr.step hst
  replace hV0 := hV0.step hst
  replace hB := hB.step hst
  clear hst
  have HQ := Lib.hid (And.intro qr (And.intro hV0 (And.intro hO hB)))
  clear qr hV0 hO hB
  by_cases he : eo = 0
  case neg =>
    have hee := HE.out.2.2.1 he
    have hrn := HE.out.1 (by rw [hee]; exact he)
    subst hee
    subst hrn
    have i1 : (en != 0) = true := by simp [he]
    have c_qr0 := LK.cell HQ.out.1 0
    have c_qr1 := LK.cell HQ.out.1 1
    have c_qr2 := LK.cell HQ.out.1 2
    have c_qr3 := LK.cell HQ.out.1 3
    have c_qr4 := LK.cell HQ.out.1 4
    have z_qr0 := LK.frozen HQ.out.1 0
    have z_qr1 := LK.frozen HQ.out.1 1
    have z_qr2 := LK.frozen HQ.out.1 2
    have z_qr3 := LK.frozen HQ.out.1 3
    have z_qr4 := LK.frozen HQ.out.1 4
    simp at c_qr0 c_qr1 c_qr2 c_qr3 c_qr4
    have hBf := HQ.out.2.2.2
    obtain ⟨au, cu2, rfl, -, -⟩ := (HQ.out.2.2.1.v).form rfl
    go_wp2
    refine bodyPost_ret (v := .tuple #[.agg #[.int .u32 0, .int .i64 0, .int .u32 0, .int .u32 0, .slice none 0 0], .int .i64 en]) (by simp [results, Try.results18, go_sem, c_qr0, c_qr1, c_qr2, c_qr3, c_qr4]) rfl ⟨_, rfl, ?_⟩
    exact ⟨⟨by decide, Sl.nil_ _ _ _⟩, below_five hBf _ _ _ _ _⟩
  subst he
  obtain ⟨hlo, hl128⟩ := HE.out.2.2.2.1 rfl
  have hlol : lo.length = 124 := by rw [hlo]; simp; omega
  have hen := HE.out.2.1 rfl
  obtain ⟨bb, bo, cb, rfl, -, zb, zc1, zc2, hcell⟩ := HQ.out.2.2.1.v.at_n hlol (by omega)
  have e14 : lo[14]? = some (lo.getD 14 0) := by simp [hlol]
  have hdl := HE.out.2.2.2.2.2.2.2.2.2
  have hds := HE.out.2.2.2.2.2.2.2.2.1 hlol
  obtain ⟨x, hx⟩ : ∃ x, lo.getD 14 0 = x := ⟨_, rfl⟩
  rw [hx] at e14 hdl
  have hra := HE.out.2.2.2.2.2.2.2.1
  rw [hx] at hra
  have bx : (x.toNat : Int) < 256 := by have := x.toNat_lt; omega
  have hw4 := fun k => getN_lt lo k 4
  have hw2 := fun k => getN_lt lo k 2
  simp only [Nat.reducePow] at hw4 hw2
  have hsup : ∀ d, rawU lo d = ⟨UInt32.ofNat (getN lo 0 4), (getN lo 4 2 : Int), UInt32.ofNat (getN lo 6 4), UInt32.ofNat (getN lo 10 4), d⟩ := fun d => rfl
  have kw := fun d u V hh => rumay_any (rawU lo d) u V hh
  have kb := fun d u V hh hm => rublock_any (rawU lo d) u V hh hm
  simp only [SupV, hsup, wV] at kw kb
  have g0 := hw4 0
  have g4 := hw2 4
  have g6 := hw4 6
  have g10 := hw4 10
  simp only [toNat_u32 _ g0, toNat_u32 _ g6, toNat_u32 _ g10] at kw kb
  have kg0 := fun V hh => rgetFour_any (.slice (some ⟨bb, bo, none⟩) 124 cb) lo 0 V hh
  have kg4 := fun V hh => rgetTwo_any (.slice (some ⟨bb, bo, none⟩) 124 cb) lo 4 V hh
  have kg6 := fun V hh => rgetFour_any (.slice (some ⟨bb, bo, none⟩) 124 cb) lo 6 V hh
  have kg10 := fun V hh => rgetFour_any (.slice (some ⟨bb, bo, none⟩) 124 cb) lo 10 V hh
  have kgd := fun V (j : Nat) hh => rgetTwo_any (.slice (some ⟨bb, bo, none⟩) 124 cb) lo (15 + 2 * (j : Int)) V hh
  generalize getN lo 0 4 = n0 at *
  generalize getN lo 4 2 = n1 at *
  generalize getN lo 6 4 = n2 at *
  generalize getN lo 10 4 = n3 at *
  have HR := Lib.hid (And.intro hra (And.intro hen (And.intro e14 (And.intro hw2 (And.intro HE.out.1 (And.intro HE.out.2.2.2.2.1 (And.intro HE.out.2.2.2.2.2.1 (And.intro HE.out.2.2.2.2.2.2.1 (And.intro hsup (And.intro hl128 (And.intro hds (And.intro hdl hlol))))))))))))
  clear hra hen e14 hw2 hw4 hsup hlo hl128 hlol hcell hx HE g1 hds hdl
  unfold maxLen at zc2
  have HC := Lib.hid (And.intro kg0 (And.intro kg4 (And.intro kg6 (And.intro kg10 (And.intro kgd (And.intro kw kb))))))
  clear kg0 kg4 kg6 kg10 kgd kw kb
  go_upto_region 5 with (fail)
  obtain ⟨qr, hV0, hO, hB⟩ := HQ.out
  clear HQ
  have hst := (Below.refl w1.heap.size w1).alloc (Nat.le_refl _) (.cells #[.int .u32 0, .int .i64 0, .int .u32 0, .int .u32 0, .slice none 0 0] 25)
  have hlt : w1.heap.size < (w1.alloc (.cells #[.int .u32 0, .int .i64 0, .int .u32 0, .int .u32 0, .slice none 0 0] 25)).heap.size := by simp
  have qs := LK.new w1 (.cells #[.int .u32 0, .int .i64 0, .int .u32 0, .int .u32 0, .slice none 0 0] 25)
  replace qr := qr.step hst
  replace hV0 := hV0.step hst
  replace hO := hO.step hst
  replace hB := hB.step hst
  obtain ⟨w2, hw⟩ : ∃ v, w1.alloc (.cells #[.int .u32 0, .int .i64 0, .int .u32 0, .int .u32 0, .slice none 0 0] 25) = v := ⟨_, rfl⟩
  rw [hw] at hlt qs qr hV0 hO hB ⊢
  clear hw hst
  have sz_w2 := hlt
  clear hlt
  have HQ := Lib.hid (And.intro qr (And.intro hV0 (And.intro hO (And.intro qs hB))))
  clear qr hV0 hO qs hB
  have c_qs0 := LK.cell HQ.out.2.2.2.1 0
  have c_qs1 := LK.cell HQ.out.2.2.2.1 1
  have c_qs2 := LK.cell HQ.out.2.2.2.1 2
  have c_qs3 := LK.cell HQ.out.2.2.2.1 3
  have c_qs4 := LK.cell HQ.out.2.2.2.1 4
  simp at c_qs0 c_qs1 c_qs2 c_qs3 c_qs4
  clear c_qs0 c_qs1 c_qs2 c_qs3 c_qs4
  obtain ⟨gs, hgs⟩ : ∃ g, w1.heap.size = g := ⟨_, rfl⟩
  have HGS := Lib.hid hgs
  skip
  have hgs3 : w1.heap.size ≤ gs := by omega
  have hgs1 : w.heap.size < gs := by omega
  have hgs2 : gs < w2.heap.size := by omega
  obtain ⟨qr, hV0, hO, qs, hB⟩ := HQ.out
  clear HQ
  rw [hgs] at qs ⊢
  have HQ := Lib.hid (And.intro qr (And.intro hV0 (And.intro hO (And.intro qs hB))))
  clear qr hV0 hO qs hB
  clear hgs
  go_wp2_with fail
  refine (HC.out.1 _ HQ.out.2.2.1.v).mono ?_
  rintro e w9 ⟨rfl, hw9⟩
  rw [← hw9]
  clear hw9 w9
  have c_qs0 := LK.cell HQ.out.2.2.2.1 0
  have c_qs1 := LK.cell HQ.out.2.2.2.1 1
  have c_qs2 := LK.cell HQ.out.2.2.2.1 2
  have c_qs3 := LK.cell HQ.out.2.2.2.1 3
  have c_qs4 := LK.cell HQ.out.2.2.2.1 4
  have z_qs0 := LK.frozen HQ.out.2.2.2.1 0
  have z_qs1 := LK.frozen HQ.out.2.2.2.1 1
  have z_qs2 := LK.frozen HQ.out.2.2.2.1 2
  have z_qs3 := LK.frozen HQ.out.2.2.2.1 3
  have z_qs4 := LK.frozen HQ.out.2.2.2.1 4
  simp at c_qs0 c_qs1 c_qs2 c_qs3 c_qs4
  go_upto_region 6 with (fail)
  clear z_qs0 z_qs1 z_qs2 z_qs3 z_qs4 c_qs0 c_qs1 c_qs2 c_qs3 c_qs4
  obtain ⟨qr, hV0, hO, qs, hB⟩ := HQ.out
  clear HQ
  have hcb := LK.blk qs
  have hF : LK (gs) (.cells #[.int .u32 (n0 : Int), .int .i64 0, .int .u32 0, .int .u32 0, .slice none 0 0] 25) (w2.setCell ⟨gs, 0, none⟩ (.int .u32 (n0 : Int))) := LK.of (set_block hcb 0 _)
  have hbel : Below (gs) w2 (w2.setCell ⟨gs, 0, none⟩ (.int .u32 (n0 : Int))) := (Below.refl _ w2).setCell (p := ⟨gs, 0, none⟩) (Nat.le_refl _) _
  have hfr : ∀ x, x < w2.heap.size → (x < gs ∨ gs + 1 ≤ x) → (w2.setCell ⟨gs, 0, none⟩ (.int .u32 (n0 : Int))).heap[x]? = w2.heap[x]? := fun x _ h => (set_other _ _ _ _ _ (by omega))
  have hs4 : (w2.setCell ⟨gs, 0, none⟩ (.int .u32 (n0 : Int))).heap.size = w2.heap.size := by simp only [World.size_setCell]
  replace qr := qr.out (Nat.le_of_eq hs4.symm) hfr (by omega)
  replace hV0 := hV0.out (Nat.le_of_eq hs4.symm) hfr (by omega)
  replace hO := hO.out (Nat.le_of_eq hs4.symm) hfr (by omega)
  replace hB := hB.outB hbel (by omega)
  replace qs := hF
  obtain ⟨w3, hw⟩ : ∃ v, (w2.setCell ⟨gs, 0, none⟩ (.int .u32 (n0 : Int))) = v := ⟨_, rfl⟩
  rw [hw] at hs4 qr hV0 hO qs hB ⊢
  have sz_w3 := Nat.le_of_eq hs4
  have sy_w3 := Nat.le_of_eq hs4.symm
  clear hw hF hbel hfr hcb hs4
  have HQ := Lib.hid (And.intro qr (And.intro hV0 (And.intro hO (And.intro qs hB))))
  clear qr hV0 hO qs hB
  have c_qs0 := LK.cell HQ.out.2.2.2.1 0
  have c_qs1 := LK.cell HQ.out.2.2.2.1 1
  have c_qs2 := LK.cell HQ.out.2.2.2.1 2
  have c_qs3 := LK.cell HQ.out.2.2.2.1 3
  have c_qs4 := LK.cell HQ.out.2.2.2.1 4
  simp at c_qs0 c_qs1 c_qs2 c_qs3 c_qs4
  replace hgs2 : gs < w3.heap.size := by omega
  clear c_qs0 c_qs1 c_qs2 c_qs3 c_qs4
  go_wp2_with fail
  refine (HC.out.2.1 _ HQ.out.2.2.1.v).mono ?_
  rintro e w9 ⟨rfl, hw9⟩
  rw [← hw9]
  clear hw9 w9
  have c_qs0 := LK.cell HQ.out.2.2.2.1 0
  have c_qs1 := LK.cell HQ.out.2.2.2.1 1
  have c_qs2 := LK.cell HQ.out.2.2.2.1 2
  have c_qs3 := LK.cell HQ.out.2.2.2.1 3
  have c_qs4 := LK.cell HQ.out.2.2.2.1 4
  have z_qs0 := LK.frozen HQ.out.2.2.2.1 0
  have z_qs1 := LK.frozen HQ.out.2.2.2.1 1
  have z_qs2 := LK.frozen HQ.out.2.2.2.1 2
  have z_qs3 := LK.frozen HQ.out.2.2.2.1 3
  have z_qs4 := LK.frozen HQ.out.2.2.2.1 4
  simp at c_qs0 c_qs1 c_qs2 c_qs3 c_qs4
  go_upto_region 7 with (fail)
  clear z_qs0 z_qs1 z_qs2 z_qs3 z_qs4 c_qs0 c_qs1 c_qs2 c_qs3 c_qs4
  obtain ⟨qr, hV0, hO, qs, hB⟩ := HQ.out
  clear HQ
  have hcb := LK.blk qs
  have hF : LK (gs) (.cells #[.int .u32 (n0 : Int), .int .i64 (n1 : Int), .int .u32 0, .int .u32 0, .slice none 0 0] 25) (w3.setCell ⟨gs, 1, none⟩ (.int .i64 (n1 : Int))) := LK.of (set_block hcb 1 _)
  have hbel : Below (gs) w3 (w3.setCell ⟨gs, 1, none⟩ (.int .i64 (n1 : Int))) := (Below.refl _ w3).setCell (p := ⟨gs, 1, none⟩) (Nat.le_refl _) _
  have hfr : ∀ x, x < w3.heap.size → (x < gs ∨ gs + 1 ≤ x) → (w3.setCell ⟨gs, 1, none⟩ (.int .i64 (n1 : Int))).heap[x]? = w3.heap[x]? := fun x _ h => (set_other _ _ _ _ _ (by omega))
  have hs4 : (w3.setCell ⟨gs, 1, none⟩ (.int .i64 (n1 : Int))).heap.size = w3.heap.size := by simp only [World.size_setCell]
  replace qr := qr.out (Nat.le_of_eq hs4.symm) hfr (by omega)
  replace hV0 := hV0.out (Nat.le_of_eq hs4.symm) hfr (by omega)
  replace hO := hO.out (Nat.le_of_eq hs4.symm) hfr (by omega)
  replace hB := hB.outB hbel (by omega)
  replace qs := hF
  obtain ⟨w4, hw⟩ : ∃ v, (w3.setCell ⟨gs, 1, none⟩ (.int .i64 (n1 : Int))) = v := ⟨_, rfl⟩
  rw [hw] at hs4 qr hV0 hO qs hB ⊢
  have sz_w4 := Nat.le_of_eq hs4
  have sy_w4 := Nat.le_of_eq hs4.symm
  clear hw hF hbel hfr hcb hs4
  have HQ := Lib.hid (And.intro qr (And.intro hV0 (And.intro hO (And.intro qs hB))))
  clear qr hV0 hO qs hB
  have c_qs0 := LK.cell HQ.out.2.2.2.1 0
  have c_qs1 := LK.cell HQ.out.2.2.2.1 1
  have c_qs2 := LK.cell HQ.out.2.2.2.1 2
  have c_qs3 := LK.cell HQ.out.2.2.2.1 3
  have c_qs4 := LK.cell HQ.out.2.2.2.1 4
  simp at c_qs0 c_qs1 c_qs2 c_qs3 c_qs4
  replace hgs2 : gs < w4.heap.size := by omega
  clear c_qs0 c_qs1 c_qs2 c_qs3 c_qs4
  go_wp2_with fail
  refine (HC.out.2.2.1 _ HQ.out.2.2.1.v).mono ?_
  rintro e w9 ⟨rfl, hw9⟩
  rw [← hw9]
  clear hw9 w9
  have c_qs0 := LK.cell HQ.out.2.2.2.1 0
  have c_qs1 := LK.cell HQ.out.2.2.2.1 1
  have c_qs2 := LK.cell HQ.out.2.2.2.1 2
  have c_qs3 := LK.cell HQ.out.2.2.2.1 3
  have c_qs4 := LK.cell HQ.out.2.2.2.1 4
  have z_qs0 := LK.frozen HQ.out.2.2.2.1 0
  have z_qs1 := LK.frozen HQ.out.2.2.2.1 1
  have z_qs2 := LK.frozen HQ.out.2.2.2.1 2
  have z_qs3 := LK.frozen HQ.out.2.2.2.1 3
  have z_qs4 := LK.frozen HQ.out.2.2.2.1 4
  simp at c_qs0 c_qs1 c_qs2 c_qs3 c_qs4
  go_upto_region 8 with (fail)
  clear z_qs0 z_qs1 z_qs2 z_qs3 z_qs4 c_qs0 c_qs1 c_qs2 c_qs3 c_qs4
  obtain ⟨qr, hV0, hO, qs, hB⟩ := HQ.out
  clear HQ
  have hcb := LK.blk qs
  have hF : LK (gs) (.cells #[.int .u32 (n0 : Int), .int .i64 (n1 : Int), .int .u32 (n2 : Int), .int .u32 0, .slice none 0 0] 25) (w4.setCell ⟨gs, 2, none⟩ (.int .u32 (n2 : Int))) := LK.of (set_block hcb 2 _)
  have hbel : Below (gs) w4 (w4.setCell ⟨gs, 2, none⟩ (.int .u32 (n2 : Int))) := (Below.refl _ w4).setCell (p := ⟨gs, 2, none⟩) (Nat.le_refl _) _
  have hfr : ∀ x, x < w4.heap.size → (x < gs ∨ gs + 1 ≤ x) → (w4.setCell ⟨gs, 2, none⟩ (.int .u32 (n2 : Int))).heap[x]? = w4.heap[x]? := fun x _ h => (set_other _ _ _ _ _ (by omega))
  have hs4 : (w4.setCell ⟨gs, 2, none⟩ (.int .u32 (n2 : Int))).heap.size = w4.heap.size := by simp only [World.size_setCell]
  replace qr := qr.out (Nat.le_of_eq hs4.symm) hfr (by omega)
  replace hV0 := hV0.out (Nat.le_of_eq hs4.symm) hfr (by omega)
  replace hO := hO.out (Nat.le_of_eq hs4.symm) hfr (by omega)
  replace hB := hB.outB hbel (by omega)
  replace qs := hF
  obtain ⟨w5, hw⟩ : ∃ v, (w4.setCell ⟨gs, 2, none⟩ (.int .u32 (n2 : Int))) = v := ⟨_, rfl⟩
  rw [hw] at hs4 qr hV0 hO qs hB ⊢
  have sz_w5 := Nat.le_of_eq hs4
  have sy_w5 := Nat.le_of_eq hs4.symm
  clear hw hF hbel hfr hcb hs4
  have HQ := Lib.hid (And.intro qr (And.intro hV0 (And.intro hO (And.intro qs hB))))
  clear qr hV0 hO qs hB
  have c_qs0 := LK.cell HQ.out.2.2.2.1 0
  have c_qs1 := LK.cell HQ.out.2.2.2.1 1
  have c_qs2 := LK.cell HQ.out.2.2.2.1 2
  have c_qs3 := LK.cell HQ.out.2.2.2.1 3
  have c_qs4 := LK.cell HQ.out.2.2.2.1 4
  simp at c_qs0 c_qs1 c_qs2 c_qs3 c_qs4
  replace hgs2 : gs < w5.heap.size := by omega
  clear c_qs0 c_qs1 c_qs2 c_qs3 c_qs4
  go_wp2_with fail
  refine (HC.out.2.2.2.1 _ HQ.out.2.2.1.v).mono ?_
  rintro e w9 ⟨rfl, hw9⟩
  rw [← hw9]
  clear hw9 w9
  have c_qs0 := LK.cell HQ.out.2.2.2.1 0
  have c_qs1 := LK.cell HQ.out.2.2.2.1 1
  have c_qs2 := LK.cell HQ.out.2.2.2.1 2
  have c_qs3 := LK.cell HQ.out.2.2.2.1 3
  have c_qs4 := LK.cell HQ.out.2.2.2.1 4
  have z_qs0 := LK.frozen HQ.out.2.2.2.1 0
  have z_qs1 := LK.frozen HQ.out.2.2.2.1 1
  have z_qs2 := LK.frozen HQ.out.2.2.2.1 2
  have z_qs3 := LK.frozen HQ.out.2.2.2.1 3
  have z_qs4 := LK.frozen HQ.out.2.2.2.1 4
  simp at c_qs0 c_qs1 c_qs2 c_qs3 c_qs4
  go_upto_region 9 with (fail)
  clear z_qs0 z_qs1 z_qs2 z_qs3 z_qs4 c_qs0 c_qs1 c_qs2 c_qs3 c_qs4
  obtain ⟨qr, hV0, hO, qs, hB⟩ := HQ.out
  clear HQ
  have hcb := LK.blk qs
  have hF : LK (gs) (.cells #[.int .u32 (n0 : Int), .int .i64 (n1 : Int), .int .u32 (n2 : Int), .int .u32 (n3 : Int), .slice none 0 0] 25) (w5.setCell ⟨gs, 3, none⟩ (.int .u32 (n3 : Int))) := LK.of (set_block hcb 3 _)
  have hbel : Below (gs) w5 (w5.setCell ⟨gs, 3, none⟩ (.int .u32 (n3 : Int))) := (Below.refl _ w5).setCell (p := ⟨gs, 3, none⟩) (Nat.le_refl _) _
  have hfr : ∀ x, x < w5.heap.size → (x < gs ∨ gs + 1 ≤ x) → (w5.setCell ⟨gs, 3, none⟩ (.int .u32 (n3 : Int))).heap[x]? = w5.heap[x]? := fun x _ h => (set_other _ _ _ _ _ (by omega))
  have hs4 : (w5.setCell ⟨gs, 3, none⟩ (.int .u32 (n3 : Int))).heap.size = w5.heap.size := by simp only [World.size_setCell]
  replace qr := qr.out (Nat.le_of_eq hs4.symm) hfr (by omega)
  replace hV0 := hV0.out (Nat.le_of_eq hs4.symm) hfr (by omega)
  replace hO := hO.out (Nat.le_of_eq hs4.symm) hfr (by omega)
  replace hB := hB.outB hbel (by omega)
  replace qs := hF
  obtain ⟨w6, hw⟩ : ∃ v, (w5.setCell ⟨gs, 3, none⟩ (.int .u32 (n3 : Int))) = v := ⟨_, rfl⟩
  rw [hw] at hs4 qr hV0 hO qs hB ⊢
  have sz_w6 := Nat.le_of_eq hs4
  have sy_w6 := Nat.le_of_eq hs4.symm
  clear hw hF hbel hfr hcb hs4
  have HQ := Lib.hid (And.intro qr (And.intro hV0 (And.intro hO (And.intro qs hB))))
  clear qr hV0 hO qs hB
  have c_qs0 := LK.cell HQ.out.2.2.2.1 0
  have c_qs1 := LK.cell HQ.out.2.2.2.1 1
  have c_qs2 := LK.cell HQ.out.2.2.2.1 2
  have c_qs3 := LK.cell HQ.out.2.2.2.1 3
  have c_qs4 := LK.cell HQ.out.2.2.2.1 4
  simp at c_qs0 c_qs1 c_qs2 c_qs3 c_qs4
  replace hgs2 : gs < w6.heap.size := by omega
  clear c_qs0 c_qs1 c_qs2 c_qs3 c_qs4
  have d14 := Bytes.cellAt HQ.out.2.2.1.v 14 x HR.out.2.2.1
  simp only [bV] at d14
  by_cases h40 : x.toNat ≤ 40
  case neg =>
    have i40 : (40 : Int) < x.toNat := by omega
    have hkb : okb = false := by
      cases hda : da with
      | none => exact HR.out.2.2.2.2.2.2.1 hda
      | some d => rw [HR.out.2.2.2.2.2.2.2.1 d hda, HR.out.2.2.2.2.2.2.2.2.1, HR.out.2.2.2.2.2.2.2.2.2.2.2.1 (by omega) d hda]; rfl
    have hen := HR.out.2.1
    rw [hkb] at hen
    simp only [Bool.false_eq_true, if_false] at hen
    subst hen
    have hrn := HR.out.2.2.2.2.1 (by decide)
    subst hrn
    clear hkb
    have c_qr0 := LK.cell HQ.out.1 0
    have c_qr1 := LK.cell HQ.out.1 1
    have c_qr2 := LK.cell HQ.out.1 2
    have c_qr3 := LK.cell HQ.out.1 3
    have c_qr4 := LK.cell HQ.out.1 4
    have z_qr0 := LK.frozen HQ.out.1 0
    have z_qr1 := LK.frozen HQ.out.1 1
    have z_qr2 := LK.frozen HQ.out.1 2
    have z_qr3 := LK.frozen HQ.out.1 3
    have z_qr4 := LK.frozen HQ.out.1 4
    simp at c_qr0 c_qr1 c_qr2 c_qr3 c_qr4
    have hBf := HQ.out.2.2.2.2
    go_wp2
    refine bodyPost_ret (v := .tuple #[.agg #[.int .u32 0, .int .i64 0, .int .u32 0, .int .u32 0, .slice none 0 0], .int .i64 8]) (by simp [results, Try.results18, go_sem, c_qr0, c_qr1, c_qr2, c_qr3, c_qr4]) rfl ⟨_, rfl, ?_⟩
    exact ⟨⟨by decide, Sl.nil_ _ _ _⟩, below_five hBf _ _ _ _ _⟩
  have i40 : ¬ (40 : Int) < x.toNat := by omega
  have hqs := HQ.out.2.2.2.1
  have hqr := HQ.out.1
  have hh0 := HQ.out.2.2.1
  have szW := LK.lt hqs
  have HW := Lib.hid (And.intro hqs (And.intro hh0 (And.intro HQ.out.2.2.2.2 (And.intro HQ.out.2.1 hqr))))
  clear hqs hqr hh0 HQ
  go_wp2_with fail
  go_loopw [7] (fun i wr => ∃ (j : Nat) (its : List Int) (ar : Option Addr) (cr : Nat), j ≤ x.toNat ∧ i = .int .i64 j ∧ deadR lo j = some its ∧ wr.heap[gs]? = some (.cells #[.int .u32 (n0 : Int), .int .i64 (n1 : Int), .int .u32 (n2 : Int), .int .u32 (n3 : Int), .slice ar its.length cr] 25 (0, 0)) ∧ OwnR (rInt .i64) w6.heap.size 3 w6.heap.size (boxS gs 1) wr (.slice ar its.length cr) its ∧ (∀ k, k < w6.heap.size → k ≠ gs → wr.heap[k]? = w6.heap[k]?) ∧ w6.heap.size ≤ wr.heap.size ∧ Below w.heap.size w6 wr) (fun i _ => x.toNat - (intOf i).toNat)
  case atStart => exact ⟨0, [], none, 0, Nat.zero_le _, rfl, rfl, HW.out.1.blk, OwnR.nil_ _ _ _ _ _ _, fun _ _ _ => rfl, Nat.le_refl _, Below.refl _ _⟩
  case round =>
  obtain ⟨j, its, ar, cr, hj, rfl, hdr, qbox, hown, hsame, hsz, hBr⟩ := hrel
  have hO := (HW.out.2.1.out (n0 := gs) (h0 := gs + 1) hsz (fun x h1 h2 => hsame x h1 (by omega)) (by omega))
  have hBw : Below w.heap.size w wr := Below.trans HW.out.2.2.1 hBr
  have hln := deadR_len hdr
  clear d14
  have d14 := Bytes.cellAt hO.v 14 x HR.out.2.2.1
  simp only [bV] at d14
  by_cases hlt : j < x.toNat
  · obtain ⟨nj, hnj⟩ : ∃ z, getN lo (15 + 2 * (j : Int)) 2 = z := ⟨_, rfl⟩
    have hej : getE lo (15 + 2 * (j : Int)) 2 = 0 := by unfold getE; rw [if_pos ⟨by omega, by have := HR.out.2.2.2.2.2.2.2.2.2.2.2.2; omega⟩]
    have hnlt : nj < 65536 := hnj ▸ HR.out.2.2.2.1 (15 + 2 * (j : Int))
    have kd := HC.out.2.2.2.2.1 wr j hO.v
    rw [hej, hnj] at kd
    have hyes : deadR lo (j + 1) = some (its ++ [(nj : Int)]) := by rw [deadR, hdr]; dsimp only; rw [hej, if_pos rfl, hnj]
    have HP := Lib.hid (And.intro hyes (And.intro hown (And.intro hsame (And.intro hsz (And.intro hBr (And.intro hBw qbox))))))
    have KD := Lib.hid kd
    have HLN := Lib.hid hln
    clear hyes hown hsame hsz hBr hBw qbox kd hdr hej hnj hO hln
    have r1 : (2 : Int) * j < 600 := by omega
    go_wp2_with fail
    refine KD.out.mono ?_
    rintro e z ⟨rfl, hzz⟩
    rw [← hzz]
    clear hzz z d14
    have szr := HP.out.2.2.2.1
    have c_qs0 := blk_cell HP.out.2.2.2.2.2.2 0
    have c_qs1 := blk_cell HP.out.2.2.2.2.2.2 1
    have c_qs2 := blk_cell HP.out.2.2.2.2.2.2 2
    have c_qs3 := blk_cell HP.out.2.2.2.2.2.2 3
    have c_qs4 := blk_cell HP.out.2.2.2.2.2.2 4
    simp at c_qs0 c_qs1 c_qs2 c_qs3 c_qs4
    have z_qs0 := blk_frozen HP.out.2.2.2.2.2.2 0
    have z_qs1 := blk_frozen HP.out.2.2.2.2.2.2 1
    have z_qs2 := blk_frozen HP.out.2.2.2.2.2.2 2
    have z_qs3 := blk_frozen HP.out.2.2.2.2.2.2 3
    have z_qs4 := blk_frozen HP.out.2.2.2.2.2.2 4
    clear c_qs0 z_qs0
    clear c_qs1 z_qs1
    clear c_qs2 z_qs2
    clear c_qs3 z_qs3
    go_wp2_with (at_builtin; obtain ⟨hra, hrb⟩ : OwnR (rInt .i64) w6.heap.size 3 w6.heap.size (boxS gs 1) (wr.alloc (.cells #[.int .i64 (nj : Int)] 3)) (.slice ar its.length cr) its ∧ True := ⟨HP.out.2.1.alloc (rInt_ck .i64) _, trivial⟩; refine wpList_appR (rInt_ck .i64) rfl (.tmp 65) (.tmp 67) 23 rfl 3 (.int .i64 0) 8 Try.underlying23 (by kernel_rfl) rfl (by decide) w6.heap.size w6.heap.size (boxS gs 1) (.slice ar its.length cr) its [(nj : Int)] rfl hra (fun q hq => boxS_no (by rw [World.size_alloc] at hq; omega)) ⟨wr.heap.size, 0, none⟩ 1 [.int .i64 (nj : Int)] rfl rfl (news_one #[.int .i64 (nj : Int)] 3) (by intro u hu; simp at hu; subst hu; rfl) (row_int1 (WalkArith.wf_i64 (by omega)) 3) (by have := HLN.out; show its.length + 1 ≤ 1000000; omega) (by decide) (by show w6.heap.size ≤ (wr.alloc _).heap.size; rw [World.size_alloc]; omega) ?_; intro a4 c4 z4 hown4 hB4 hf4; clear hra hrb; rw [show (its ++ [(nj : Int)]).length = its.length + 1 by simp] at hown4 ⊢; have hl1 : gs < (wr.alloc (.cells #[.int .i64 (nj : Int)] 3)).heap.size := (by rw [World.size_alloc]; omega); have hrl := HP.out.2.1.lt; have k5 := (hf4 gs hl1 (fun e => by have := (hrl _ e).1; omega)).trans ((Below.heap_alloc wr _ gs (by omega)).trans HP.out.2.2.2.2.2.2); clear c_qs4 z_qs4; have j4 := blk_cell k5 4; have jf := blk_frozen k5 4; simp at j4; have HO := Lib.hid (And.intro hown4 (And.intro hB4 (And.intro k5 (And.intro hf4 hrl)))); clear hown4 hB4 k5 hf4 hrl hl1)
    go_roundw
    case rel =>
      obtain ⟨hown4, hB4, k5, hf4, hrl⟩ := HO.out
      have hls : (its ++ [(nj : Int)]).length = its.length + 1 := by simp
      have hBa : Below w.heap.size wr (wr.alloc (.cells #[.int .i64 (nj : Int)] 3)) := (Below.refl _ _).alloc (by omega) _
      have hBn : Below w.heap.size wr (z4.setCell ⟨gs, 4, none⟩ (.slice a4 (its.length + 1) c4)) := (hBa.trans (hB4.mono (by omega))).setCell (p := ⟨gs, 4, none⟩) (by show w.heap.size ≤ gs; omega) _
      refine ⟨j + 1, its ++ [(nj : Int)], a4, c4, by omega, by go_num, HP.out.1, ?_, ?_, ?_, ?_, HP.out.2.2.2.2.1.trans hBn⟩
      · rw [hls]
        exact set_block k5 4 _
      · rw [hls]
        exact hown4.setS (rInt_ck .i64) ⟨gs, 4, none⟩ _ (boxS_yes (Nat.le_refl _) (by show gs < gs + 1; omega))
      · intro k hk hne
        refine (set_other z4 _ _ _ _ hne).trans ((hf4 k (by rw [World.size_alloc]; omega) (fun e => by have := (hrl _ e).1; omega)).trans ((Below.heap_alloc wr _ k (by omega)).trans (HP.out.2.2.1 k hk hne)))
      · rw [World.size_setCell]
        have := hB4.size
        rw [World.size_alloc] at this
        omega
    case measure => simp [intOf]; omega
  obtain rfl : j = x.toNat := by omega
  have hda := HR.out.1.trans hdr
  have hsl := hown.sl (rInt_ck .i64) (lo' := w6.heap.size) (Nat.le_refl _) (Nat.le_refl _)
  have hkb := HR.out.2.2.2.2.2.2.2.1 its hda
  have hen := HR.out.2.1
  have hr0 := HR.out.2.2.2.2.1
  have hrn1 := fun h => HR.out.2.2.2.2.2.1 h
  rw [hda] at hrn1
  simp only [Option.getD_some] at hrn1
  have hln2 : its.length ≤ 255 := by have := x.toNat_lt; omega
  have k_w := fun Z hh => HC.out.2.2.2.2.2.1 its (.slice ar its.length cr) Z ⟨WalkArith.wf_i64 (by omega), hh⟩
  have k_b := fun Z hh => HC.out.2.2.2.2.2.2 its (.slice ar its.length cr) Z ⟨WalkArith.wf_i64 (by omega), hh⟩
  rw [HR.out.2.2.2.2.2.2.2.2.1 its] at hkb hrn1
  obtain ⟨mb, hmb⟩ : ∃ z, mayU ⟨UInt32.ofNat n0, (n1 : Int), UInt32.ofNat n2, UInt32.ofNat n3, its⟩ = z := ⟨_, rfl⟩
  obtain ⟨bl, hbl⟩ : ∃ z, blockU ⟨UInt32.ofNat n0, (n1 : Int), UInt32.ofNat n2, UInt32.ofNat n3, its⟩ = z := ⟨_, rfl⟩
  rw [hmb] at k_w
  rw [hmb, hbl] at k_b
  rw [hmb, hbl] at hkb
  have hvr := (HW.out.2.2.2.1.out (n0 := gs) (h0 := gs + 1) hsz (fun x h1 h2 => hsame x h1 (by omega)) (by omega))
  have hqr2 := (HW.out.2.2.2.2.out (n0 := gs) (h0 := gs + 1) hsz (fun x h1 h2 => hsame x h1 (by omega)) (by omega))
  have qs := LK.of qbox
  have S_i := LS.of hsl (Nat.le_refl _)
  have hB : LW w wr := hBw
  have HF := Lib.hid (And.intro hkb (And.intro hrn1 (And.intro hen hr0)))
  have KW := Lib.hid (And.intro k_w k_b)
  clear hln k_w k_b hkb hrn1 hsl qbox hBw hen hr0 hsame hsz hBr hO hown hda hdr hmb hbl
  skip
  have HQ := Lib.hid (And.intro qs (And.intro hqr2 (And.intro hvr (And.intro S_i hB))))
  clear qs hqr2 hvr S_i hB
  go_upto_region 16 with (fail)
  clear d14
  have x_qs0 := fun X => LK.cell (HQ.out.1.step (aft_below wr X)) 0
  have x_qs1 := fun X => LK.cell (HQ.out.1.step (aft_below wr X)) 1
  have x_qs2 := fun X => LK.cell (HQ.out.1.step (aft_below wr X)) 2
  have x_qs3 := fun X => LK.cell (HQ.out.1.step (aft_below wr X)) 3
  have x_qs4 := fun X => LK.cell (HQ.out.1.step (aft_below wr X)) 4
  simp at x_qs0 x_qs1 x_qs2 x_qs3 x_qs4
  have x_v := fun X => cv_of (HQ.out.2.2.1.step (aft_below wr X)).v
  cases mb
  case false =>
    refine wp_region_held_drew (S := Cls wr) (by kernel_rfl) (Cls.drew wr) (fun hCl => ?_)
    refine wpAnyH_seg (fuel := 10) (by kernel_rfl) (fun _ d _ _ _ h => by cases d <;> exact h) hCl [0] _ _ _ (by kernel_rfl) (by kernel_rfl) ?_
    simp only [opsOf_cons, opsOf_nil, consOp_some, List.getElem?_toArray, List.getElem?_cons_zero]
    repeat (first | go_big_quiet_step (fail) | quiet_step (fail))
    refine wpQuiet_nil ?_
    refine wpAnyH_each (fuel := 9) [1] (by kernel_rfl) (by simp) (by kernel_rfl) ?_
    refine Each.cons _ rfl (fun K' hK => ?_) Each.nil
    go_simp
    refine (KW.out.1 _ (HQ.out.2.2.2.1.step hCl.below).v).mono ?_
    rintro e z1 ⟨rfl, hb⟩
    have hst := below_step hCl.below hCl.below.size hb
    clear hb
    have hCl := Cls.of hst
    refine hK.out (Cls wr) (fun _ h => h) hCl ?_
    clear hK K'
    refine wpAnyH_seg (fuel := 4) (by kernel_rfl) (fun _ d _ _ _ h => by cases d <;> exact h) hCl [2, 3, 4, 7, 8] _ _ _ (by kernel_rfl) (by kernel_rfl) ?_
    simp only [opsOf_cons, opsOf_nil, consOp_some, List.getElem?_toArray, List.getElem?_cons_succ, List.getElem?_cons_zero]
    repeat (first | go_big_quiet_step (fail) | quiet_step (fail))
    refine wpQuiet_nil ?_
    refine wpAnyH_each (fuel := 3) [5] (by kernel_rfl) (by simp) (by kernel_rfl) ?_
    refine Each.cons _ rfl (fun K' hK => ?_) Each.nil
    go_simp
    have hst := hCl.below
    have hCl := Cls.of hst
    refine hK.out (Cls wr) (fun _ h => h) hCl ?_
    clear hK K'
    refine wpAnyH_seg (fuel := 0) (by kernel_rfl) (fun _ d _ _ _ h => by cases d <;> exact h) hCl [6, 9, 10] _ _ _ (by kernel_rfl) (by kernel_rfl) ?_
    simp only [opsOf_cons, opsOf_nil, consOp_some, List.getElem?_toArray, List.getElem?_cons_succ, List.getElem?_cons_zero]
    repeat (first | go_big_quiet_step (fail) | quiet_step (fail))
    refine wpQuiet_nil ?_
    refine wpAnyH_done (by kernel_rfl) ?_ _
    clear x_qs0 x_qs1 x_qs2 x_qs3 x_qs4 x_v
    obtain ⟨zz, hzz⟩ := named_w hst
    subst hzz
    obtain ⟨qs, qr, hV0, S_i, hB⟩ := HQ.out
    clear HQ
    have sz_zz : wr.heap.size ≤ zz.heap.size := hst.size
    replace qs := qs.step hst
    replace qr := qr.step hst
    replace hV0 := hV0.step hst
    replace S_i := S_i.step hst
    replace hB := hB.step hst
    clear hst
    have HQ := Lib.hid (And.intro qs (And.intro qr (And.intro hV0 (And.intro S_i hB))))
    clear qs qr hV0 S_i hB
    have hkb : okb = false := by
      rw [HF.out.1]
      rfl
    have hen := HF.out.2.2.1
    rw [hkb] at hen
    simp only [Bool.false_eq_true, if_false] at hen
    subst hen
    have hrn := HF.out.2.2.2 (by decide)
    subst hrn
    clear hkb
    have c_qr0 := LK.cell HQ.out.2.1 0
    have c_qr1 := LK.cell HQ.out.2.1 1
    have c_qr2 := LK.cell HQ.out.2.1 2
    have c_qr3 := LK.cell HQ.out.2.1 3
    have c_qr4 := LK.cell HQ.out.2.1 4
    have z_qr0 := LK.frozen HQ.out.2.1 0
    have z_qr1 := LK.frozen HQ.out.2.1 1
    have z_qr2 := LK.frozen HQ.out.2.1 2
    have z_qr3 := LK.frozen HQ.out.2.1 3
    have z_qr4 := LK.frozen HQ.out.2.1 4
    simp at c_qr0 c_qr1 c_qr2 c_qr3 c_qr4
    have hBf := HQ.out.2.2.2.2
    go_wp2
    refine bodyPost_ret (v := .tuple #[.agg #[.int .u32 0, .int .i64 0, .int .u32 0, .int .u32 0, .slice none 0 0], .int .i64 8]) (by simp [results, Try.results18, go_sem, c_qr0, c_qr1, c_qr2, c_qr3, c_qr4]) rfl ⟨_, rfl, ?_⟩
    exact ⟨⟨by decide, Sl.nil_ _ _ _⟩, below_five hBf _ _ _ _ _⟩
  case true =>
    by_cases hbq : bl = l
    case neg =>
      have hneb : (bl == l) = false := by simp [hbq]
      have hnec : (bl != l) = true := by simp [hbq]
      refine wp_region_held_drew (S := Cls wr) (by kernel_rfl) (Cls.drew wr) (fun hCl => ?_)
      refine wpAnyH_seg (fuel := 10) (by kernel_rfl) (fun _ d _ _ _ h => by cases d <;> exact h) hCl [0] _ _ _ (by kernel_rfl) (by kernel_rfl) ?_
      simp only [opsOf_cons, opsOf_nil, consOp_some, List.getElem?_toArray, List.getElem?_cons_zero]
      repeat (first | go_big_quiet_step (fail) | quiet_step (fail))
      refine wpQuiet_nil ?_
      refine wpAnyH_each (fuel := 9) [1] (by kernel_rfl) (by simp) (by kernel_rfl) ?_
      refine Each.cons _ rfl (fun K' hK => ?_) Each.nil
      go_simp
      refine (KW.out.1 _ (HQ.out.2.2.2.1.step hCl.below).v).mono ?_
      rintro e z1 ⟨rfl, hb⟩
      have hst := below_step hCl.below hCl.below.size hb
      clear hb
      have hCl := Cls.of hst
      refine hK.out (Cls wr) (fun _ h => h) hCl ?_
      clear hK K'
      refine wpAnyH_seg (fuel := 4) (by kernel_rfl) (fun _ d _ _ _ h => by cases d <;> exact h) hCl [2, 3, 4, 7, 8] _ _ _ (by kernel_rfl) (by kernel_rfl) ?_
      simp only [opsOf_cons, opsOf_nil, consOp_some, List.getElem?_toArray, List.getElem?_cons_succ, List.getElem?_cons_zero]
      repeat (first | go_big_quiet_step (fail) | quiet_step (fail))
      refine wpQuiet_nil ?_
      refine wpAnyH_each (fuel := 3) [5] (by kernel_rfl) (by simp) (by kernel_rfl) ?_
      refine Each.cons _ rfl (fun K' hK => ?_) Each.nil
      go_simp
      refine (KW.out.2 _ (HQ.out.2.2.2.1.step hCl.below).v rfl).mono ?_
      rintro e z2 ⟨xb, rfl, hm⟩
      have hst := below_step hCl.below hCl.below.size hm.below
      obtain ⟨xa, xc, rfl, -, -⟩ := hm.bytes.form rfl
      clear x_qs0 x_qs1 x_qs2 x_qs3 x_qs4 x_v
      have x_v := fun X => cv_of ((HQ.out.2.2.1.step hst).step (aft_below z2 X)).v
      have x_b := fun X => cv_of (((LM.of hm).b).step (aft_below z2 X)).v
      clear hm
      refine hK.out (Cls z2) (Cls.sub hst) (Cls.refl z2) ?_
      have hCl := Cls.refl z2
      clear hK K'
      refine wpAnyH_seg (fuel := 0) (by kernel_rfl) (fun _ d _ _ _ h => by cases d <;> exact h) hCl [6, 9, 10] _ _ _ (by kernel_rfl) (by kernel_rfl) ?_
      simp only [opsOf_cons, opsOf_nil, consOp_some, List.getElem?_toArray, List.getElem?_cons_succ, List.getElem?_cons_zero]
      repeat (first | go_big_quiet_step (fail) | quiet_step (fail))
      refine wpQuiet_nil ?_
      refine wpAnyH_done (by kernel_rfl) ?_ _
      clear x_v x_b
      obtain ⟨qs, qr, hV0, S_i, hB⟩ := HQ.out
      clear HQ
      have sz_z2 : wr.heap.size ≤ z2.heap.size := hst.size
      replace qs := qs.step hst
      replace qr := qr.step hst
      replace hV0 := hV0.step hst
      replace S_i := S_i.step hst
      replace hB := hB.step hst
      clear hst
      have HQ := Lib.hid (And.intro qs (And.intro qr (And.intro hV0 (And.intro S_i hB))))
      clear qs qr hV0 S_i hB
      have hkb : okb = false := by
        rw [HF.out.1]
        simp [hbq]
      have hen := HF.out.2.2.1
      rw [hkb] at hen
      simp only [Bool.false_eq_true, if_false] at hen
      subst hen
      have hrn := HF.out.2.2.2 (by decide)
      subst hrn
      clear hkb
      have c_qr0 := LK.cell HQ.out.2.1 0
      have c_qr1 := LK.cell HQ.out.2.1 1
      have c_qr2 := LK.cell HQ.out.2.1 2
      have c_qr3 := LK.cell HQ.out.2.1 3
      have c_qr4 := LK.cell HQ.out.2.1 4
      have z_qr0 := LK.frozen HQ.out.2.1 0
      have z_qr1 := LK.frozen HQ.out.2.1 1
      have z_qr2 := LK.frozen HQ.out.2.1 2
      have z_qr3 := LK.frozen HQ.out.2.1 3
      have z_qr4 := LK.frozen HQ.out.2.1 4
      simp at c_qr0 c_qr1 c_qr2 c_qr3 c_qr4
      have hBf := HQ.out.2.2.2.2
      go_wp2
      refine bodyPost_ret (v := .tuple #[.agg #[.int .u32 0, .int .i64 0, .int .u32 0, .int .u32 0, .slice none 0 0], .int .i64 8]) (by simp [results, Try.results18, go_sem, c_qr0, c_qr1, c_qr2, c_qr3, c_qr4]) rfl ⟨_, rfl, ?_⟩
      exact ⟨⟨by decide, Sl.nil_ _ _ _⟩, below_five hBf _ _ _ _ _⟩
    have hneb : (bl == l) = true := by simp [hbq]
    have hnec : (bl != l) = false := by simp [hbq]
    have HBQ := Lib.hid hbq
    clear hbq
    refine wp_region_held_drew (S := Cls wr) (by kernel_rfl) (Cls.drew wr) (fun hCl => ?_)
    refine wpAnyH_seg (fuel := 10) (by kernel_rfl) (fun _ d _ _ _ h => by cases d <;> exact h) hCl [0] _ _ _ (by kernel_rfl) (by kernel_rfl) ?_
    simp only [opsOf_cons, opsOf_nil, consOp_some, List.getElem?_toArray, List.getElem?_cons_zero]
    repeat (first | go_big_quiet_step (fail) | quiet_step (fail))
    refine wpQuiet_nil ?_
    refine wpAnyH_each (fuel := 9) [1] (by kernel_rfl) (by simp) (by kernel_rfl) ?_
    refine Each.cons _ rfl (fun K' hK => ?_) Each.nil
    go_simp
    refine (KW.out.1 _ (HQ.out.2.2.2.1.step hCl.below).v).mono ?_
    rintro e z1 ⟨rfl, hb⟩
    have hst := below_step hCl.below hCl.below.size hb
    clear hb
    have hCl := Cls.of hst
    refine hK.out (Cls wr) (fun _ h => h) hCl ?_
    clear hK K'
    refine wpAnyH_seg (fuel := 4) (by kernel_rfl) (fun _ d _ _ _ h => by cases d <;> exact h) hCl [2, 3, 4, 7, 8] _ _ _ (by kernel_rfl) (by kernel_rfl) ?_
    simp only [opsOf_cons, opsOf_nil, consOp_some, List.getElem?_toArray, List.getElem?_cons_succ, List.getElem?_cons_zero]
    repeat (first | go_big_quiet_step (fail) | quiet_step (fail))
    refine wpQuiet_nil ?_
    refine wpAnyH_each (fuel := 3) [5] (by kernel_rfl) (by simp) (by kernel_rfl) ?_
    refine Each.cons _ rfl (fun K' hK => ?_) Each.nil
    go_simp
    refine (KW.out.2 _ (HQ.out.2.2.2.1.step hCl.below).v rfl).mono ?_
    rintro e z2 ⟨xb, rfl, hm⟩
    have hst := below_step hCl.below hCl.below.size hm.below
    obtain ⟨xa, xc, rfl, -, -⟩ := hm.bytes.form rfl
    clear x_qs0 x_qs1 x_qs2 x_qs3 x_qs4 x_v
    have x_v := fun X => cv_of ((HQ.out.2.2.1.step hst).step (aft_below z2 X)).v
    have x_b := fun X => cv_of (((LM.of hm).b).step (aft_below z2 X)).v
    clear hm
    refine hK.out (Cls z2) (Cls.sub hst) (Cls.refl z2) ?_
    have hCl := Cls.refl z2
    clear hK K'
    refine wpAnyH_seg (fuel := 0) (by kernel_rfl) (fun _ d _ _ _ h => by cases d <;> exact h) hCl [6, 9, 10] _ _ _ (by kernel_rfl) (by kernel_rfl) ?_
    simp only [opsOf_cons, opsOf_nil, consOp_some, List.getElem?_toArray, List.getElem?_cons_succ, List.getElem?_cons_zero]
    repeat (first | go_big_quiet_step (fail) | quiet_step (fail))
    refine wpQuiet_nil ?_
    refine wpAnyH_done (by kernel_rfl) ?_ _
    clear x_v x_b
    obtain ⟨qs, qr, hV0, S_i, hB⟩ := HQ.out
    clear HQ
    have sz_z2 : wr.heap.size ≤ z2.heap.size := hst.size
    replace qs := qs.step hst
    replace qr := qr.step hst
    replace hV0 := hV0.step hst
    replace S_i := S_i.step hst
    replace hB := hB.step hst
    clear hst
    have HQ := Lib.hid (And.intro qs (And.intro qr (And.intro hV0 (And.intro S_i hB))))
    clear qs qr hV0 S_i hB
    have hkb : okb = true := by
      rw [HF.out.1]
      simp [HBQ.out]
    have hen := HF.out.2.2.1
    rw [hkb] at hen
    simp only [if_true] at hen
    subst hen
    have hrn := HF.out.2.1 (by trivial)
    subst hrn
    clear hkb
    have c_qr0 := LK.cell HQ.out.2.1 0
    have c_qr1 := LK.cell HQ.out.2.1 1
    have c_qr2 := LK.cell HQ.out.2.1 2
    have c_qr3 := LK.cell HQ.out.2.1 3
    have c_qr4 := LK.cell HQ.out.2.1 4
    have z_qr0 := LK.frozen HQ.out.2.1 0
    have z_qr1 := LK.frozen HQ.out.2.1 1
    have z_qr2 := LK.frozen HQ.out.2.1 2
    have z_qr3 := LK.frozen HQ.out.2.1 3
    have z_qr4 := LK.frozen HQ.out.2.1 4
    have c_qs0 := LK.cell HQ.out.1 0
    have c_qs1 := LK.cell HQ.out.1 1
    have c_qs2 := LK.cell HQ.out.1 2
    have c_qs3 := LK.cell HQ.out.1 3
    have c_qs4 := LK.cell HQ.out.1 4
    simp at c_qr0 c_qr1 c_qr2 c_qr3 c_qr4 c_qs0 c_qs1 c_qs2 c_qs3 c_qs4
    have hBf := HQ.out.2.2.2.2
    have hS := HQ.out.2.2.2.1
    have hsd := Lib.hid (HR.out.2.2.2.2.2.2.2.2.1 its)
    go_wp2
    refine bodyPost_ret (v := .tuple #[.agg #[.int .u32 (n0 : Int), .int .i64 (n1 : Int), .int .u32 (n2 : Int), .int .u32 (n3 : Int), .slice ar its.length cr], .int .i64 0]) (by simp [results, Try.results18, go_sem, c_qr0, c_qr1, c_qr2, c_qr3, c_qr4]) rfl ⟨.slice ar its.length cr, by simp only [wV, toNat_u32 _ g0, toNat_u32 _ g6, toNat_u32 _ g10], ?_⟩
    have hk2 := five_other z2 w.heap.size (.int .u32 (n0 : Int)) (.int .i64 (n1 : Int)) (.int .u32 (n2 : Int)) (.int .u32 (n3 : Int)) (.slice ar its.length cr)
    have hsx : (((((z2.setCell ⟨w.heap.size, 0, none⟩ (.int .u32 (n0 : Int))).setCell ⟨w.heap.size, 1, none⟩ (.int .i64 (n1 : Int))).setCell ⟨w.heap.size, 2, none⟩ (.int .u32 (n2 : Int))).setCell ⟨w.heap.size, 3, none⟩ (.int .u32 (n3 : Int))).setCell ⟨w.heap.size, 4, none⟩ (.slice ar its.length cr)).heap.size = z2.heap.size := by simp only [World.size_setCell]
    refine ⟨⟨WalkArith.wf_i64 (by dsimp only; omega), ?_⟩, below_five hBf _ _ _ _ _⟩
    exact (hS.out (n0 := w.heap.size) (h0 := w.heap.size + 1) (Nat.le_of_eq hsx.symm) (fun x _ h => hk2 x (by omega)) (by omega)).v
end Go.Proofs.Ytcibihakjcenaaa

