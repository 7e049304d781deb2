/- RingFinds: the words and contracts, part 15. -/
import Derived.Test.YtcibihakjcenaaaRingFindsQ1
import Derived.Test.YtcibihakjcenaaaRingFindsQ2
import Derived.Test.YtcibihakjcenaaaRingFindsQ3
import Derived.Test.YtcibihakjcenaaaRingFindsQ4
import Derived.Test.YtcibihakjcenaaaRingFindsQ5
import Derived.Test.YtcibihakjcenaaaRingFindsQ6
import Derived.Test.YtcibihakjcenaaaRingFindsQ7
import Derived.Test.YtcibihakjcenaaaRingFindsQ8
import Derived.Test.YtcibihakjcenaaaRingFindsQ9
import Derived.Test.YtcibihakjcenaaaRingFindsQ10
import Derived.Test.YtcibihakjcenaaaRingFindsQ11
import Derived.Test.YtcibihakjcenaaaRingFindsQ12
import Derived.WalkKit
import Derived.WalkLawsBesides
import Derived.WalkSpells
import Derived.Lib.Hide
import Derived.Laws.Rows
import Derived.Laws.AppendOwnNone
import Derived.Maps.AppendAt
import Derived.ProofKit
import Derived.Deep.Slices
import Derived.WideShapes
import Derived.RangeFuncNested
import Derived.RangeFuncBound
import Derived.RangeFuncCalls
import Derived.RangeFuncLeaves
import Derived.RangeFuncBox
import Derived.Shelf.Abstract
import Derived.Shelf.RegionOpen
import Derived.OwnWalkIn
import Derived.TacticsInMore
import Derived.LoopNIn
import Derived.LoopIn
import Derived.Lib.AppendZerosOnto
import Derived.Lib.SliceRun
import Derived.Lib.Walk
import Derived.Deep.LoopGhost
import Derived.Laws.CopyOwn
import Derived.Laws.CopyRow
import Derived.OrdersHeld
import Derived.Deep.QuietTactic
import Derived.BigQuiet
import Derived.StillTailTactics
import Derived.OpenShut
import Derived.Deep.DeepCutAuto
import Derived.Deep.RegionHeld
import Derived.Laws.MakeOwn
import Derived.KernelRfl
import Derived.BigFrameIn
import Derived.ShutString
import Derived.ChangeOld
import Derived.Below
namespace Go.Proofs.Ytcibihakjcenaaa
open Go.RowKit

/-- What a call made: a superblock whose list lies in new memory, and may be written. -/
structure MadeU (w w' : World) (v : Value) (s : SupL) : Prop where
  sup : SupV w' w.heap.size w'.heap.size v s
  row : ∀ g o, v.ownBlock = some g → w'.frozen? ⟨g, o, none⟩ = false
  below : Below w.heap.size w w'
theorem MadeU.nil_ {w w' : World} (h : Below w.heap.size w w') : MadeU w w' (.slice none 0 0) noU := ⟨⟨by decide, Sl.nil_ _ _ _⟩, fun g o h => (by cases h), h⟩
theorem below_five {w W : World} {g : Nat} (h : Below g w W) (v0 v1 v2 v3 v4 : Value) : Below g w (((((W.setCell ⟨g, 0, none⟩ v0).setCell ⟨g, 1, none⟩ v1).setCell ⟨g, 2, none⟩ v2).setCell ⟨g, 3, none⟩ v3).setCell ⟨g, 4, none⟩ v4) :=
  ((((h.setCell (p := ⟨g, 0, none⟩) (Nat.le_refl _) _).setCell (p := ⟨g, 1, none⟩) (Nat.le_refl _) _).setCell (p := ⟨g, 2, none⟩) (Nat.le_refl _) _).setCell (p := ⟨g, 3, none⟩) (Nat.le_refl _) _).setCell (p := ⟨g, 4, none⟩) (Nat.le_refl _) _
theorem five_other (W : World) (g : Nat) (v0 v1 v2 v3 v4 : Value) (x : Nat) (hx : x ≠ g) : (((((W.setCell ⟨g, 0, none⟩ v0).setCell ⟨g, 1, none⟩ v1).setCell ⟨g, 2, none⟩ v2).setCell ⟨g, 3, none⟩ v3).setCell ⟨g, 4, none⟩ v4).heap[x]? = W.heap[x]? :=
  (set_other _ _ _ _ _ hx).trans ((set_other _ _ _ _ _ hx).trans ((set_other _ _ _ _ _ hx).trans ((set_other _ _ _ _ _ hx).trans (set_other _ _ _ _ _ hx))))
theorem deadR_none {b : List UInt8} {k : Nat} (h : deadR b k = none) : ∀ m, k ≤ m → deadR b m = none := by
  intro m hm
  induction m with
  | zero => obtain rfl : k = 0 := by omega
            exact h
  | succ m ih =>
    rcases Nat.lt_or_ge k (m + 1) with h1 | h1
    · rw [deadR, ih (by omega)]
    · obtain rfl : k = m + 1 := by omega
      exact h
theorem deadR_len {b : List UInt8} : ∀ {k : Nat} {l : List Int}, deadR b k = some l → l.length = k
  | 0, l, h => by cases h; rfl
  | k + 1, l, h => by
    rw [deadR] at h
    cases h0 : deadR b k with
    | none => rw [h0] at h; cases h
    | some t =>
      rw [h0] at h
      simp only at h
      split at h
      · cases h
        rw [List.length_append, deadR_len h0]
        rfl
      · cases h
theorem toNat_u32 (n : Nat) (h : n < 4294967296) : (UInt32.ofNat n).toNat = n := by rw [UInt32.toNat_ofNat']; omega
theorem row_int1 {lo : Nat} {S : Nat → Bool} {W : World} {v : Value} {y : Int} (hp : (Lit.int .i64 y).wf = true) (T2 : TypeId) :
    ∀ j x, [y][j]? = some x → (rInt .i64).R (hideW (W.alloc (.cells #[.int .i64 y] T2)) (andOwn S v)) lo (W.alloc (.cells #[.int .i64 y] T2)).heap.size x (fun i => [(Value.int .i64 y)][j * (rInt .i64).n + i]?) := by
  intro j x hj
  cases j with
  | zero => cases hj; exact ⟨rfl, hp⟩
  | succ j => simp at hj

set_option maxRecDepth 100000 in
set_option maxHeartbeats 4000000 in
/-- ring.Read. -/
theorem uread_any (v : Value) (l : List UInt8) (w : World) (hv : Bytes w 0 w.heap.size v l) :
    Calls Try.prog 17 #[v] w fun e w' => ∃ u, e = .returned (.tuple #[.agg #[wV (readU l).gen, .int .i64 (readU l).root, wV (readU l).next, wV (readU l).table, u], .int .i64 (errUr l)]) ∧ MadeU w w' u (readU l) := by
  have k1 := fun V hh => open_any v l V hh
  have hbad : errUr l ≠ 0 → readU l = noU := fun h => by unfold readU; rw [if_neg h]
  have hst := (Below.refl w.heap.size w).alloc (Nat.le_refl _) (.cells #[.int .u32 0, .int .i64 0, .int .u32 0, .int .u32 0, .slice none 0 0] 25)
  have qr := LK.new w (.cells #[.int .u32 0, .int .i64 0, .int .u32 0, .int .u32 0, .slice none 0 0] 25)
  have hB : LW w _ := hst
  have hV0 := (LB.of hv (Nat.le_refl _)).step hst
  have sz_V : w.heap.size < (w.alloc (.cells #[.int .u32 0, .int .i64 0, .int .u32 0, .int .u32 0, .slice none 0 0] 25)).heap.size := by simp
  obtain ⟨av, cv, rfl, g1, g2⟩ := hv.form rfl
  obtain ⟨V, hV⟩ : ∃ V, w.alloc (.cells #[.int .u32 0, .int .i64 0, .int .u32 0, .int .u32 0, .slice none 0 0] 25) = V := ⟨_, rfl⟩
  rw [hV] at hB hV0 qr sz_V
  have hen : openE l = 0 → errUr l = (if okU l then 0 else 8) := fun h => by unfold errUr; rw [if_pos h]
  have hen2 : openE l ≠ 0 → errUr l = openE l := fun h => by unfold errUr; rw [if_neg h]
  have hol : openE l = 0 → openL l = l.drop 4 ∧ l.length = 128 := fun h => by
    refine ⟨by unfold openL; rw [if_pos h], ?_⟩
    unfold openE at h
    by_cases hl : l.length = 128
    · exact hl
    · rw [if_neg hl] at h; cases h
  have hrd : errUr l = 0 → readU l = rawU (openL l) ((deadAll (openL l)).getD []) := fun h => by unfold readU; rw [if_pos h]
  have hok1 : deadAll (openL l) = none → okU l = false := fun h => by unfold okU; rw [h]
  have hok2 : ∀ d, deadAll (openL l) = some d → okU l = (mayU (rawU (openL l) d) && decide (blockU (rawU (openL l) d) = l)) := fun d h => by unfold okU; rw [h, Bool.eq_iff_iff]; simp
  have hra : deadAll (openL l) = deadR (openL l) ((openL l).getD 14 0).toNat := rfl
  generalize errUr l = en at *
  generalize readU l = rn at *
  generalize okU l = okb at *
  generalize deadAll (openL l) = da at *
  generalize openE l = eo at *
  generalize openL l = lo at *
  have HE := Lib.hid (And.intro hbad (And.intro hen (And.intro hen2 (And.intro hol (And.intro hrd (And.intro hok1 (And.intro hok2 hra)))))))
  have K1 := Lib.hid k1
  clear hbad hen hen2 hol hrd hok1 hok2 hra k1 hst hv
  have HQ := Lib.hid (And.intro qr (And.intro hV0 hB))
  clear qr hV0 hB
  go_enter Try.func17, Try.ntmps17
  go_upto_region 1 with (fail)
  clear hV
  go_wp2_with fail
  refine (K1.out _ HQ.out.2.1.v).mono ?_
  rintro e w1 ⟨ub, rfl, hm⟩
  obtain ⟨qr, hV0, hB⟩ := HQ.out
  clear HQ
  have hO := (LM.of hm).b
  have hst := hm.below
  clear hm
  have sz_w1 : V.heap.size ≤ w1.heap.size := hst.size
  replace qr := qr.step hst
  replace hV0 := hV0.step hst
  replace hB := hB.step hst
  clear hst
  have HQ := Lib.hid (And.intro qr (And.intro hV0 (And.intro hO hB)))
  clear qr hV0 hO hB
  by_cases he : eo = 0
  case neg =>
    have hee := HE.out.2.2.1 he
    have hrn := HE.out.1 (by rw [hee]; exact he)
    subst hee
    subst hrn
    have i1 : (en != 0) = true := by simp [he]
    have c_qr0 := LK.cell HQ.out.1 0
    have c_qr1 := LK.cell HQ.out.1 1
    have c_qr2 := LK.cell HQ.out.1 2
    have c_qr3 := LK.cell HQ.out.1 3
    have c_qr4 := LK.cell HQ.out.1 4
    have z_qr0 := LK.frozen HQ.out.1 0
    have z_qr1 := LK.frozen HQ.out.1 1
    have z_qr2 := LK.frozen HQ.out.1 2
    have z_qr3 := LK.frozen HQ.out.1 3
    have z_qr4 := LK.frozen HQ.out.1 4
    simp at c_qr0 c_qr1 c_qr2 c_qr3 c_qr4
    have hBf := HQ.out.2.2.2
    obtain ⟨au, cu2, rfl, -, -⟩ := (HQ.out.2.2.1.v).form rfl
    go_wp2
    refine bodyPost_ret (v := .tuple #[.agg #[.int .u32 0, .int .i64 0, .int .u32 0, .int .u32 0, .slice none 0 0], .int .i64 en]) (by simp [results, Try.results17, go_sem, c_qr0, c_qr1, c_qr2, c_qr3, c_qr4]) rfl ⟨_, rfl, ?_⟩
    exact MadeU.nil_ (below_five hBf _ _ _ _ _)
  subst he
  obtain ⟨hlo, hl128⟩ := HE.out.2.2.2.1 rfl
  have hlol : lo.length = 124 := by rw [hlo]; simp; omega
  have hen := HE.out.2.1 rfl
  obtain ⟨bb, bo, cb, rfl, -, zb, zc1, zc2, hcell⟩ := HQ.out.2.2.1.v.at_n hlol (by omega)
  have e14 : lo[14]? = some (lo.getD 14 0) := by simp [hlol]
  obtain ⟨x, hx⟩ : ∃ x, lo.getD 14 0 = x := ⟨_, rfl⟩
  rw [hx] at e14
  have hra := HE.out.2.2.2.2.2.2.2
  rw [hx] at hra
  have bx : (x.toNat : Int) < 256 := by have := x.toNat_lt; omega
  have hw4 := fun k => getN_lt lo k 4
  have hw2 := fun k => getN_lt lo k 2
  simp only [Nat.reducePow] at hw4 hw2
  have hsup : ∀ d, rawU lo d = ⟨UInt32.ofNat (getN lo 0 4), (getN lo 4 2 : Int), UInt32.ofNat (getN lo 6 4), UInt32.ofNat (getN lo 10 4), d⟩ := fun d => rfl
  have kw := fun d u V hh => uwrite_any (rawU lo d) u V hh
  simp only [SupV, hsup, wV] at kw
  have g0 := hw4 0
  have g4 := hw2 4
  have g6 := hw4 6
  have g10 := hw4 10
  simp only [toNat_u32 _ g0, toNat_u32 _ g6, toNat_u32 _ g10] at kw
  have kg0 := fun V hh => getFour_any (.slice (some ⟨bb, bo, none⟩) 124 cb) lo 0 V hh
  have kg4 := fun V hh => getTwo_any (.slice (some ⟨bb, bo, none⟩) 124 cb) lo 4 V hh
  have kg6 := fun V hh => getFour_any (.slice (some ⟨bb, bo, none⟩) 124 cb) lo 6 V hh
  have kg10 := fun V hh => getFour_any (.slice (some ⟨bb, bo, none⟩) 124 cb) lo 10 V hh
  have kgd := fun V (j : Nat) hh => getTwo_any (.slice (some ⟨bb, bo, none⟩) 124 cb) lo (15 + 2 * (j : Int)) V hh
  generalize getN lo 0 4 = n0 at *
  generalize getN lo 4 2 = n1 at *
  generalize getN lo 6 4 = n2 at *
  generalize getN lo 10 4 = n3 at *
  have HR := Lib.hid (And.intro hra (And.intro hen (And.intro e14 (And.intro hw2 (And.intro HE.out.1 (And.intro HE.out.2.2.2.2.1 (And.intro HE.out.2.2.2.2.2.1 (And.intro HE.out.2.2.2.2.2.2.1 (And.intro hsup hl128)))))))))
  clear hra hen e14 hw2 hw4 hsup hlo hl128 hlol hcell hx HE g1
  unfold maxLen at zc2
  have HC := Lib.hid (And.intro kg0 (And.intro kg4 (And.intro kg6 (And.intro kg10 (And.intro kgd kw)))))
  clear kg0 kg4 kg6 kg10 kgd kw
  go_wp2_with fail
  refine (HC.out.1 _ HQ.out.2.2.1.v).mono ?_
  rintro e w2 ⟨rfl, hst⟩
  obtain ⟨qr, hV0, hO, hB⟩ := HQ.out
  clear HQ
  have sz_w2 : w1.heap.size ≤ w2.heap.size := hst.size
  replace qr := qr.step hst
  replace hV0 := hV0.step hst
  replace hO := hO.step hst
  replace hB := hB.step hst
  clear hst
  have HQ := Lib.hid (And.intro qr (And.intro hV0 (And.intro hO hB)))
  clear qr hV0 hO hB
  have c_qr0 := LK.cell HQ.out.1 0
  have c_qr1 := LK.cell HQ.out.1 1
  have c_qr2 := LK.cell HQ.out.1 2
  have c_qr3 := LK.cell HQ.out.1 3
  have c_qr4 := LK.cell HQ.out.1 4
  have z_qr0 := LK.frozen HQ.out.1 0
  have z_qr1 := LK.frozen HQ.out.1 1
  have z_qr2 := LK.frozen HQ.out.1 2
  have z_qr3 := LK.frozen HQ.out.1 3
  have z_qr4 := LK.frozen HQ.out.1 4
  simp at c_qr0 c_qr1 c_qr2 c_qr3 c_qr4
  go_upto_region 5 with (fail)
  clear z_qr0 z_qr1 z_qr2 z_qr3 z_qr4 c_qr0 c_qr1 c_qr2 c_qr3 c_qr4
  obtain ⟨qr, hV0, hO, hB⟩ := HQ.out
  clear HQ
  have hcb := LK.blk qr
  have hF : LK (w.heap.size) (.cells #[.int .u32 (n0 : Int), .int .i64 0, .int .u32 0, .int .u32 0, .slice none 0 0] 25) (w2.setCell ⟨w.heap.size, 0, none⟩ (.int .u32 (n0 : Int))) := LK.of (set_block hcb 0 _)
  have hbel : Below (w.heap.size) w2 (w2.setCell ⟨w.heap.size, 0, none⟩ (.int .u32 (n0 : Int))) := (Below.refl _ w2).setCell (p := ⟨w.heap.size, 0, none⟩) (Nat.le_refl _) _
  have hfr : ∀ x, x < w2.heap.size → (x < w.heap.size ∨ w.heap.size + 1 ≤ x) → (w2.setCell ⟨w.heap.size, 0, none⟩ (.int .u32 (n0 : Int))).heap[x]? = w2.heap[x]? := fun x _ h => (set_other _ _ _ _ _ (by omega))
  have hs4 : (w2.setCell ⟨w.heap.size, 0, none⟩ (.int .u32 (n0 : Int))).heap.size = w2.heap.size := by simp only [World.size_setCell]
  replace hV0 := hV0.out (Nat.le_of_eq hs4.symm) hfr (by omega)
  replace hO := hO.out (Nat.le_of_eq hs4.symm) hfr (by omega)
  replace hB := hB.outB hbel (by omega)
  replace qr := hF
  obtain ⟨w3, hw⟩ : ∃ v, (w2.setCell ⟨w.heap.size, 0, none⟩ (.int .u32 (n0 : Int))) = v := ⟨_, rfl⟩
  rw [hw] at hs4 qr hV0 hO hB ⊢
  have sz_w3 := Nat.le_of_eq hs4
  have sy_w3 := Nat.le_of_eq hs4.symm
  clear hw hF hbel hfr hcb hs4
  have HQ := Lib.hid (And.intro qr (And.intro hV0 (And.intro hO hB)))
  clear qr hV0 hO hB
  have c_qr0 := LK.cell HQ.out.1 0
  have c_qr1 := LK.cell HQ.out.1 1
  have c_qr2 := LK.cell HQ.out.1 2
  have c_qr3 := LK.cell HQ.out.1 3
  have c_qr4 := LK.cell HQ.out.1 4
  simp at c_qr0 c_qr1 c_qr2 c_qr3 c_qr4
  clear c_qr0 c_qr1 c_qr2 c_qr3 c_qr4
  go_wp2_with fail
  refine (HC.out.2.1 _ HQ.out.2.2.1.v).mono ?_
  rintro e w4 ⟨rfl, hst⟩
  obtain ⟨qr, hV0, hO, hB⟩ := HQ.out
  clear HQ
  have sz_w4 : w3.heap.size ≤ w4.heap.size := hst.size
  replace qr := qr.step hst
  replace hV0 := hV0.step hst
  replace hO := hO.step hst
  replace hB := hB.step hst
  clear hst
  have HQ := Lib.hid (And.intro qr (And.intro hV0 (And.intro hO hB)))
  clear qr hV0 hO hB
  have c_qr0 := LK.cell HQ.out.1 0
  have c_qr1 := LK.cell HQ.out.1 1
  have c_qr2 := LK.cell HQ.out.1 2
  have c_qr3 := LK.cell HQ.out.1 3
  have c_qr4 := LK.cell HQ.out.1 4
  have z_qr0 := LK.frozen HQ.out.1 0
  have z_qr1 := LK.frozen HQ.out.1 1
  have z_qr2 := LK.frozen HQ.out.1 2
  have z_qr3 := LK.frozen HQ.out.1 3
  have z_qr4 := LK.frozen HQ.out.1 4
  simp at c_qr0 c_qr1 c_qr2 c_qr3 c_qr4
  go_upto_region 6 with (fail)
  clear z_qr0 z_qr1 z_qr2 z_qr3 z_qr4 c_qr0 c_qr1 c_qr2 c_qr3 c_qr4
  obtain ⟨qr, hV0, hO, hB⟩ := HQ.out
  clear HQ
  have hcb := LK.blk qr
  have hF : LK (w.heap.size) (.cells #[.int .u32 (n0 : Int), .int .i64 (n1 : Int), .int .u32 0, .int .u32 0, .slice none 0 0] 25) (w4.setCell ⟨w.heap.size, 1, none⟩ (.int .i64 (n1 : Int))) := LK.of (set_block hcb 1 _)
  have hbel : Below (w.heap.size) w4 (w4.setCell ⟨w.heap.size, 1, none⟩ (.int .i64 (n1 : Int))) := (Below.refl _ w4).setCell (p := ⟨w.heap.size, 1, none⟩) (Nat.le_refl _) _
  have hfr : ∀ x, x < w4.heap.size → (x < w.heap.size ∨ w.heap.size + 1 ≤ x) → (w4.setCell ⟨w.heap.size, 1, none⟩ (.int .i64 (n1 : Int))).heap[x]? = w4.heap[x]? := fun x _ h => (set_other _ _ _ _ _ (by omega))
  have hs4 : (w4.setCell ⟨w.heap.size, 1, none⟩ (.int .i64 (n1 : Int))).heap.size = w4.heap.size := by simp only [World.size_setCell]
  replace hV0 := hV0.out (Nat.le_of_eq hs4.symm) hfr (by omega)
  replace hO := hO.out (Nat.le_of_eq hs4.symm) hfr (by omega)
  replace hB := hB.outB hbel (by omega)
  replace qr := hF
  obtain ⟨w5, hw⟩ : ∃ v, (w4.setCell ⟨w.heap.size, 1, none⟩ (.int .i64 (n1 : Int))) = v := ⟨_, rfl⟩
  rw [hw] at hs4 qr hV0 hO hB ⊢
  have sz_w5 := Nat.le_of_eq hs4
  have sy_w5 := Nat.le_of_eq hs4.symm
  clear hw hF hbel hfr hcb hs4
  have HQ := Lib.hid (And.intro qr (And.intro hV0 (And.intro hO hB)))
  clear qr hV0 hO hB
  have c_qr0 := LK.cell HQ.out.1 0
  have c_qr1 := LK.cell HQ.out.1 1
  have c_qr2 := LK.cell HQ.out.1 2
  have c_qr3 := LK.cell HQ.out.1 3
  have c_qr4 := LK.cell HQ.out.1 4
  simp at c_qr0 c_qr1 c_qr2 c_qr3 c_qr4
  clear c_qr0 c_qr1 c_qr2 c_qr3 c_qr4
  go_wp2_with fail
  refine (HC.out.2.2.1 _ HQ.out.2.2.1.v).mono ?_
  rintro e w6 ⟨rfl, hst⟩
  obtain ⟨qr, hV0, hO, hB⟩ := HQ.out
  clear HQ
  have sz_w6 : w5.heap.size ≤ w6.heap.size := hst.size
  replace qr := qr.step hst
  replace hV0 := hV0.step hst
  replace hO := hO.step hst
  replace hB := hB.step hst
  clear hst
  have HQ := Lib.hid (And.intro qr (And.intro hV0 (And.intro hO hB)))
  clear qr hV0 hO hB
  have c_qr0 := LK.cell HQ.out.1 0
  have c_qr1 := LK.cell HQ.out.1 1
  have c_qr2 := LK.cell HQ.out.1 2
  have c_qr3 := LK.cell HQ.out.1 3
  have c_qr4 := LK.cell HQ.out.1 4
  have z_qr0 := LK.frozen HQ.out.1 0
  have z_qr1 := LK.frozen HQ.out.1 1
  have z_qr2 := LK.frozen HQ.out.1 2
  have z_qr3 := LK.frozen HQ.out.1 3
  have z_qr4 := LK.frozen HQ.out.1 4
  simp at c_qr0 c_qr1 c_qr2 c_qr3 c_qr4
  go_upto_region 7 with (fail)
  clear z_qr0 z_qr1 z_qr2 z_qr3 z_qr4 c_qr0 c_qr1 c_qr2 c_qr3 c_qr4
  obtain ⟨qr, hV0, hO, hB⟩ := HQ.out
  clear HQ
  have hcb := LK.blk qr
  have hF : LK (w.heap.size) (.cells #[.int .u32 (n0 : Int), .int .i64 (n1 : Int), .int .u32 (n2 : Int), .int .u32 0, .slice none 0 0] 25) (w6.setCell ⟨w.heap.size, 2, none⟩ (.int .u32 (n2 : Int))) := LK.of (set_block hcb 2 _)
  have hbel : Below (w.heap.size) w6 (w6.setCell ⟨w.heap.size, 2, none⟩ (.int .u32 (n2 : Int))) := (Below.refl _ w6).setCell (p := ⟨w.heap.size, 2, none⟩) (Nat.le_refl _) _
  have hfr : ∀ x, x < w6.heap.size → (x < w.heap.size ∨ w.heap.size + 1 ≤ x) → (w6.setCell ⟨w.heap.size, 2, none⟩ (.int .u32 (n2 : Int))).heap[x]? = w6.heap[x]? := fun x _ h => (set_other _ _ _ _ _ (by omega))
  have hs4 : (w6.setCell ⟨w.heap.size, 2, none⟩ (.int .u32 (n2 : Int))).heap.size = w6.heap.size := by simp only [World.size_setCell]
  replace hV0 := hV0.out (Nat.le_of_eq hs4.symm) hfr (by omega)
  replace hO := hO.out (Nat.le_of_eq hs4.symm) hfr (by omega)
  replace hB := hB.outB hbel (by omega)
  replace qr := hF
  obtain ⟨w7, hw⟩ : ∃ v, (w6.setCell ⟨w.heap.size, 2, none⟩ (.int .u32 (n2 : Int))) = v := ⟨_, rfl⟩
  rw [hw] at hs4 qr hV0 hO hB ⊢
  have sz_w7 := Nat.le_of_eq hs4
  have sy_w7 := Nat.le_of_eq hs4.symm
  clear hw hF hbel hfr hcb hs4
  have HQ := Lib.hid (And.intro qr (And.intro hV0 (And.intro hO hB)))
  clear qr hV0 hO hB
  have c_qr0 := LK.cell HQ.out.1 0
  have c_qr1 := LK.cell HQ.out.1 1
  have c_qr2 := LK.cell HQ.out.1 2
  have c_qr3 := LK.cell HQ.out.1 3
  have c_qr4 := LK.cell HQ.out.1 4
  simp at c_qr0 c_qr1 c_qr2 c_qr3 c_qr4
  clear c_qr0 c_qr1 c_qr2 c_qr3 c_qr4
  go_wp2_with fail
  refine (HC.out.2.2.2.1 _ HQ.out.2.2.1.v).mono ?_
  rintro e w8 ⟨rfl, hst⟩
  obtain ⟨qr, hV0, hO, hB⟩ := HQ.out
  clear HQ
  have sz_w8 : w7.heap.size ≤ w8.heap.size := hst.size
  replace qr := qr.step hst
  replace hV0 := hV0.step hst
  replace hO := hO.step hst
  replace hB := hB.step hst
  clear hst
  have HQ := Lib.hid (And.intro qr (And.intro hV0 (And.intro hO hB)))
  clear qr hV0 hO hB
  have c_qr0 := LK.cell HQ.out.1 0
  have c_qr1 := LK.cell HQ.out.1 1
  have c_qr2 := LK.cell HQ.out.1 2
  have c_qr3 := LK.cell HQ.out.1 3
  have c_qr4 := LK.cell HQ.out.1 4
  have z_qr0 := LK.frozen HQ.out.1 0
  have z_qr1 := LK.frozen HQ.out.1 1
  have z_qr2 := LK.frozen HQ.out.1 2
  have z_qr3 := LK.frozen HQ.out.1 3
  have z_qr4 := LK.frozen HQ.out.1 4
  simp at c_qr0 c_qr1 c_qr2 c_qr3 c_qr4
  go_upto_region 8 with (fail)
  clear z_qr0 z_qr1 z_qr2 z_qr3 z_qr4 c_qr0 c_qr1 c_qr2 c_qr3 c_qr4
  obtain ⟨qr, hV0, hO, hB⟩ := HQ.out
  clear HQ
  have hcb := LK.blk qr
  have hF : LK (w.heap.size) (.cells #[.int .u32 (n0 : Int), .int .i64 (n1 : Int), .int .u32 (n2 : Int), .int .u32 (n3 : Int), .slice none 0 0] 25) (w8.setCell ⟨w.heap.size, 3, none⟩ (.int .u32 (n3 : Int))) := LK.of (set_block hcb 3 _)
  have hbel : Below (w.heap.size) w8 (w8.setCell ⟨w.heap.size, 3, none⟩ (.int .u32 (n3 : Int))) := (Below.refl _ w8).setCell (p := ⟨w.heap.size, 3, none⟩) (Nat.le_refl _) _
  have hfr : ∀ x, x < w8.heap.size → (x < w.heap.size ∨ w.heap.size + 1 ≤ x) → (w8.setCell ⟨w.heap.size, 3, none⟩ (.int .u32 (n3 : Int))).heap[x]? = w8.heap[x]? := fun x _ h => (set_other _ _ _ _ _ (by omega))
  have hs4 : (w8.setCell ⟨w.heap.size, 3, none⟩ (.int .u32 (n3 : Int))).heap.size = w8.heap.size := by simp only [World.size_setCell]
  replace hV0 := hV0.out (Nat.le_of_eq hs4.symm) hfr (by omega)
  replace hO := hO.out (Nat.le_of_eq hs4.symm) hfr (by omega)
  replace hB := hB.outB hbel (by omega)
  replace qr := hF
  obtain ⟨w9, hw⟩ : ∃ v, (w8.setCell ⟨w.heap.size, 3, none⟩ (.int .u32 (n3 : Int))) = v := ⟨_, rfl⟩
  rw [hw] at hs4 qr hV0 hO hB ⊢
  have sz_w9 := Nat.le_of_eq hs4
  have sy_w9 := Nat.le_of_eq hs4.symm
  clear hw hF hbel hfr hcb hs4
  have HQ := Lib.hid (And.intro qr (And.intro hV0 (And.intro hO hB)))
  clear qr hV0 hO hB
  have c_qr0 := LK.cell HQ.out.1 0
  have c_qr1 := LK.cell HQ.out.1 1
  have c_qr2 := LK.cell HQ.out.1 2
  have c_qr3 := LK.cell HQ.out.1 3
  have c_qr4 := LK.cell HQ.out.1 4
  simp at c_qr0 c_qr1 c_qr2 c_qr3 c_qr4
  clear c_qr0 c_qr1 c_qr2 c_qr3 c_qr4
  have d14 := Bytes.cellAt HQ.out.2.2.1.v 14 x HR.out.2.2.1
  simp only [bV] at d14
  have hqr := HQ.out.1
  have hh0 := HQ.out.2.2.1
  have szW := LK.lt hqr
  have HW := Lib.hid (And.intro hqr (And.intro hh0 (And.intro HQ.out.2.2.2 HQ.out.2.1)))
  clear hqr hh0 HQ
  go_wp2_with fail
  go_loopw [47] (fun i wr => ∃ (j : Nat) (its : List Int) (ar : Option Addr) (cr : Nat), j ≤ x.toNat ∧ i = .int .i64 j ∧ deadR lo j = some its ∧ wr.heap[w.heap.size]? = some (.cells #[.int .u32 (n0 : Int), .int .i64 (n1 : Int), .int .u32 (n2 : Int), .int .u32 (n3 : Int), .slice ar its.length cr] 25 (0, 0)) ∧ OwnR (rInt .i64) w9.heap.size 3 w9.heap.size (boxS w.heap.size 1) wr (.slice ar its.length cr) its ∧ (∀ k, k < w9.heap.size → k ≠ w.heap.size → wr.heap[k]? = w9.heap[k]?) ∧ w9.heap.size ≤ wr.heap.size ∧ Below w.heap.size w9 wr) (fun i _ => x.toNat - (intOf i).toNat)
  case atStart => exact ⟨0, [], none, 0, Nat.zero_le _, rfl, rfl, HW.out.1.blk, OwnR.nil_ _ _ _ _ _ _, fun _ _ _ => rfl, Nat.le_refl _, Below.refl _ _⟩
  case round =>
  obtain ⟨j, its, ar, cr, hj, rfl, hdr, qbox, hown, hsame, hsz, hBr⟩ := hrel
  have hO := (HW.out.2.1.out (n0 := w.heap.size) (h0 := w.heap.size + 1) hsz (fun x h1 h2 => hsame x h1 (by omega)) (by omega))
  have hB := below_step HW.out.2.2.1 (Below.size HW.out.2.2.1) ((Below.refl w9.heap.size w9))
  have hBw : Below w.heap.size w wr := Below.trans HW.out.2.2.1 hBr
  have hln := deadR_len hdr
  by_cases hlt : j < x.toNat
  · obtain ⟨ej, hej⟩ : ∃ z, getE lo (15 + 2 * (j : Int)) 2 = z := ⟨_, rfl⟩
    obtain ⟨nj, hnj⟩ : ∃ z, getN lo (15 + 2 * (j : Int)) 2 = z := ⟨_, rfl⟩
    have hnlt : nj < 65536 := hnj ▸ HR.out.2.2.2.1 (15 + 2 * (j : Int))
    have kd := HC.out.2.2.2.2.1 wr j hO.v
    rw [hej, hnj] at kd
    have hno : ej ≠ 0 → deadR lo (j + 1) = none := fun h => by rw [deadR, hdr]; dsimp only; rw [hej, if_neg h]
    have hyes : ej = 0 → deadR lo (j + 1) = some (its ++ [(nj : Int)]) := fun h => by rw [deadR, hdr]; dsimp only; rw [hej, if_pos h, hnj]
    have HP := Lib.hid (And.intro hno (And.intro hyes (And.intro hown (And.intro hsame (And.intro hsz (And.intro hBr (And.intro hBw qbox)))))))
    have KD := Lib.hid kd
    have HLN := Lib.hid hln
    clear hno hyes hown hsame hsz hBr hBw qbox kd hdr hej hnj hO hB hln
    have r1 : (2 : Int) * j < 600 := by omega
    go_wp2_with fail
    refine KD.out.mono ?_
    rintro e z ⟨rfl, hst⟩
    clear d14
    have szr := HP.out.2.2.2.2.1
    have szz := hst.size
    have qz := (hst.block w.heap.size (by omega)).trans HP.out.2.2.2.2.2.2.2
    have hBz := below_step HP.out.2.2.2.2.2.2.1 (by omega) hst
    have c_qr0 := blk_cell qz 0
    have c_qr1 := blk_cell qz 1
    have c_qr2 := blk_cell qz 2
    have c_qr3 := blk_cell qz 3
    have c_qr4 := blk_cell qz 4
    simp at c_qr0 c_qr1 c_qr2 c_qr3 c_qr4
    have z_qr0 := blk_frozen qz 0
    have z_qr1 := blk_frozen qz 1
    have z_qr2 := blk_frozen qz 2
    have z_qr3 := blk_frozen qz 3
    have z_qr4 := blk_frozen qz 4
    have HZ := Lib.hid (And.intro hst (And.intro qz hBz))
    clear hst
    by_cases he : ej = 0
    case neg =>
      have hkb : okb = false := HR.out.2.2.2.2.2.2.1 (by rw [HR.out.1]; exact deadR_none (HP.out.1 he) _ (by omega))
      have hen := HR.out.2.1
      rw [hkb] at hen
      simp only [Bool.false_eq_true, if_false] at hen
      subst hen
      have hrn := HR.out.2.2.2.2.1 (by decide)
      subst hrn
      clear hkb
      have hBf := hBz
      have i1 : (ej != 0) = true := by simp [he]
      clear qz hBz
      go_wp2
      refine bodyPost_ret (v := .tuple #[.agg #[.int .u32 0, .int .i64 0, .int .u32 0, .int .u32 0, .slice none 0 0], .int .i64 8]) (by simp [results, Try.results17, go_sem, c_qr0, c_qr1, c_qr2, c_qr3, c_qr4]) rfl ⟨_, rfl, ?_⟩
      exact MadeU.nil_ (below_five hBf _ _ _ _ _)
    subst he
    clear qz hBz
    clear c_qr0 z_qr0
    clear c_qr1 z_qr1
    clear c_qr2 z_qr2
    clear c_qr3 z_qr3
    go_wp2_with (at_builtin; obtain ⟨hra, hrb⟩ : OwnR (rInt .i64) w9.heap.size 3 w9.heap.size (boxS w.heap.size 1) (z.alloc (.cells #[.int .i64 (nj : Int)] 3)) (.slice ar its.length cr) its ∧ True := ⟨(HP.out.2.2.1.step (rInt_ck .i64) HZ.out.1).alloc (rInt_ck .i64) _, trivial⟩; refine wpList_appR (rInt_ck .i64) rfl (.tmp 62) (.tmp 64) 23 rfl 3 (.int .i64 0) 8 Try.underlying23 (by kernel_rfl) rfl (by decide) w9.heap.size w9.heap.size (boxS w.heap.size 1) (.slice ar its.length cr) its [(nj : Int)] rfl hra (fun q hq => boxS_no (by rw [World.size_alloc] at hq; omega)) ⟨z.heap.size, 0, none⟩ 1 [.int .i64 (nj : Int)] rfl rfl (news_one #[.int .i64 (nj : Int)] 3) (by intro u hu; simp at hu; subst hu; rfl) (row_int1 (WalkArith.wf_i64 (by omega)) 3) (by have := HLN.out; show its.length + 1 ≤ 1000000; omega) (by decide) (by show w9.heap.size ≤ (z.alloc _).heap.size; rw [World.size_alloc]; omega) ?_; intro a4 c4 z4 hown4 hB4 hf4; clear hra hrb; rw [show (its ++ [(nj : Int)]).length = its.length + 1 by simp] at hown4 ⊢; have hl1 : w.heap.size < (z.alloc (.cells #[.int .i64 (nj : Int)] 3)).heap.size := (by rw [World.size_alloc]; omega); have hrl := HP.out.2.2.1.lt; have k5 := (hf4 w.heap.size hl1 (fun e => by have := (hrl _ e).1; omega)).trans ((Below.heap_alloc z _ w.heap.size (by omega)).trans HZ.out.2.1); clear c_qr4 z_qr4; have j4 := blk_cell k5 4; have jf := blk_frozen k5 4; simp at j4; have HO := Lib.hid (And.intro hown4 (And.intro hB4 (And.intro k5 (And.intro hf4 hrl)))); clear hown4 hB4 k5 hf4 hrl hl1)
    go_roundw
    case rel =>
      obtain ⟨hown4, hB4, k5, hf4, hrl⟩ := HO.out
      have hls : (its ++ [(nj : Int)]).length = its.length + 1 := by simp
      have hBa : Below w.heap.size wr (z.alloc (.cells #[.int .i64 (nj : Int)] 3)) := (HZ.out.1.mono (by omega)).alloc (by omega) _
      have hBn : Below w.heap.size wr (z4.setCell ⟨w.heap.size, 4, none⟩ (.slice a4 (its.length + 1) c4)) := (hBa.trans (hB4.mono (by omega))).setCell (p := ⟨w.heap.size, 4, none⟩) (Nat.le_refl _) _
      refine ⟨j + 1, its ++ [(nj : Int)], a4, c4, by omega, by go_num, HP.out.2.1 (by trivial), ?_, ?_, ?_, ?_, HP.out.2.2.2.2.2.1.trans hBn⟩
      · rw [hls]
        exact set_block k5 4 _
      · rw [hls]
        exact hown4.setS (rInt_ck .i64) ⟨w.heap.size, 4, none⟩ _ (boxS_yes (Nat.le_refl _) (by show w.heap.size < w.heap.size + 1; omega))
      · intro k hk hne
        refine (set_other z4 _ _ _ _ hne).trans ((hf4 k (by rw [World.size_alloc]; omega) (fun e => by have := (hrl _ e).1; omega)).trans ((Below.heap_alloc z _ k (by omega)).trans ((HZ.out.1.block k (by omega)).trans (HP.out.2.2.2.1 k hk hne))))
      · rw [World.size_setCell]
        have := hB4.size
        rw [World.size_alloc] at this
        omega
    case measure => simp [intOf]; omega
  obtain rfl : j = x.toNat := by omega
  have hda := HR.out.1.trans hdr
  have hsl := hown.sl (rInt_ck .i64) (lo' := w9.heap.size) (Nat.le_refl _) (Nat.le_refl _)
  have hthw := fun g o hg => And.intro (hown.thaw g o hg) (hown.lt g hg).2
  have hkb := HR.out.2.2.2.2.2.2.2.1 its hda
  have hen := HR.out.2.1
  have hr0 := HR.out.2.2.2.2.1
  have hrn1 := fun h => HR.out.2.2.2.2.2.1 h
  rw [hda] at hrn1
  simp only [Option.getD_some] at hrn1
  have hln2 : its.length ≤ 255 := by have := x.toNat_lt; omega
  have k_w := HC.out.2.2.2.2.2 its (.slice ar its.length cr) wr ⟨WalkArith.wf_i64 (by omega), hsl.all0⟩
  rw [HR.out.2.2.2.2.2.2.2.2.1 its] at hkb hrn1
  obtain ⟨mb, hmb⟩ : ∃ z, mayU ⟨UInt32.ofNat n0, (n1 : Int), UInt32.ofNat n2, UInt32.ofNat n3, its⟩ = z := ⟨_, rfl⟩
  have hew : errUw ⟨UInt32.ofNat n0, (n1 : Int), UInt32.ofNat n2, UInt32.ofNat n3, its⟩ = if mb then 0 else 8 := by unfold errUw; rw [hmb]
  obtain ⟨bl, hbl⟩ : ∃ z, blockU ⟨UInt32.ofNat n0, (n1 : Int), UInt32.ofNat n2, UInt32.ofNat n3, its⟩ = z := ⟨_, rfl⟩
  rw [hew, hbl] at k_w
  rw [hmb, hbl] at hkb
  have hV := HR.out.2.2.2.2.2.2.2.2.2
  have hB0 := Below.refl wr.heap.size wr
  have hvr := (HW.out.2.2.2.out (n0 := w.heap.size) (h0 := w.heap.size + 1) hsz (fun x h1 h2 => hsame x h1 (by omega)) (by omega)).v
  have qbox2 := LK.of qbox
  have c_qr0 := LK.cell qbox2 0
  have c_qr1 := LK.cell qbox2 1
  have c_qr2 := LK.cell qbox2 2
  have c_qr3 := LK.cell qbox2 3
  have c_qr4 := LK.cell qbox2 4
  simp at c_qr0 c_qr1 c_qr2 c_qr3 c_qr4
  have HF := Lib.hid (And.intro k_w (And.intro hkb (And.intro hrn1 (And.intro hsl (And.intro hthw (And.intro qbox2 (And.intro hBw (And.intro hen (And.intro hr0 (And.intro hsame (And.intro hsz hvr)))))))))))
  clear hln k_w hkb hrn1 hsl hthw qbox qbox2 hBw hen hr0 hsame hsz hBr hB hO hown hda hdr hew hmb hbl hvr hB0 hV d14
  go_wp2_with fail
  refine HF.out.1.mono ?_
  rintro e w7 ⟨xb, rfl, hm⟩
  clear c_qr0 c_qr1 c_qr2 c_qr3 c_qr4
  have hst := hm.below
  have hbb := hm.bytes.all0
  have qb := HF.out.2.2.2.2.2.1.step hst
  have hBf := below_step HF.out.2.2.2.2.2.2.1 (by have := HF.out.2.2.2.2.2.2.2.2.2.2.1; omega) hst
  have sz7 := hst.size
  have c_qr0 := LK.cell qb 0
  have c_qr1 := LK.cell qb 1
  have c_qr2 := LK.cell qb 2
  have c_qr3 := LK.cell qb 3
  have c_qr4 := LK.cell qb 4
  simp at c_qr0 c_qr1 c_qr2 c_qr3 c_qr4
  have z_qr0 := LK.frozen qb 0
  have z_qr1 := LK.frozen qb 1
  have z_qr2 := LK.frozen qb 2
  have z_qr3 := LK.frozen qb 3
  have z_qr4 := LK.frozen qb 4
  have HQ7 := Lib.hid (And.intro hst (And.intro hbb qb))
  clear hst hbb qb hm
  cases mb
  case false =>
    have hkb : okb = false := by
      rw [HF.out.2.1]
      rfl
    have hen := HF.out.2.2.2.2.2.2.2.1
    rw [hkb] at hen
    simp only [Bool.false_eq_true, if_false] at hen
    subst hen
    have hrn := HF.out.2.2.2.2.2.2.2.2.1 (by decide)
    subst hrn
    clear hkb
    go_wp2
    refine bodyPost_ret (v := .tuple #[.agg #[.int .u32 0, .int .i64 0, .int .u32 0, .int .u32 0, .slice none 0 0], .int .i64 8]) (by simp [results, Try.results17, go_sem, c_qr0, c_qr1, c_qr2, c_qr3, c_qr4]) rfl ⟨_, rfl, ?_⟩
    exact MadeU.nil_ (below_five hBf _ _ _ _ _)
  have hV7 := HF.out.2.2.2.2.2.2.2.2.2.2.2.step HQ7.out.1
  have k_eq := bequal_any xb (.slice av l.length cv) bl l w7 _ _ _ _ HQ7.out.2.1 hV7
  have KE := Lib.hid k_eq
  clear k_eq
  obtain ⟨bn, hbn⟩ : ∃ bn, bl.length = bn := ⟨_, rfl⟩
  obtain ⟨ax7, cx7, rfl, -, -⟩ := HQ7.out.2.1.form hbn
  clear hV7 hbn
  go_wp2_with fail
  refine KE.out.mono ?_
  rintro e w8 ⟨rfl, rfl⟩
  by_cases hbq : bl = l
  case neg =>
    have i3 : decide (bl = l) = false := by simp [hbq]
    rw [i3]
    have hkb : okb = false := by
      rw [HF.out.2.1, i3]
      rfl
    have hen := HF.out.2.2.2.2.2.2.2.1
    rw [hkb] at hen
    simp only [Bool.false_eq_true, if_false] at hen
    subst hen
    have hrn := HF.out.2.2.2.2.2.2.2.2.1 (by decide)
    subst hrn
    clear hkb
    go_wp2
    refine bodyPost_ret (v := .tuple #[.agg #[.int .u32 0, .int .i64 0, .int .u32 0, .int .u32 0, .slice none 0 0], .int .i64 8]) (by simp [results, Try.results17, go_sem, c_qr0, c_qr1, c_qr2, c_qr3, c_qr4]) rfl ⟨_, rfl, ?_⟩
    exact MadeU.nil_ (below_five hBf _ _ _ _ _)
  have i3 : decide (bl = l) = true := by simp [hbq]
  rw [i3]
  have hkb : okb = true := by
    rw [HF.out.2.1, i3]
    rfl
  have hen := HF.out.2.2.2.2.2.2.2.1
  rw [hkb] at hen
  simp only [if_true] at hen
  subst hen
  have hrn := HF.out.2.2.1 (by trivial)
  subst hrn
  clear hkb i3 hbq
  go_wp2
  refine bodyPost_ret (v := .tuple #[.agg #[.int .u32 (n0 : Int), .int .i64 (n1 : Int), .int .u32 (n2 : Int), .int .u32 (n3 : Int), .slice ar its.length cr], .int .i64 0]) (by simp [results, Try.results17, go_sem, c_qr0, c_qr1, c_qr2, c_qr3, c_qr4]) rfl ⟨.slice ar its.length cr, by simp only [wV, toNat_u32 _ g0, toNat_u32 _ g6, toNat_u32 _ g10], ?_⟩
  obtain ⟨hst, -, qb⟩ := HQ7.out
  have hsl := HF.out.2.2.2.1
  have hk2 := five_other w8 w.heap.size (.int .u32 (n0 : Int)) (.int .i64 (n1 : Int)) (.int .u32 (n2 : Int)) (.int .u32 (n3 : Int)) (.slice ar its.length cr)
  have hsx : (((((w8.setCell ⟨w.heap.size, 0, none⟩ (.int .u32 (n0 : Int))).setCell ⟨w.heap.size, 1, none⟩ (.int .i64 (n1 : Int))).setCell ⟨w.heap.size, 2, none⟩ (.int .u32 (n2 : Int))).setCell ⟨w.heap.size, 3, none⟩ (.int .u32 (n3 : Int))).setCell ⟨w.heap.size, 4, none⟩ (.slice ar its.length cr)).heap.size = w8.heap.size := by simp only [World.size_setCell]
  refine ⟨⟨WalkArith.wf_i64 (by dsimp only; omega), ((hsl.below hst (Nat.le_refl _)).keep (fun b o h1 h2 => ⟨heap_cell (hk2 b (by omega)) o, heap_frozen (hk2 b (by omega)) o⟩)).more (by omega) (by rw [hsx]; exact hst.size)⟩, fun g o hg => ?_, below_five hBf _ _ _ _ _⟩
  simp only [World.frozen?_setCell]
  have hgl := (HF.out.2.2.2.2.1 g o hg).2
  exact (hst.frozen (p := ⟨g, o, none⟩) hgl).trans (HF.out.2.2.2.2.1 g o hg).1
end Go.Proofs.Ytcibihakjcenaaa

