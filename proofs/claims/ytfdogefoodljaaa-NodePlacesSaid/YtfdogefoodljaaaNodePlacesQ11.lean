/- NodePlaces: the words and contracts, part 11. -/
import Derived.Test.YtfdogefoodljaaaNodePlacesQ1
import Derived.Test.YtfdogefoodljaaaNodePlacesQ2
import Derived.Test.YtfdogefoodljaaaNodePlacesQ3
import Derived.Test.YtfdogefoodljaaaNodePlacesQ4
import Derived.Test.YtfdogefoodljaaaNodePlacesQ5
import Derived.Test.YtfdogefoodljaaaNodePlacesQ6
import Derived.Test.YtfdogefoodljaaaNodePlacesQ7
import Derived.Test.YtfdogefoodljaaaNodePlacesQ8
import Derived.Test.YtfdogefoodljaaaNodePlacesQ9
import Derived.Test.YtfdogefoodljaaaNodePlacesQ10
import Derived.WalkKit
import Derived.WalkLawsBesides
import Derived.WalkSpells
import Derived.Lib.Hide
import Derived.Laws.Rows
import Derived.Laws.AppendOwnNone
import Derived.Maps.AppendAt
import Derived.ProofKit
import Derived.Deep.Slices
import Derived.WideShapes
import Derived.RangeFuncNested
import Derived.RangeFuncBound
import Derived.RangeFuncCalls
import Derived.RangeFuncLeaves
import Derived.RangeFuncBox
import Derived.Shelf.Abstract
import Derived.Shelf.RegionOpen
import Derived.OwnWalkIn
import Derived.TacticsInMore
import Derived.LoopNIn
import Derived.LoopIn
import Derived.Lib.AppendZerosOnto
import Derived.Lib.SliceRun
import Derived.Lib.Walk
import Derived.Deep.LoopGhost
import Derived.Laws.CopyOwn
import Derived.Laws.CopyRow
import Derived.OrdersHeld
import Derived.Deep.QuietTactic
import Derived.BigQuiet
import Derived.StillTailTactics
import Derived.OpenShut
import Derived.Deep.DeepCutAuto
import Derived.Deep.RegionHeld
namespace Go.Proofs.Ytfdogefoodljaaa
open Go.RowKit

def cntN (l : List ItemL) (k : KeyL) : Nat := (l.filter fun x => lessK x.key k).length
def isN (l : List ItemL) (k : KeyL) : Bool := decide (cntN l k < l.length) && decide ((l.getD (cntN l k) nokI).key = k)
theorem cntN_le (l : List ItemL) (k : KeyL) : cntN l k ≤ l.length := List.length_filter_le _ _
theorem cntN_succ (l : List ItemL) (k : KeyL) (j : Nat) (h : j < l.length) : cntN (l.take (j + 1)) k = cntN (l.take j) k + if lessK (l.getD j nokI).key k then 1 else 0 := by
  unfold cntN
  rw [List.take_succ_eq_append_getElem h, List.filter_append, List.length_append]
  have e : l.getD j nokI = l[j] := by simp [h]
  rw [e]
  cases hb : lessK l[j].key k <;> simp [hb]

set_option maxRecDepth 100000 in
set_option maxHeartbeats 4000000 in
/-- node.Place. -/
theorem nplace_any (lv : Int) (its : List ItemL) (v : Value) (kk : KeyL) (w : World) (h : Sl rItem w 0 w.heap.size v its) :
    Calls Try.prog 34 #[.agg #[.int .i64 lv, v], keyV kk] w fun e w' => e = .returned (.tuple #[.int .i64 (cntN its kk : Nat), .bool (isN its kk)]) ∧ Below w.heap.size w w' := by
  obtain ⟨av, cv, rfl, g1, g2, -, -⟩ := id h
  unfold maxLen at g2
  simp only [keyV, bV, wV]
  have hst := ((Below.refl w.heap.size w).alloc (Nat.le_refl _) (.cells #[.int .i64 lv, .slice av its.length cv] 62)).alloc (by simp) (.cells #[.int .u8 (kk.kind.toNat : Int), .int .u32 (kk.id.toNat : Int), .int .u32 (kk.off.toNat : Int)] 65)
  have hq := two_new w (.cells #[.int .i64 lv, .slice av its.length cv] 62) (.cells #[.int .u8 (kk.kind.toNat : Int), .int .u32 (kk.id.toNat : Int), .int .u32 (kk.off.toNat : Int)] 65)
  have qn := LK.of hq.1
  have qk := LK.of hq.2
  have hB : LW w _ := hst
  have hS := (LS.of h (Nat.le_refl _)).step hst
  have sz_V : w.heap.size + 1 < ((w.alloc (.cells #[.int .i64 lv, .slice av its.length cv] 62)).alloc (.cells #[.int .u8 (kk.kind.toNat : Int), .int .u32 (kk.id.toNat : Int), .int .u32 (kk.off.toNat : Int)] 65)).heap.size := by simp
  obtain ⟨V, hV⟩ : ∃ V, (w.alloc (.cells #[.int .i64 lv, .slice av its.length cv] 62)).alloc (.cells #[.int .u8 (kk.kind.toNat : Int), .int .u32 (kk.id.toNat : Int), .int .u32 (kk.off.toNat : Int)] 65) = V := ⟨_, rfl⟩
  rw [hV] at hB hS qn qk sz_V
  clear h hst hq
  have HSC := Lib.hid (fun j hj => cntN_succ its kk j hj)
  have HLE := Lib.hid (cntN_le its kk)
  have HIS := Lib.hid (show isN its kk = (decide (cntN its kk < its.length) && decide ((its.getD (cntN its kk) nokI).key = kk)) from rfl)
  generalize isN its kk = isb at *
  have HQ := Lib.hid (And.intro qn (And.intro qk (And.intro hS hB)))
  clear qn qk hS hB
  have c_qn0 := LK.cell HQ.out.1 0
  have c_qn1 := LK.cell HQ.out.1 1
  have c_qk0 := LK.cell HQ.out.2.1 0
  have c_qk1 := LK.cell HQ.out.2.1 1
  have c_qk2 := LK.cell HQ.out.2.1 2
  simp at c_qn0 c_qn1 c_qk0 c_qk1 c_qk2
  go_enter Try.func34, Try.ntmps34
  go_upto_region 1 with (fail)
  clear hV
  go_wp2_with fail
  go_loopw [4, 11] (fun s i wr => ∃ j : Nat, j ≤ its.length ∧ i = .int .i64 j ∧ s = .int .i64 (cntN (its.take j) kk : Nat) ∧ Below V.heap.size V wr) (fun _ i _ => its.length - (intOf i).toNat)
  case atStart => exact ⟨0, Nat.zero_le _, rfl, rfl, Below.refl _ _⟩
  case round =>
  obtain ⟨j, hj, rfl, rfl, hBr⟩ := hrel
  have hst := hBr
  clear c_qn0 c_qn1 c_qk0 c_qk1 c_qk2
  obtain ⟨qn, qk, hS, hB⟩ := HQ.out
  clear HQ
  have sz_wr : V.heap.size ≤ wr.heap.size := hst.size
  replace qn := qn.step hst
  replace qk := qk.step hst
  replace hS := hS.step hst
  replace hB := hB.step hst
  clear hst
  have HQ := Lib.hid (And.intro qn (And.intro qk (And.intro hS hB)))
  clear qn qk hS hB
  have c_qn0 := LK.cell HQ.out.1 0
  have c_qn1 := LK.cell HQ.out.1 1
  have c_qk0 := LK.cell HQ.out.2.1 0
  have c_qk1 := LK.cell HQ.out.2.1 1
  have c_qk2 := LK.cell HQ.out.2.1 2
  simp at c_qn0 c_qn1 c_qk0 c_qk1 c_qk2
  by_cases hlt : j < its.length
  · obtain ⟨bb, bo, cb, e1, -, -, -, zc, hcell⟩ := HQ.out.2.2.1.v.at_ (by omega)
    injection e1 with e1 _ e2
    subst e1 e2
    obtain ⟨f0, f1, f2, f3, f3w, vx, f4, hvx⟩ := hcell j (its.getD j nokI) (get_l _ _ _ hlt)
    have hsc := HSC.out j hlt
    obtain ⟨x, hx⟩ : ∃ x, its.getD j nokI = x := ⟨_, rfl⟩
    rw [hx] at f0 f1 f2 f3 hsc
    obtain ⟨ax, cx, rfl, -, -⟩ := hvx.form rfl
    rw [hx] at f4 hvx
    obtain ⟨xn, hxn⟩ : ∃ xn, x.val.length = xn := ⟨_, rfl⟩
    rw [hxn] at f4
    simp only [bV, wV, Nat.add_zero] at f0 f1 f2 f3 f4
    have hn5 : rItem.n = 5 := rfl
    rw [hn5] at f0 f1 f2 f3 f4
    unfold maxLen at zc
    obtain ⟨cn, hcn⟩ : ∃ cn, cntN (its.take j) kk = cn := ⟨_, rfl⟩
    rw [hcn] at hsc ⊢
    have hcj : cn ≤ j := by
      have := cntN_le (its.take j) kk
      rw [hcn, List.length_take] at this
      omega
    have k_less := fun W => less_any x.key kk W
    simp only [keyV, bV, wV] at k_less
    obtain ⟨bl, hbl⟩ : ∃ bl, lessK x.key kk = bl := ⟨_, rfl⟩
    rw [hbl] at k_less hsc
    have HX := Lib.hid (And.intro k_less (And.intro hsc hBr))
    clear hvx hcell hx hxn hcn k_less hsc hBr hn5 hbl
    obtain ⟨qn, qk, hS, hB⟩ := HQ.out
    clear HQ
    have hR : LW wr wr := Below.refl _ _
    have HQ := Lib.hid (And.intro qn (And.intro qk (And.intro hS (And.intro hR hB))))
    clear qn qk hS hR hB
    go_upto_region 4 with (fail)
    clear c_qn0 c_qn1 c_qk0 c_qk1 c_qk2
    obtain ⟨qn, qk, hS, hR, hB⟩ := HQ.out
    clear HQ
    have hst := (Below.refl wr.heap.size wr).alloc (Nat.le_refl _) (.cells #[.int .u8 (x.key.kind.toNat : Int), .int .u32 (x.key.id.toNat : Int), .int .u32 (x.key.off.toNat : Int), .int .i64 x.ref, .slice ax xn cx] 73)
    have hlt : wr.heap.size < (wr.alloc (.cells #[.int .u8 (x.key.kind.toNat : Int), .int .u32 (x.key.id.toNat : Int), .int .u32 (x.key.off.toNat : Int), .int .i64 x.ref, .slice ax xn cx] 73)).heap.size := by simp
    have qx := LK.new wr (.cells #[.int .u8 (x.key.kind.toNat : Int), .int .u32 (x.key.id.toNat : Int), .int .u32 (x.key.off.toNat : Int), .int .i64 x.ref, .slice ax xn cx] 73)
    replace qn := qn.step hst
    replace qk := qk.step hst
    replace hS := hS.step hst
    replace hR := hR.step hst
    replace hB := hB.step hst
    obtain ⟨w1, hw⟩ : ∃ v, wr.alloc (.cells #[.int .u8 (x.key.kind.toNat : Int), .int .u32 (x.key.id.toNat : Int), .int .u32 (x.key.off.toNat : Int), .int .i64 x.ref, .slice ax xn cx] 73) = v := ⟨_, rfl⟩
    rw [hw] at hlt qx qn qk hS hR hB ⊢
    clear hw hst
    have sz_w1 := hlt
    clear hlt
    have HQ := Lib.hid (And.intro qn (And.intro qk (And.intro hS (And.intro hR (And.intro qx hB)))))
    clear qn qk hS hR qx hB
    have c_qn0 := LK.cell HQ.out.1 0
    have c_qn1 := LK.cell HQ.out.1 1
    have c_qk0 := LK.cell HQ.out.2.1 0
    have c_qk1 := LK.cell HQ.out.2.1 1
    have c_qk2 := LK.cell HQ.out.2.1 2
    have c_qx0 := LK.cell HQ.out.2.2.2.2.1 0
    have c_qx1 := LK.cell HQ.out.2.2.2.2.1 1
    have c_qx2 := LK.cell HQ.out.2.2.2.2.1 2
    have c_qx3 := LK.cell HQ.out.2.2.2.2.1 3
    have c_qx4 := LK.cell HQ.out.2.2.2.2.1 4
    simp at c_qn0 c_qn1 c_qk0 c_qk1 c_qk2 c_qx0 c_qx1 c_qx2 c_qx3 c_qx4
    clear f0 f1 f2 f3 f4
    go_wp2_with fail
    refine (HX.out.1 _).mono ?_
    rintro e w2 ⟨rfl, hst⟩
    clear c_qn0 c_qn1 c_qk0 c_qk1 c_qk2 c_qx0 c_qx1 c_qx2 c_qx3 c_qx4
    obtain ⟨qn, qk, hS, hR, qx, hB⟩ := HQ.out
    clear HQ
    have sz_w2 : w1.heap.size ≤ w2.heap.size := hst.size
    replace qn := qn.step hst
    replace qk := qk.step hst
    replace hS := hS.step hst
    replace hR := hR.step hst
    replace qx := qx.step hst
    replace hB := hB.step hst
    clear hst
    have HQ := Lib.hid (And.intro qn (And.intro qk (And.intro hS (And.intro hR (And.intro qx hB)))))
    clear qn qk hS hR qx hB
    have c_qn0 := LK.cell HQ.out.1 0
    have c_qn1 := LK.cell HQ.out.1 1
    have c_qk0 := LK.cell HQ.out.2.1 0
    have c_qk1 := LK.cell HQ.out.2.1 1
    have c_qk2 := LK.cell HQ.out.2.1 2
    have c_qx0 := LK.cell HQ.out.2.2.2.2.1 0
    have c_qx1 := LK.cell HQ.out.2.2.2.2.1 1
    have c_qx2 := LK.cell HQ.out.2.2.2.2.1 2
    have c_qx3 := LK.cell HQ.out.2.2.2.2.1 3
    have c_qx4 := LK.cell HQ.out.2.2.2.2.1 4
    simp at c_qn0 c_qn1 c_qk0 c_qk1 c_qk2 c_qx0 c_qx1 c_qx2 c_qx3 c_qx4
    have hc0 : (0 : Int) ≤ cn := by omega
    cases bl
    · have hsc := HX.out.2.1
      simp only [Bool.false_eq_true, if_false, Nat.add_zero] at hsc
      have HC2 := Lib.hid hsc
      clear hsc
      go_wp2
      go_roundw
      case rel => exact ⟨j + 1, by omega, by go_num, by rw [HC2.out], HX.out.2.2.trans (Below.mono HQ.out.2.2.2.1 HX.out.2.2.size)⟩
      case measure => simp [intOf]; omega
    · have hsc := HX.out.2.1
      simp only [if_true] at hsc
      have HC2 := Lib.hid hsc
      clear hsc
      go_wp2
      go_roundw
      case rel => exact ⟨j + 1, by omega, by go_num, by rw [HC2.out]; go_num, HX.out.2.2.trans (Below.mono HQ.out.2.2.2.1 HX.out.2.2.size)⟩
      case measure => simp [intOf]; omega
  obtain rfl : j = its.length := by omega
  rw [List.take_length]
  have hle := HLE.out
  have his := HIS.out
  obtain ⟨c, hc⟩ : ∃ c, cntN its kk = c := ⟨_, rfl⟩
  rw [hc] at hle his ⊢
  have HC3 := Lib.hid hc
  have HBf := Lib.hid (HQ.out.2.2.2)
  by_cases hlt2 : c < its.length
  · obtain ⟨bb, bo, cb, e1, -, -, -, zc, hcell⟩ := HQ.out.2.2.1.v.at_ (by omega)
    injection e1 with e1 _ e2
    subst e1 e2
    obtain ⟨f0, f1, f2, -, -, -, -, -⟩ := hcell c (its.getD c nokI) (get_l _ _ _ hlt2)
    obtain ⟨y, hy⟩ : ∃ y, its.getD c nokI = y := ⟨_, rfl⟩
    rw [hy] at f0 f1 f2 his
    rw [decide_eq_true hlt2, Bool.true_and] at his
    subst his
    simp only [bV, wV, Nat.add_zero] at f0 f1 f2
    have hn5 : rItem.n = 5 := rfl
    rw [hn5] at f0 f1 f2
    unfold maxLen at zc
    have ek := fun W => eq_key y.key kk W
    simp only [keyV, bV, wV] at ek
    have i1 : decide ((c : Int) < its.length) = true := by rw [decide_eq_true_eq]; omega
    have i2 : (c : Int) < its.length := by omega
    have i3 : ¬ (its.length : Int) ≤ c := by omega
    clear hcell hn5 hy hc hBr hlt hle
    go_wp2_with fail
    go_quiet (fail)
    go_wp2
    go_ret2
    exact ⟨by rw [HC3.out]; rfl, LW.step HBf.out (below_dr _ _)⟩
  rw [decide_eq_false hlt2, Bool.false_and] at his
  subst his
  have i1 : decide ((c : Int) < its.length) = false := by rw [decide_eq_false_iff_not]; omega
  have i3 : (its.length : Int) ≤ c := by omega
  clear hc hBr hlt hle
  go_wp2_with fail
  go_quiet (fail)
  go_wp2
  go_ret2
  exact ⟨by rw [HC3.out]; rfl, LW.step HBf.out (below_dr _ _)⟩
end Go.Proofs.Ytfdogefoodljaaa

