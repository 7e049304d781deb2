/- NodeUnlike: the words and contracts, part 10. -/
import Derived.Test.YtfdogefoodljaaaNodeUnlikeQ1
import Derived.Test.YtfdogefoodljaaaNodeUnlikeQ2
import Derived.Test.YtfdogefoodljaaaNodeUnlikeQ3
import Derived.Test.YtfdogefoodljaaaNodeUnlikeQ4
import Derived.Test.YtfdogefoodljaaaNodeUnlikeQ5
import Derived.Test.YtfdogefoodljaaaNodeUnlikeQ6
import Derived.Test.YtfdogefoodljaaaNodeUnlikeQ7
import Derived.Test.YtfdogefoodljaaaNodeUnlikeQ8
import Derived.Test.YtfdogefoodljaaaNodeUnlikeQ9
import Derived.WalkKit
import Derived.WalkLawsBesides
import Derived.WalkSpells
import Derived.Lib.Hide
import Derived.Laws.Rows
import Derived.Laws.AppendOwnNone
import Derived.Maps.AppendAt
import Derived.ProofKit
import Derived.Deep.Slices
import Derived.WideShapes
import Derived.RangeFuncNested
import Derived.RangeFuncBound
import Derived.RangeFuncCalls
import Derived.RangeFuncLeaves
import Derived.RangeFuncBox
import Derived.Shelf.Abstract
import Derived.Shelf.RegionOpen
import Derived.OwnWalkIn
import Derived.TacticsInMore
import Derived.LoopNIn
import Derived.LoopIn
import Derived.Lib.AppendZerosOnto
import Derived.Lib.SliceRun
import Derived.Lib.Walk
import Derived.Deep.LoopGhost
import Derived.Laws.CopyOwn
import Derived.Laws.CopyRow
import Derived.OrdersHeld
import Derived.Deep.QuietTactic
import Derived.BigQuiet
import Derived.StillTailTactics
import Derived.OpenShut
import Derived.Deep.DeepCutAuto
import Derived.Deep.RegionHeld
import Derived.Laws.MakeOwn
namespace Go.Proofs.Ytfdogefoodljaaa
open Go.RowKit

def cntN (l : List ItemL) (k : KeyL) : Nat := (l.filter fun x => lessK x.key k).length
def isN (l : List ItemL) (k : KeyL) : Bool := decide (cntN l k < l.length) && decide ((l.getD (cntN l k) nokI).key = k)
theorem cntN_le (l : List ItemL) (k : KeyL) : cntN l k ≤ l.length := List.length_filter_le _ _
theorem cntN_succ (l : List ItemL) (k : KeyL) (j : Nat) (h : j < l.length) : cntN (l.take (j + 1)) k = cntN (l.take j) k + if lessK (l.getD j nokI).key k then 1 else 0 := by
  unfold cntN
  rw [List.take_succ_eq_append_getElem h, List.filter_append, List.length_append]
  have e : l.getD j nokI = l[j] := by simp [h]
  rw [e]
  cases hb : lessK l[j].key k <;> simp [hb]

set_option maxRecDepth 100000 in
set_option maxHeartbeats 4000000 in
/-- node.Place. -/
theorem nplace_any (lv : Int) (its : List ItemL) (v : Value) (kk : KeyL) (w : World) (h : Sl rItem w 0 w.heap.size v its) :
    Calls Try.prog 34 #[.agg #[.int .i64 lv, v], keyV kk] w fun e w' => e = .returned (.tuple #[.int .i64 (cntN its kk : Nat), .bool (isN its kk)]) ∧ Below w.heap.size w w' := by
  obtain ⟨av, cv, rfl, g1, g2, -, -⟩ := id h
  unfold maxLen at g2
  simp only [keyV, bV, wV]
  have hst := ((Below.refl w.heap.size w).alloc (Nat.le_refl _) (.cells #[.int .i64 lv, .slice av its.length cv] 62)).alloc (by simp) (.cells #[.int .u8 (kk.kind.toNat : Int), .int .u32 (kk.id.toNat : Int), .int .u32 (kk.off.toNat : Int)] 65)
  have hq := two_new w (.cells #[.int .i64 lv, .slice av its.length cv] 62) (.cells #[.int .u8 (kk.kind.toNat : Int), .int .u32 (kk.id.toNat : Int), .int .u32 (kk.off.toNat : Int)] 65)
  have qn := LK.of hq.1
  have qk := LK.of hq.2
  have hB : LW w _ := hst
  have hS := (LS.of h (Nat.le_refl _)).step hst
  have sz_V : w.heap.size + 1 < ((w.alloc (.cells #[.int .i64 lv, .slice av its.length cv] 62)).alloc (.cells #[.int .u8 (kk.kind.toNat : Int), .int .u32 (kk.id.toNat : Int), .int .u32 (kk.off.toNat : Int)] 65)).heap.size := by simp
  obtain ⟨V, hV⟩ : ∃ V, (w.alloc (.cells #[.int .i64 lv, .slice av its.length cv] 62)).alloc (.cells #[.int .u8 (kk.kind.toNat : Int), .int .u32 (kk.id.toNat : Int), .int .u32 (kk.off.toNat : Int)] 65) = V := ⟨_, rfl⟩
  rw [hV] at hB hS qn qk sz_V
  clear h hst hq
  have HSC := Lib.hid (fun j hj => cntN_succ its kk j hj)
  have HLE := Lib.hid (cntN_le its kk)
  have HIS := Lib.hid (show isN its kk = (decide (cntN its kk < its.length) && decide ((its.getD (cntN its kk) nokI).key = kk)) from rfl)
  generalize isN its kk = isb at *
  have HQ := Lib.hid (And.intro qn (And.intro qk (And.intro hS hB)))
  clear qn qk hS hB
  have c_qn0 := LK.cell HQ.out.1 0
  have c_qn1 := LK.cell HQ.out.1 1
  have c_qk0 := LK.cell HQ.out.2.1 0
  have c_qk1 := LK.cell HQ.out.2.1 1
  have c_qk2 := LK.cell HQ.out.2.1 2
  simp at c_qn0 c_qn1 c_qk0 c_qk1 c_qk2
  go_enter Try.func34, Try.ntmps34
  go_upto_region 1 with (fail)
  clear hV
  go_wp2_with fail
  go_loopw [4, 11] (fun s i wr => ∃ j : Nat, j ≤ its.length ∧ i = .int .i64 j ∧ s = .int .i64 (cntN (its.take j) kk : Nat) ∧ Below V.heap.size V wr) (fun _ i _ => its.length - (intOf i).toNat)
  case atStart => exact ⟨0, Nat.zero_le _, rfl, rfl, Below.refl _ _⟩
  case round =>
  obtain ⟨j, hj, rfl, rfl, hBr⟩ := hrel
  have hst := hBr
  clear c_qn0 c_qn1 c_qk0 c_qk1 c_qk2
  obtain ⟨qn, qk, hS, hB⟩ := HQ.out
  clear HQ
  have sz_wr : V.heap.size ≤ wr.heap.size := hst.size
  replace qn := qn.step hst
  replace qk := qk.step hst
  replace hS := hS.step hst
  replace hB := hB.step hst
  clear hst
  have HQ := Lib.hid (And.intro qn (And.intro qk (And.intro hS hB)))
  clear qn qk hS hB
  have c_qn0 := LK.cell HQ.out.1 0
  have c_qn1 := LK.cell HQ.out.1 1
  have c_qk0 := LK.cell HQ.out.2.1 0
  have c_qk1 := LK.cell HQ.out.2.1 1
  have c_qk2 := LK.cell HQ.out.2.1 2
  simp at c_qn0 c_qn1 c_qk0 c_qk1 c_qk2
  by_cases hlt : j < its.length
  · obtain ⟨bb, bo, cb, e1, -, -, -, zc, hcell⟩ := HQ.out.2.2.1.v.at_ (by omega)
    injection e1 with e1 _ e2
    subst e1 e2
    obtain ⟨f0, f1, f2, f3, f3w, vx, f4, hvx⟩ := hcell j (its.getD j nokI) (get_l _ _ _ hlt)
    have hsc := HSC.out j hlt
    obtain ⟨x, hx⟩ : ∃ x, its.getD j nokI = x := ⟨_, rfl⟩
    rw [hx] at f0 f1 f2 f3 hsc
    obtain ⟨ax, cx, rfl, -, -⟩ := hvx.form rfl
    rw [hx] at f4 hvx
    obtain ⟨xn, hxn⟩ : ∃ xn, x.val.length = xn := ⟨_, rfl⟩
    rw [hxn] at f4
    simp only [bV, wV, Nat.add_zero] at f0 f1 f2 f3 f4
    have hn5 : rItem.n = 5 := rfl
    rw [hn5] at f0 f1 f2 f3 f4
    unfold maxLen at zc
    obtain ⟨cn, hcn⟩ : ∃ cn, cntN (its.take j) kk = cn := ⟨_, rfl⟩
    rw [hcn] at hsc ⊢
    have hcj : cn ≤ j := by
      have := cntN_le (its.take j) kk
      rw [hcn, List.length_take] at this
      omega
    have k_less := fun W => less_any x.key kk W
    simp only [keyV, bV, wV] at k_less
    obtain ⟨bl, hbl⟩ : ∃ bl, lessK x.key kk = bl := ⟨_, rfl⟩
    rw [hbl] at k_less hsc
    have HX := Lib.hid (And.intro k_less (And.intro hsc hBr))
    clear hvx hcell hx hxn hcn k_less hsc hBr hn5 hbl
    obtain ⟨qn, qk, hS, hB⟩ := HQ.out
    clear HQ
    have hR : LW wr wr := Below.refl _ _
    have HQ := Lib.hid (And.intro qn (And.intro qk (And.intro hS (And.intro hR hB))))
    clear qn qk hS hR hB
    go_upto_region 4 with (fail)
    clear c_qn0 c_qn1 c_qk0 c_qk1 c_qk2
    obtain ⟨qn, qk, hS, hR, hB⟩ := HQ.out
    clear HQ
    have hst := (Below.refl wr.heap.size wr).alloc (Nat.le_refl _) (.cells #[.int .u8 (x.key.kind.toNat : Int), .int .u32 (x.key.id.toNat : Int), .int .u32 (x.key.off.toNat : Int), .int .i64 x.ref, .slice ax xn cx] 73)
    have hlt : wr.heap.size < (wr.alloc (.cells #[.int .u8 (x.key.kind.toNat : Int), .int .u32 (x.key.id.toNat : Int), .int .u32 (x.key.off.toNat : Int), .int .i64 x.ref, .slice ax xn cx] 73)).heap.size := by simp
    have qx := LK.new wr (.cells #[.int .u8 (x.key.kind.toNat : Int), .int .u32 (x.key.id.toNat : Int), .int .u32 (x.key.off.toNat : Int), .int .i64 x.ref, .slice ax xn cx] 73)
    replace qn := qn.step hst
    replace qk := qk.step hst
    replace hS := hS.step hst
    replace hR := hR.step hst
    replace hB := hB.step hst
    obtain ⟨w1, hw⟩ : ∃ v, wr.alloc (.cells #[.int .u8 (x.key.kind.toNat : Int), .int .u32 (x.key.id.toNat : Int), .int .u32 (x.key.off.toNat : Int), .int .i64 x.ref, .slice ax xn cx] 73) = v := ⟨_, rfl⟩
    rw [hw] at hlt qx qn qk hS hR hB ⊢
    clear hw hst
    have sz_w1 := hlt
    clear hlt
    have HQ := Lib.hid (And.intro qn (And.intro qk (And.intro hS (And.intro hR (And.intro qx hB)))))
    clear qn qk hS hR qx hB
    have c_qn0 := LK.cell HQ.out.1 0
    have c_qn1 := LK.cell HQ.out.1 1
    have c_qk0 := LK.cell HQ.out.2.1 0
    have c_qk1 := LK.cell HQ.out.2.1 1
    have c_qk2 := LK.cell HQ.out.2.1 2
    have c_qx0 := LK.cell HQ.out.2.2.2.2.1 0
    have c_qx1 := LK.cell HQ.out.2.2.2.2.1 1
    have c_qx2 := LK.cell HQ.out.2.2.2.2.1 2
    have c_qx3 := LK.cell HQ.out.2.2.2.2.1 3
    have c_qx4 := LK.cell HQ.out.2.2.2.2.1 4
    simp at c_qn0 c_qn1 c_qk0 c_qk1 c_qk2 c_qx0 c_qx1 c_qx2 c_qx3 c_qx4
    clear f0 f1 f2 f3 f4
    go_wp2_with fail
    refine (HX.out.1 _).mono ?_
    rintro e w2 ⟨rfl, hst⟩
    clear c_qn0 c_qn1 c_qk0 c_qk1 c_qk2 c_qx0 c_qx1 c_qx2 c_qx3 c_qx4
    obtain ⟨qn, qk, hS, hR, qx, hB⟩ := HQ.out
    clear HQ
    have sz_w2 : w1.heap.size ≤ w2.heap.size := hst.size
    replace qn := qn.step hst
    replace qk := qk.step hst
    replace hS := hS.step hst
    replace hR := hR.step hst
    replace qx := qx.step hst
    replace hB := hB.step hst
    clear hst
    have HQ := Lib.hid (And.intro qn (And.intro qk (And.intro hS (And.intro hR (And.intro qx hB)))))
    clear qn qk hS hR qx hB
    have c_qn0 := LK.cell HQ.out.1 0
    have c_qn1 := LK.cell HQ.out.1 1
    have c_qk0 := LK.cell HQ.out.2.1 0
    have c_qk1 := LK.cell HQ.out.2.1 1
    have c_qk2 := LK.cell HQ.out.2.1 2
    have c_qx0 := LK.cell HQ.out.2.2.2.2.1 0
    have c_qx1 := LK.cell HQ.out.2.2.2.2.1 1
    have c_qx2 := LK.cell HQ.out.2.2.2.2.1 2
    have c_qx3 := LK.cell HQ.out.2.2.2.2.1 3
    have c_qx4 := LK.cell HQ.out.2.2.2.2.1 4
    simp at c_qn0 c_qn1 c_qk0 c_qk1 c_qk2 c_qx0 c_qx1 c_qx2 c_qx3 c_qx4
    have hc0 : (0 : Int) ≤ cn := by omega
    cases bl
    · have hsc := HX.out.2.1
      simp only [Bool.false_eq_true, if_false, Nat.add_zero] at hsc
      have HC2 := Lib.hid hsc
      clear hsc
      go_wp2
      go_roundw
      case rel => exact ⟨j + 1, by omega, by go_num, by rw [HC2.out], HX.out.2.2.trans (Below.mono HQ.out.2.2.2.1 HX.out.2.2.size)⟩
      case measure => simp [intOf]; omega
    · have hsc := HX.out.2.1
      simp only [if_true] at hsc
      have HC2 := Lib.hid hsc
      clear hsc
      go_wp2
      go_roundw
      case rel => exact ⟨j + 1, by omega, by go_num, by rw [HC2.out]; go_num, HX.out.2.2.trans (Below.mono HQ.out.2.2.2.1 HX.out.2.2.size)⟩
      case measure => simp [intOf]; omega
  obtain rfl : j = its.length := by omega
  rw [List.take_length]
  have hle := HLE.out
  have his := HIS.out
  obtain ⟨c, hc⟩ : ∃ c, cntN its kk = c := ⟨_, rfl⟩
  rw [hc] at hle his ⊢
  have HC3 := Lib.hid hc
  have HBf := Lib.hid (HQ.out.2.2.2)
  by_cases hlt2 : c < its.length
  · obtain ⟨bb, bo, cb, e1, -, -, -, zc, hcell⟩ := HQ.out.2.2.1.v.at_ (by omega)
    injection e1 with e1 _ e2
    subst e1 e2
    obtain ⟨f0, f1, f2, -, -, -, -, -⟩ := hcell c (its.getD c nokI) (get_l _ _ _ hlt2)
    obtain ⟨y, hy⟩ : ∃ y, its.getD c nokI = y := ⟨_, rfl⟩
    rw [hy] at f0 f1 f2 his
    rw [decide_eq_true hlt2, Bool.true_and] at his
    subst his
    simp only [bV, wV, Nat.add_zero] at f0 f1 f2
    have hn5 : rItem.n = 5 := rfl
    rw [hn5] at f0 f1 f2
    unfold maxLen at zc
    have ek := fun W => eq_key y.key kk W
    simp only [keyV, bV, wV] at ek
    have i1 : decide ((c : Int) < its.length) = true := by rw [decide_eq_true_eq]; omega
    have i2 : (c : Int) < its.length := by omega
    have i3 : ¬ (its.length : Int) ≤ c := by omega
    clear hcell hn5 hy hc hBr hlt hle
    go_wp2_with fail
    go_quiet (fail)
    go_wp2
    go_ret2
    exact ⟨by rw [HC3.out]; rfl, LW.step HBf.out (below_dr _ _)⟩
  rw [decide_eq_false hlt2, Bool.false_and] at his
  subst his
  have i1 : decide ((c : Int) < its.length) = false := by rw [decide_eq_false_iff_not]; omega
  have i3 : (its.length : Int) ≤ c := by omega
  clear hc hBr hlt hle
  go_wp2_with fail
  go_quiet (fail)
  go_wp2
  go_ret2
  exact ⟨by rw [HC3.out]; rfl, LW.step HBf.out (below_dr _ _)⟩
end Go.Proofs.Ytfdogefoodljaaa

namespace Go.Proofs.Ytfdogefoodljaaa
open Go.RowKit

/-- A world of which Pr holds: W itself, if it holds of that. -/
noncomputable def selW (Pr : World → Prop) (w0 W : World) : World := by
  classical exact if Pr W then W else w0
theorem selW_pr {Pr : World → Prop} {w0 : World} (h : Pr w0) (W : World) : Pr (selW Pr w0 W) := by
  unfold selW
  split
  · assumption
  · exact h
theorem selW_of {Pr : World → Prop} {w0 W : World} (h : Pr W) : selW Pr w0 W = W := by
  unfold selW
  rw [if_pos h]
def Kl (Pr : World → Prop) (w0 w' : World) : Prop := ∃ W, w' = selW Pr w0 W
attribute [go_sem] Kl
theorem Kl.of {Pr : World → Prop} {w0 w' : World} (h : Pr w') : Kl Pr w0 w' := ⟨w', (selW_of h).symm⟩

/-- Whatever comes up, in whatever order; but for number z, the world behind it is of the class. -/
def wpAnyL (P : Program) (md : Region.Mode) (ops : Array Oper) (Q : Exit → Act → World → Prop) (S : World → Prop) (z : Nat) : Nat → Array Bool → Act → World → Prop
  | 0, listed, a, w => Region.ready md ops listed = [] ∧ Q .normal a w
  | n + 1, listed, a, w => (Region.ready md ops listed = [] → Q .normal a w) ∧ ∀ i ∈ Region.ready md ops listed,
      wpOp P ops Q i (fun a' w' => (i = z ∨ S w') ∧ wpAnyL P md ops Q S z n (listed.setIfInBounds i true) a' w') a w

/-- Each operation but z is waited for by a later one; and where one is listed, so is what it waits for. -/
def lastOk (md : Region.Mode) (ops : Array Oper) (z : Nat) (listed : Array Bool) : Bool :=
  (decide (listed.size = ops.size) && (List.range ops.size).all fun j => j == z || (List.range ops.size).any fun k => decide (j < k) && ((ops[k]?).map fun o => o.after.any fun e => Region.binds md e && e.on == j).getD false) &&
  (List.range ops.size).all fun k => !(listed.getD k true) || ((ops[k]?).map fun o => o.after.all fun e => !Region.binds md e || listed.getD e.on false).getD false

section
variable {P : Program} {ops : Array Oper} {Q : Exit → Act → World → Prop} {md : Region.Mode} {S : World → Prop} {z : Nat}

theorem wpAny_ofL : ∀ (n : Nat) (listed : Array Bool) (a : Act) (w : World), wpAnyL P md ops Q S z n listed a w → wpAny P md ops Q n listed a w
  | 0, _, _, _, h => h
  | n + 1, _, _, _, h => ⟨h.1, fun i hi => wpOp_mono (fun a' w' h' => wpAny_ofL n _ a' w' h'.2) (h.2 i hi)⟩

structure Down (md : Region.Mode) (ops : Array Oper) (z : Nat) (listed : Array Bool) : Prop where
  size : listed.size = ops.size
  wait : ∀ j, j < ops.size → j ≠ z → ∃ k o e, j < k ∧ ops[k]? = some o ∧ e ∈ o.after ∧ Region.binds md e = true ∧ e.on = j
  down : ∀ k o e, ops[k]? = some o → listed.getD k true = true → e ∈ o.after → Region.binds md e = true → listed.getD e.on false = true
theorem Down.of {listed : Array Bool} (h : lastOk md ops z listed = true) : Down md ops z listed := by
  simp only [lastOk, Bool.and_eq_true, List.all_eq_true, List.mem_range, Bool.or_eq_true, beq_iff_eq, List.any_eq_true, decide_eq_true_eq] at h
  obtain ⟨⟨h0, h1⟩, h2⟩ := h
  refine ⟨h0, fun j hj hz => ?_, fun k o e hk hl he hb => ?_⟩
  · rcases h1 j hj with h | ⟨k, hk, hjk, hx⟩
    · exact absurd h hz
    · simp only [Array.getElem?_eq_getElem hk, Option.map_some, Option.getD_some, Array.any_eq_true', Bool.and_eq_true, beq_iff_eq] at hx
      obtain ⟨e, he, hb, ho⟩ := hx
      exact ⟨k, ops[k], e, hjk, by simp [hk], he, hb, ho⟩
  · have hk' := (Array.getElem?_eq_some_iff.1 hk).1
    have := h2 k hk'
    simp only [hl, Bool.not_true, Bool.false_eq_true, false_or, hk, Option.map_some, Option.getD_some, Array.all_eq_true'] at this
    have := this e he
    simpa [hb] using this
theorem Down.set_ {listed : Array Bool} (h : Down md ops z listed) {i : Nat} (hi : i ∈ Region.ready md ops listed) : Down md ops z (listed.setIfInBounds i true) := by
  refine ⟨by simp [h.size], h.wait, fun k o e hk hl he hb => ?_⟩
  rcases Decidable.em (i = k) with rfl | hik
  · obtain ⟨_, o', ho', hall⟩ := mem_ready.1 hi
    rw [hk] at ho'; cases ho'
    exact getD_set_true (hall e he hb)
  · rw [getD_set_ne true hik] at hl
    exact getD_set_true (h.down k o e hk hl he hb)
/-- Where z may come up, nothing else may. -/
theorem Down.last {listed : Array Bool} (h : Down md ops z listed) (hz : z ∈ Region.ready md ops listed) : ∀ j, listed.getD j true = false → j < ops.size → j = z := by
  obtain ⟨hzu, oz, hoz, hall⟩ := mem_ready.1 hz
  have key : ∀ n j, ops.size - j ≤ n → listed.getD j true = false → j < ops.size → j = z := by
    intro n
    induction n with
    | zero => intro j hn _ hlt; omega
    | succ n ih =>
      intro j hn hu hlt
      rcases Decidable.em (j = z) with rfl | hjz
      · rfl
      · exfalso
        obtain ⟨k, o, e, hjk, hk, he, hb, ho⟩ := h.wait j hlt hjz
        have hk' := (Array.getElem?_eq_some_iff.1 hk).1
        have hju : listed.getD j false = false := by rw [getD_any listed j false true (by rw [h.size]; exact hlt)]; exact hu
        cases hku : listed.getD k true with
        | true =>
          have := h.down k o e hk hku he hb
          rw [ho, hju] at this
          cases this
        | false =>
          have := ih k (by omega) hku hk'
          subst this
          rw [hk] at hoz; cases hoz
          have := hall e he hb
          rw [ho, hju] at this
          cases this
  exact fun j => key _ j (Nat.le_refl _)

theorem unlisted {listed : Array Bool} {i j : Nat} (hj : j ∈ Region.ready md ops listed) (hi : i ∈ Region.ready md ops listed) :
    ∀ oj, ops[j]? = some oj → ∀ e ∈ oj.after, Region.binds md e = true → e.on ≠ i := by
  intro oj hoj e he hb heq
  obtain ⟨_, o, ho, hall⟩ := mem_ready.1 hj
  rw [hoj] at ho
  cases ho
  have h1 := hall e he hb
  have h0 := (mem_ready.1 hi).1
  rw [heq] at h1
  rcases Nat.lt_or_ge i listed.size with h | h
  · rw [getD_any listed i true false h, h1] at h0; cases h0
  · simp [Array.getD, Nat.not_lt.2 h] at h1

theorem wpAnyL_first {i : Nat} {oi : Oper} {v : Value} (hi : ops[i]? = some oi) (hiz : i ≠ z) (hsel : ∀ (j : Nat) (o : Oper) cs b, ops[j]? = some o → o.op ≠ .select cs b)
    (hQ : ∀ c a w, Q (.panic c) (a.put oi.dst v) w → Q (.panic c) a w) (n : Nat) : ∀ (listed : Array Bool) (a : Act) (w : World), Down md ops z listed →
      (∀ j oj, ops[j]? = some oj → j ≠ i → listed.getD j true = false → (∀ e ∈ oj.after, Region.binds md e = true → e.on ≠ i) → oi.apart ops oj = true) →
      i ∈ Region.ready md ops listed → YieldsIf P ops S oi v a → S w →
      wpAnyL P md ops Q S z n (listed.setIfInBounds i true) (a.put oi.dst v) w → wpAnyL P md ops Q S z (n + 1) listed a w := by
  induction n with
  | zero =>
    intro listed a w _ _ hr hy hS H
    refine ⟨fun h => (by rw [h] at hr; cases hr), fun j hj => ?_⟩
    rcases Decidable.em (j = i) with rfl | hji
    · exact hy.wpOp hi hS ⟨.inr hS, H⟩
    · have := ready_mono hj hji
      rw [H.1] at this
      cases this
  | succ n ih =>
    intro listed a w hd hfree hr hy hS H
    refine ⟨fun h => (by rw [h] at hr; cases hr), fun j hj => ?_⟩
    rcases Decidable.em (j = i) with rfl | hji
    · exact hy.wpOp hi hS ⟨.inr hS, H⟩
    · obtain ⟨hjun, oj, hoj, -⟩ := mem_ready.1 hj
      have hjz : j ≠ z := by
        rintro rfl
        obtain ⟨h0, o, ho, _⟩ := mem_ready.1 hr
        exact hiz (hd.last hj i h0 (Array.getElem?_eq_some_iff.1 ho).1)
      refine wpOp_mono (fun a' w' h3 => ?_) (wpOp_putIf hoj (hfree j oj hoj hji hjun (unlisted hj hr oj hoj)) (fun cs b => hsel i oi cs b hi) (fun cs b => hsel j oj cs b hoj) hQ hy (H.2 j (ready_mono hj hji)))
      obtain ⟨hy', hS' | hS', H'⟩ := h3
      · exact absurd hS' hjz
      refine ⟨.inr hS', ih (listed.setIfInBounds j true) a' w' (hd.set_ hj) (fun k ok hk hki hun hno => ?_) (ready_mono hr (Ne.symm hji)) hy' hS' ?_⟩
      · refine hfree k ok hk hki ?_ hno
        rcases Decidable.em (j = k) with rfl | hjk
        · exact hjun
        · rwa [getD_set_ne true hjk] at hun
      · rw [Array.setIfInBounds_comm _ _ hji]
        exact H'

theorem wpAnyL_seg (hs : Region.noSelect ops = true) (hQ : ∀ c (d : Option Tmp) (v : Value) (a : Act) w, Q (.panic c) (a.put d v) w → Q (.panic c) a w) {fuel : Nat} {w : World} (hS : S w) :
    ∀ (q : List Nat) (n : Nat) (listed : Array Bool) (a : Act), lastOk md ops z listed = true → segOk md ops q listed = true → q.contains z = false → n = q.length + fuel →
      wpQuiet P ops S (fun a' => wpAnyL P md ops Q S z fuel (listAll q listed) a' w) (opsOf ops q) a → wpAnyL P md ops Q S z n listed a w := by
  suffices hD : ∀ (q : List Nat) (n : Nat) (listed : Array Bool) (a : Act), Down md ops z listed → segOk md ops q listed = true → q.contains z = false → n = q.length + fuel →
      wpQuiet P ops S (fun a' => wpAnyL P md ops Q S z fuel (listAll q listed) a' w) (opsOf ops q) a → wpAnyL P md ops Q S z n listed a w from fun q n listed a h => hD q n listed a (Down.of h)
  intro q
  induction q with
  | nil =>
    intro n listed a _ _ _ hn h
    subst hn
    simpa [opsOf, wpQuiet, listAll] using h
  | cons i q ih =>
    intro n listed a hd hok hz hn h
    simp only [segOk, Bool.and_eq_true] at hok
    simp only [List.contains_cons, Bool.or_eq_false_iff, beq_eq_false_iff_ne, ne_eq] at hz
    obtain ⟨⟨⟨hr, hf⟩, hc⟩, hok'⟩ := hok
    cases hoi : ops[i]? with
    | none => simp [hoi] at hc
    | some o =>
      simp only [hoi, Option.map_some, Option.getD_some] at hc
      have hl' : opsOf ops (i :: q) = o :: opsOf ops q := by rw [opsOf_cons, hoi, consOp_some]
      rw [hl'] at h
      obtain rfl : n = (q.length + fuel) + 1 := by simp at hn; omega
      have hri : i ∈ Region.ready md ops listed := by simpa using hr
      simp only [wpQuiet] at h
      split at h
      · rename_i hw
        obtain ⟨v, hv, hK⟩ := h
        exact wpAnyL_first hoi (Ne.symm hz.1) (Region.noSelect_spec hs) (fun c a w => hQ c _ _ a w) _ listed a w hd (Region.free_spec hoi hf) hri (.inl ⟨hw, fun w' hw' => calm_val hc (hv w' hw')⟩) hS (ih _ _ _ (hd.set_ hri) hok' hz.2 rfl hK)
      · rename_i hw
        exact wpAnyL_first hoi (Ne.symm hz.1) (Region.noSelect_spec hs) (fun c a w => hQ c _ _ a w) _ listed a w hd (Region.free_spec hoi hf) hri (.inr ⟨by simpa using hw, rfl⟩) hS (ih _ _ _ (hd.set_ hri) hok' hz.2 rfl h)

/-- What is still to come behind operation i. -/
def AfterL (P : Program) (md : Region.Mode) (ops : Array Oper) (Q : Exit → Act → World → Prop) (S : World → Prop) (z fuel : Nat) (listed : Array Bool) (i : Nat) (K : Act → World → Prop) : Prop :=
  ∀ a w, (i = z ∨ S w) → wpAnyL P md ops Q S z fuel (listed.setIfInBounds i true) a w → K a w
theorem AfterL.out {fuel : Nat} {listed : Array Bool} {i : Nat} {K : Act → World → Prop} (h : AfterL P md ops Q S z fuel listed i K) {a : Act} {w : World} (hS : i = z ∨ S w) (hW : wpAnyL P md ops Q S z fuel (listed.setIfInBounds i true) a w) : K a w := h a w hS hW
/-- Each of those that may come up now. -/
def EachL (P : Program) (md : Region.Mode) (ops : Array Oper) (Q : Exit → Act → World → Prop) (S : World → Prop) (z fuel : Nat) (listed : Array Bool) (a : Act) (w : World) (rs : List Nat) : Prop :=
  ∀ i ∈ rs, wpOp P ops Q i (fun a' w' => (i = z ∨ S w') ∧ wpAnyL P md ops Q S z fuel (listed.setIfInBounds i true) a' w') a w
theorem EachL.nil {fuel : Nat} {listed : Array Bool} {a : Act} {w : World} : EachL P md ops Q S z fuel listed a w [] := fun _ h => by cases h
theorem EachL.cons {fuel : Nat} {listed : Array Bool} {a : Act} {w : World} {i : Nat} {rs : List Nat} (o : Oper) (ho : ops[i]? = some o)
    (h : ∀ K' : Act → World → Prop, AfterL P md ops Q S z fuel listed i K' → if Region.wanted o (yielded ops a.tmps) = true then Oper.wp P o a w K' Q else K' (a.put o.dst undef) w)
    (hs : EachL P md ops Q S z fuel listed a w rs) : EachL P md ops Q S z fuel listed a w (i :: rs) := fun j hj => by
  rcases List.mem_cons.1 hj with rfl | hj
  · exact wpOp_step ho (fun K' hK => h K' (fun a w hS hW => hK a w ⟨hS, hW⟩))
  · exact hs j hj
theorem wpAnyL_each {n fuel : Nat} {listed : Array Bool} {a : Act} {w : World} (rs : List Nat) (hr : Region.ready md ops listed = rs) (hne : rs ≠ []) (hn : n = fuel + 1)
    (h : EachL P md ops Q S z fuel listed a w rs) : wpAnyL P md ops Q S z n listed a w := by
  subst hn
  exact ⟨fun h0 => absurd (hr ▸ h0) hne, hr ▸ h⟩
theorem wpAnyL_done {listed : Array Bool} {a : Act} {w : World} (hr : Region.ready md ops listed = []) (h : Q .normal a w) : ∀ n, wpAnyL P md ops Q S z n listed a w
  | 0 => ⟨hr, h⟩
  | _ + 1 => ⟨fun _ => h, by rw [hr]; simp⟩
theorem wp_region_L {id : Nat} {a : Act} {w : World} (z : Nat) (hm : P.follows .mixedOrders = true) (hS : S w.drew)
    (h : S w.drew → wpAnyL P .any ops Q S z ops.size (Array.replicate ops.size false) a w.drew) : (Code.region id ops true).wp P Q a w :=
  wp_region_any hm (wpAny_ofL _ _ _ _ (h hS))
end
end Go.Proofs.Ytfdogefoodljaaa

namespace Go.Proofs.Ytfdogefoodljaaa
open Go.RowKit

/-- What dev.Twin made: where it lies. -/
structure TwinAt (B : Nat) (w : World) (gb gw g : Nat) (cur : Array Value) (d : DiskL) : Prop where
  row : RowB w g 5 (datD d).flatten
  bl : ∀ i, i < d.blocks.length → ∃ o, w.cell? ⟨gb, i, none⟩ = some (.slice (some ⟨g, o, none⟩) (d.blocks.getD i []).length (d.blocks.getD i []).length) ∧ (0 < (d.blocks.getD i []).length → o = posD (datD d) i)
  wcur : w.heap[gw]? = some (.cells cur 54 (0, 0))
  wsz : cur.size = (d.waits.length + 1) * 2
  wt : ∀ i, i < d.waits.length → cur[i * 2]? = some (.int .i64 (d.waits.getD i ⟨0, []⟩).at_) ∧ ∃ o, cur[i * 2 + 1]? = some (.slice (some ⟨g, o, none⟩) (d.waits.getD i ⟨0, []⟩).data.length (d.waits.getD i ⟨0, []⟩).data.length) ∧ (0 < (d.waits.getD i ⟨0, []⟩).data.length → o = posD (datD d) (d.blocks.length + i))
  wf : ∀ i, i < d.waits.length → (Lit.int .i64 (d.waits.getD i ⟨0, []⟩).at_).wf = true
  lo : B ≤ g ∧ B ≤ gb ∧ B ≤ gw
  hi : g < w.heap.size ∧ gb < w.heap.size ∧ gw < w.heap.size
  ne : g ≠ gb ∧ g ≠ gw ∧ gb ≠ gw

end Go.Proofs.Ytfdogefoodljaaa

