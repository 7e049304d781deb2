/- RingCodes: the words and contracts, part 3. -/
import Derived.Test.YtcibihakjcenaaaRingCodesQ1
import Derived.Test.YtcibihakjcenaaaRingCodesQ2
import Derived.WalkKit
import Derived.WalkLawsBesides
import Derived.WalkSpells
import Derived.Lib.Hide
import Derived.Laws.Rows
import Derived.Laws.AppendOwnNone
import Derived.Maps.AppendAt
import Derived.RangeFuncNested
import Derived.RangeFuncBound
import Derived.RangeFuncCalls
import Derived.RangeFuncLeaves
import Derived.RangeFuncBox
import Derived.Shelf.Abstract
import Derived.Shelf.RegionOpen
import Derived.OwnWalkIn
import Derived.TacticsInMore
import Derived.LoopNIn
import Derived.LoopIn
namespace Go.Proofs.Ytcibihakjcenaaa
open Go.RowKit Go.Shelf
attribute [local go_sem] Oper.semAt_some

/-- The number of some bytes, the lowest first. -/
def numOf : List UInt8 → Nat
  | [] => 0
  | x :: l => x.toNat + 256 * numOf l

def foldBack (pre : List (Nat × UInt8)) : Int := pre.foldl (fun n x => bits BinOp.or IntKind.u32 (n * 256 % 4294967296) x.2.toNat) 0

set_option maxRecDepth 100000 in
set_option maxHeartbeats 2000000 in
theorem get_yes (v : Value) (l : List UInt8) (at_ many : Nat) (w : World) (hI : Bytes w 0 w.heap.size v l) (h1 : at_ + many ≤ l.length) (h0 : 0 < many) :
    Calls Try.prog 107 #[v, .int .i64 at_, .int .i64 many] w fun e w' =>
      e = .returned (.tuple #[.int .u32 (foldBack (backTo ((l.drop at_).take many) many)), .int .i64 0]) ∧ Below w.heap.size w w' := by
  obtain ⟨a, c, rfl, g1, g2, g3, _⟩ := id hI
  obtain ⟨b, off, rfl, _, hb, hc⟩ := g3 (by omega)
  unfold maxLen at g2
  refine (callsIn_wide (n := 3)).1 ?_
  refine callsIn_of_wp_marks Try.func107 rfl trivial ?_ rfl
  simp only [Try.ntmps107, List.size_toArray, List.length_cons, List.length_nil, Nat.reduceAdd, Nat.reduceSub, Array.replicate_succ, Array.replicate_zero, List.push_toArray, List.append_toArray, List.nil_append, List.cons_append]
  have hcut : Bytes w 0 w.heap.size (.slice (some ⟨b, off + at_, none⟩) many (c - at_)) ((l.drop at_).take many) := hI.cut at_ many _ h1 (by omega) (by unfold maxLen; omega)
  have hlen : ((l.drop at_).take many).length = many := by simp; omega
  generalize (l.drop at_).take many = bs at *
  clear hc g3 hI
  gi_wp2_with (refine ⟨trivial, ?_⟩; gi_at_call 136; refine (back_in Fence.wide _ trivial rfl _ _ _ _).mono ?_; rintro e w' ⟨rfl, rfl⟩)
  have hs := cell_new_l w (.int .u32 0) 22
  have hb1 := cell_new_l (w.alloc (.cells #[.int .u32 0] 22)) (.slice (some ⟨b, off + at_, none⟩) many (c - at_)) 26
  rw [World.size_alloc] at hb1
  have hcut2 := hcut.below (((Below.refl _ w).alloc (Nat.le_refl _) (.cells #[.int .u32 0] 22)).alloc (by simp) (.cells #[.slice (some ⟨b, off + at_, none⟩) many (c - at_)] 26)) (Nat.le_refl _)
  refine wpIn_rangeFunc_ownF rfl (by omega) (gf := 157) (lb := #[.pointer (some ⟨w.heap.size + 1, 0, none⟩)]) rfl trivial (enters_of Try.func157 (by kernel_rfl) rfl)
    (back_stops Fence.wide 2 trivial rfl (by omega) (w.heap.size + 1) w.heap.size 0 _ bs _ (by simp) (by simp; omega) hb1.1 hcut2) KeepB.trans (keepB_b (by simp; omega) (by simp)) (Below.refl _ _) (fun _ => rfl)
    (fun pre W => (W.cell? ⟨w.heap.size, 0, none⟩ = some (.int .u32 (foldBack pre)) ∧ W.frozen? ⟨w.heap.size, 0, none⟩ = false) ∧ Below w.heap.size w W)
    (fun _ _ _ => False)
    (OwnFrom.and (Own.from (fun s A B row hs hg hr => ⟨cell_kept hs.1 hg hr, (frozen_kept hs.1 hg hr).trans hs.2⟩) _) (ownFrom_below (Nat.le_refl _) (by simp; omega)))
    (fun _ => Own.from (fun _ _ _ _ hs _ _ => hs) _)
    ⟨⟨cell_alloc_l _ hs.1, frozen_alloc_l _ hs.1 hs.2⟩, (((Below.refl _ w).alloc (Nat.le_refl _) _).alloc (by simp) _)⟩
    ?a1 ?assign ?body ?done ?stop
  case assign =>
    intro l x W K hK
    gi_wp2
    exact hK
  case body =>
    rintro r pre ⟨i, x⟩ W ⟨⟨hc, hf⟩, hB⟩ _
    have hx : (x.toNat : Int) < 256 := by have := x.toNat_lt; omega
    obtain ⟨q, hq⟩ : ∃ q, foldBack pre = q := ⟨_, rfl⟩
    have HQ := Lib.hid hq
    rw [hq] at hc
    clear hq hcut2 hb1 hs
    gi_wp2
    refine ⟨KeepsOthers.setCell _ _ _, ⟨(Below.refl w.heap.size W).setCell (p := ⟨w.heap.size, 0, none⟩) (Nat.le_refl _) _, World.cell?_setCell_other _ _ _ _ (by simp)⟩, ⟨?_, by rw [World.frozen?_setCell]; exact hf⟩, hB.setCell (p := ⟨w.heap.size, 0, none⟩) (Nat.le_refl _) _⟩
    rw [show foldBack (pre ++ [(i, x)]) = bits BinOp.or IntKind.u32 (foldBack pre * 256 % 4294967296) x.toNat by simp [foldBack], HQ.out]
    exact World.cell?_setCell_same' _ _ _ (by rw [hc]; rfl)
  case done =>
    rintro D ys W hD rfl ⟨⟨hc, hf⟩, hB⟩ hK
    gi_wp2
    have hK2 : (W.setCell ⟨w.heap.size, 0, none⟩ (.int .u32 (foldBack (backTo bs many)))).heap[D]? = some (.deferred (some [])) := (KeepsOthers.setCell W _ _).same D _ hK rfl
    refine ⟨by simp, .inl ⟨_, _, rfl, run_takeDeferred hK2, ?_⟩⟩
    have hcf : ((W.setCell ⟨w.heap.size, 0, none⟩ (.int .u32 (foldBack (backTo bs many)))).putObj D (.deferred none)).cell? ⟨w.heap.size, 0, none⟩ = some (.int .u32 (foldBack (backTo bs many))) :=
      cell_kept (World.cell?_setCell_same' _ _ _ (by rw [hc]; rfl)) (grownBy_putObj' _ D (.deferred none)) (fun r e => by cases e; exact ⟨_, hK2, rfl⟩)
    simp at hD
    exact ⟨.tuple #[.int .u32 (foldBack (backTo bs many)), .int .i64 0], by simp [results, Try.results107, go_sem, hcf], rfl,
      (hB.setCell (p := ⟨w.heap.size, 0, none⟩) (Nat.le_refl _) _).trans (belowK_b (w := w) (Nat.le_refl _) _ D _ _ (by omega) hK2 rfl rfl)⟩
  case stop =>
    intro D c pre W _ _ h _
    exact h.elim

theorem or_step (q x : Nat) (hq : q < 16777216) (hx : x < 256) : bits BinOp.or IntKind.u32 ((q : Int) * 256 % 4294967296) (x : Int) = ((q * 256 + x : Nat) : Int) := by
  have e : ((q : Int) * 256 % 4294967296) = ((q * 256 : Nat) : Int) := by omega
  rw [e, bits_join .u32 32 (by decide) (fun n h₀ h₁ => by rw [IntKind.wrap_u32]; omega) 8 _ _ (by omega) (by omega) (by omega) (by omega) (by omega) (by omega)]
  omega

theorem foldBack_two (a b : UInt8) : foldBack (backTo [a, b] 2) = (numOf [a, b] : Int) := by
  have ha := a.toNat_lt
  have hb := b.toNat_lt
  have h1 := or_step 0 b.toNat (by omega) (by omega)
  have h2 := or_step b.toNat a.toNat (by omega) (by omega)
  simp at h1
  simp [foldBack, backTo, List.range, List.range.loop, h1, h2, numOf]
  omega
theorem foldBack_four (a b c d : UInt8) : foldBack (backTo [a, b, c, d] 4) = (numOf [a, b, c, d] : Int) := by
  have ha := a.toNat_lt
  have hb := b.toNat_lt
  have hc := c.toNat_lt
  have hd := d.toNat_lt
  have h1 := or_step 0 d.toNat (by omega) (by omega)
  have h2 := or_step d.toNat c.toNat (by omega) (by omega)
  have h3 := or_step (d.toNat * 256 + c.toNat) b.toNat (by omega) (by omega)
  have h4 := or_step ((d.toNat * 256 + c.toNat) * 256 + b.toNat) a.toNat (by omega) (by omega)
  simp at h1
  simp only [foldBack, backTo, List.range, List.range.loop, List.map_cons, List.map_nil, List.foldl_cons, List.foldl_nil, List.length_cons, List.length_nil, Nat.reduceAdd, Nat.reduceSub, List.getD_cons_zero, List.getD_cons_succ, Int.zero_mul]
  rw [show (0 : Int) % 4294967296 = 0 by decide, h1, h2, h3, h4]
  simp [numOf]
  omega

/-- What get answers: a number and an error. -/
def getN (l : List UInt8) (at_ : Int) (many : Nat) : Nat := if 0 ≤ at_ ∧ at_.toNat + many ≤ l.length then numOf ((l.drop at_.toNat).take many) else 0
def getE (l : List UInt8) (at_ : Int) (many : Nat) : Int := if 0 ≤ at_ ∧ at_.toNat + many ≤ l.length then 0 else 8

set_option maxRecDepth 100000 in
set_option maxHeartbeats 1000000 in
theorem get_no (v : Value) (l : List UInt8) (at_ : Int) (many : Nat) (w : World) (hI : Bytes w 0 w.heap.size v l) (h1 : ¬ (0 ≤ at_ ∧ at_.toNat + many ≤ l.length)) (h4 : many ≤ 4) :
    Calls Try.prog 107 #[v, .int .i64 at_, .int .i64 many] w fun e w' => e = .returned (.tuple #[.int .u32 0, .int .i64 8]) ∧ Below w.heap.size w w' := by
  obtain ⟨a, c, rfl, g1, g2, g3⟩ := hI
  unfold maxLen at g2
  clear g3
  by_cases hneg : at_ < 0
  · go_enter Try.func107, Try.ntmps107
    go_wp2
    exact bodyPost_ret (v := .tuple #[.int .u32 0, .int .i64 8]) (by simp [results, Try.results107, go_sem]) rfl ⟨rfl, (Below.refl _ _).alloc (Nat.le_refl _) _⟩
  · have hgt : (l.length : Int) - many < at_ := by omega
    go_enter Try.func107, Try.ntmps107
    go_wp2
    exact bodyPost_ret (v := .tuple #[.int .u32 0, .int .i64 8]) (by simp [results, Try.results107, go_sem]) rfl ⟨rfl, (Below.refl _ _).alloc (Nat.le_refl _) _⟩

theorem get_any (v : Value) (l : List UInt8) (at_ : Int) (many : Nat) (w : World) (hI : Bytes w 0 w.heap.size v l) (hm : many = 2 ∨ many = 4) :
    Calls Try.prog 107 #[v, .int .i64 at_, .int .i64 many] w fun e w' => e = .returned (.tuple #[.int .u32 (getN l at_ many), .int .i64 (getE l at_ many)]) ∧ Below w.heap.size w w' := by
  by_cases h : 0 ≤ at_ ∧ at_.toNat + many ≤ l.length
  · obtain ⟨k, rfl⟩ := Int.eq_ofNat_of_zero_le h.1
    simp at h
    have hk : (l.drop k).length = l.length - k := by simp
    have e1 : foldBack (backTo ((l.drop k).take many) many) = (getN l k many : Int) := by
      simp only [getN, Int.toNat_natCast]
      rw [if_pos (by omega)]
      rcases hm with rfl | rfl
      · match (l.drop k), hk with
        | a :: b :: r, _ => exact foldBack_two a b
        | [], hk => simp at hk; omega
        | [a], hk => simp at hk; omega
      · match (l.drop k), hk with
        | a :: b :: c :: d :: r, _ => exact foldBack_four a b c d
        | [], hk => simp at hk; omega
        | [a], hk => simp at hk; omega
        | [a, b], hk => simp at hk; omega
        | [a, b, c], hk => simp at hk; omega
    have e2 : getE l k many = 0 := by simp only [getE, Int.toNat_natCast]; rw [if_pos (by omega)]
    rw [← e1, e2]
    exact get_yes v l k many w hI h (by omega)
  · have e1 : getN l at_ many = 0 := by rw [getN, if_neg h]
    have e2 : getE l at_ many = 8 := by rw [getE, if_neg h]
    rw [e1, e2]
    exact get_no v l at_ many w hI h (by omega)

theorem numOf_lt : ∀ l : List UInt8, numOf l < 256 ^ l.length
  | [] => by simp [numOf]
  | x :: l => by
    have := numOf_lt l
    have := x.toNat_lt
    simp only [numOf, List.length_cons, Nat.pow_succ]
    omega
theorem getN_lt (l : List UInt8) (at_ : Int) (many : Nat) : getN l at_ many < 256 ^ many := by
  unfold getN
  split
  · exact Nat.lt_of_lt_of_le (numOf_lt _) (Nat.pow_le_pow_right (by decide) (by simp; omega))
  · exact Nat.pow_pos (by decide)

set_option maxHeartbeats 1000000 in
theorem getTwo_any (v : Value) (l : List UInt8) (at_ : Int) (w : World) (hI : Bytes w 0 w.heap.size v l) :
    Calls Try.prog 61 #[v, .int .i64 at_] w fun e w' => e = .returned (.tuple #[.int .i64 (getN l at_ 2), .int .i64 (getE l at_ 2)]) ∧ Below w.heap.size w w' := by
  have hn := getN_lt l at_ 2
  have hc := get_any v l at_ 2 w hI (.inl rfl)
  generalize getN l at_ 2 = n at *
  generalize getE l at_ 2 = f at *
  clear hI
  go_enter Try.func61, Try.ntmps61
  go_wp2_with (go_at_call 107; refine hc.mono ?_; rintro e w' ⟨rfl, hb⟩)
  go_ret2
  exact ⟨rfl, hb⟩

set_option maxHeartbeats 1000000 in
theorem getFour_any (v : Value) (l : List UInt8) (at_ : Int) (w : World) (hI : Bytes w 0 w.heap.size v l) :
    Calls Try.prog 60 #[v, .int .i64 at_] w fun e w' => e = .returned (.tuple #[.int .u32 (getN l at_ 4), .int .i64 (getE l at_ 4)]) ∧ Below w.heap.size w w' := by
  have hc := get_any v l at_ 4 w hI (.inr rfl)
  generalize getN l at_ 4 = n at *
  generalize getE l at_ 4 = f at *
  clear hI
  go_enter Try.func60, Try.ntmps60
  go_wp2_with (go_at_call 107; refine hc.mono ?_; rintro e w' ⟨rfl, hb⟩)
  go_ret2
  exact ⟨rfl, hb⟩

/-- A number's bytes. -/
def twoL (n : Nat) : List UInt8 := [UInt8.ofNat n, UInt8.ofNat (n / 256)]
def fourL (n : Nat) : List UInt8 := [UInt8.ofNat n, UInt8.ofNat (n / 256), UInt8.ofNat (n / 65536), UInt8.ofNat (n / 16777216)]

theorem two_yes (n : Nat) (w : World) (h : n < 65536) :
    Calls Try.prog 53 #[.int .i64 n] w fun e w' => ∃ v, e = .returned (.tuple #[v, .int .i64 0]) ∧ MadeB w w' v (twoL n) := by
  have h0 : ((n : Int) / 65536 != 0) = false := by simp; omega
  go_enter Try.func53, Try.ntmps53
  go_wp2
  go_ret2
  refine ⟨_, rfl, MadeB.new (Below.refl _ _) _ _ (by simp [twoL, maxLen]) _ ?_ _ (by simp [twoL])⟩
  simp only [twoL, List.map_cons, List.map_nil]
  rw [bV_ofNat _ n (by omega), bV_ofNat _ (n / 256) (by omega)]

theorem four_any (n : Nat) (w : World) (h : n < 4294967296) :
    Calls Try.prog 55 #[.int .u32 n] w fun e w' => ∃ v, e = .returned v ∧ MadeB w w' v (fourL n) := by
  go_enter Try.func55, Try.ntmps55
  go_wp2
  go_ret
  refine ⟨_, rfl, MadeB.new (Below.refl _ _) _ _ (by simp [fourL, maxLen]) _ ?_ _ (by simp [fourL])⟩
  simp only [fourL, List.map_cons, List.map_nil]
  rw [bV_ofNat _ n (by omega), bV_ofNat _ (n / 256) (by omega), bV_ofNat _ (n / 65536) (by omega), bV_ofNat _ (n / 16777216) (by omega)]
end Go.Proofs.Ytcibihakjcenaaa

