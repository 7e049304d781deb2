/- NodeCodes: the words and contracts, part 2. -/
import Derived.Test.YthealkfpflkipaaNodeCodesQ1
import Derived.WalkKit
import Derived.WalkLawsBesides
import Derived.WalkSpells
import Derived.Lib.Hide
import Derived.Laws.Rows
import Derived.Laws.AppendOwnNone
import Derived.Maps.AppendAt
import Derived.RangeFuncNested
import Derived.RangeFuncBound
import Derived.RangeFuncCalls
import Derived.RangeFuncLeaves
import Derived.RangeFuncBox
import Derived.Shelf.Abstract
import Derived.Shelf.RegionOpen
import Derived.OwnWalkIn
import Derived.TacticsInMore
import Derived.LoopNIn
import Derived.LoopIn
import Derived.Lib.AppendZerosOnto
import Derived.Lib.SliceRun
import Derived.Lib.Walk
import Derived.Deep.LoopGhost
import Derived.Laws.CopyOwn
import Derived.Laws.CopyRow
import Derived.ProofKit
import Derived.Deep.Slices
import Derived.WideShapes
namespace Go.Proofs.Ythealkfpflkipaa
open Go.RowKit Go.Shelf
attribute [local go_sem] Oper.semAt_some

/-- The number of some bytes, the lowest first. -/
def numOf : List UInt8 → Nat
  | [] => 0
  | x :: l => x.toNat + 256 * numOf l

def foldBack (pre : List (Nat × UInt8)) : Int := pre.foldl (fun n x => bits BinOp.or IntKind.u32 (n * 256 % 4294967296) x.2.toNat) 0

set_option maxRecDepth 100000 in
set_option maxHeartbeats 2000000 in
theorem get_yes (v : Value) (l : List UInt8) (at_ many : Nat) (w : World) (hI : Bytes w 0 w.heap.size v l) (h1 : at_ + many ≤ l.length) (h0 : 0 < many) :
    Calls Try.prog 97 #[v, .int .i64 at_, .int .i64 many] w fun e w' =>
      e = .returned (.tuple #[.int .u32 (foldBack (backTo ((l.drop at_).take many) many)), .int .i64 0]) ∧ Below w.heap.size w w' := by
  obtain ⟨a, c, rfl, g1, g2, g3, _⟩ := id hI
  obtain ⟨b, off, rfl, _, hb, hc⟩ := g3 (by omega)
  unfold maxLen at g2
  refine (callsIn_wide (n := 3)).1 ?_
  refine callsIn_of_wp_marks Try.func97 rfl trivial ?_ rfl
  simp only [Try.ntmps97, List.size_toArray, List.length_cons, List.length_nil, Nat.reduceAdd, Nat.reduceSub, Array.replicate_succ, Array.replicate_zero, List.push_toArray, List.append_toArray, List.nil_append, List.cons_append]
  have hcut : Bytes w 0 w.heap.size (.slice (some ⟨b, off + at_, none⟩) many (c - at_)) ((l.drop at_).take many) := hI.cut at_ many _ h1 (by omega) (by unfold maxLen; omega)
  have hlen : ((l.drop at_).take many).length = many := by simp; omega
  generalize (l.drop at_).take many = bs at *
  clear hc g3 hI
  gi_wp2_with (refine ⟨trivial, ?_⟩; gi_at_call 103; refine (back_in Fence.wide _ trivial rfl _ _ _ _).mono ?_; rintro e w' ⟨rfl, rfl⟩)
  have hs := cell_new_l w (.int .u32 0) 34
  have hb1 := cell_new_l (w.alloc (.cells #[.int .u32 0] 34)) (.slice (some ⟨b, off + at_, none⟩) many (c - at_)) 22
  rw [World.size_alloc] at hb1
  have hcut2 := hcut.below (((Below.refl _ w).alloc (Nat.le_refl _) (.cells #[.int .u32 0] 34)).alloc (by simp) (.cells #[.slice (some ⟨b, off + at_, none⟩) many (c - at_)] 22)) (Nat.le_refl _)
  refine wpIn_rangeFunc_ownF rfl (by omega) (gf := 104) (lb := #[.pointer (some ⟨w.heap.size + 1, 0, none⟩)]) rfl trivial (enters_of Try.func104 (by kernel_rfl) rfl)
    (back_stops Fence.wide 2 trivial rfl (by omega) (w.heap.size + 1) w.heap.size 0 _ bs _ (by simp) (by simp; omega) hb1.1 hcut2) KeepB.trans (keepB_b (by simp; omega) (by simp)) (Below.refl _ _) (fun _ => rfl)
    (fun pre W => (W.cell? ⟨w.heap.size, 0, none⟩ = some (.int .u32 (foldBack pre)) ∧ W.frozen? ⟨w.heap.size, 0, none⟩ = false) ∧ Below w.heap.size w W)
    (fun _ _ _ => False)
    (OwnFrom.and (Own.from (fun s A B row hs hg hr => ⟨cell_kept hs.1 hg hr, (frozen_kept hs.1 hg hr).trans hs.2⟩) _) (ownFrom_below (Nat.le_refl _) (by simp; omega)))
    (fun _ => Own.from (fun _ _ _ _ hs _ _ => hs) _)
    ⟨⟨cell_alloc_l _ hs.1, frozen_alloc_l _ hs.1 hs.2⟩, (((Below.refl _ w).alloc (Nat.le_refl _) _).alloc (by simp) _)⟩
    ?a1 ?assign ?body ?done ?stop
  case assign =>
    intro l x W K hK
    gi_wp2
    exact hK
  case body =>
    rintro r pre ⟨i, x⟩ W ⟨⟨hc, hf⟩, hB⟩ _
    have hx : (x.toNat : Int) < 256 := by have := x.toNat_lt; omega
    obtain ⟨q, hq⟩ : ∃ q, foldBack pre = q := ⟨_, rfl⟩
    have HQ := Lib.hid hq
    rw [hq] at hc
    clear hq hcut2 hb1 hs
    gi_wp2
    refine ⟨KeepsOthers.setCell _ _ _, ⟨(Below.refl w.heap.size W).setCell (p := ⟨w.heap.size, 0, none⟩) (Nat.le_refl _) _, World.cell?_setCell_other _ _ _ _ (by simp)⟩, ⟨?_, by rw [World.frozen?_setCell]; exact hf⟩, hB.setCell (p := ⟨w.heap.size, 0, none⟩) (Nat.le_refl _) _⟩
    rw [show foldBack (pre ++ [(i, x)]) = bits BinOp.or IntKind.u32 (foldBack pre * 256 % 4294967296) x.toNat by simp [foldBack], HQ.out]
    exact World.cell?_setCell_same' _ _ _ (by rw [hc]; rfl)
  case done =>
    rintro D ys W hD rfl ⟨⟨hc, hf⟩, hB⟩ hK
    gi_wp2
    have hK2 : (W.setCell ⟨w.heap.size, 0, none⟩ (.int .u32 (foldBack (backTo bs many)))).heap[D]? = some (.deferred (some [])) := (KeepsOthers.setCell W _ _).same D _ hK rfl
    refine ⟨by simp, .inl ⟨_, _, rfl, run_takeDeferred hK2, ?_⟩⟩
    have hcf : ((W.setCell ⟨w.heap.size, 0, none⟩ (.int .u32 (foldBack (backTo bs many)))).putObj D (.deferred none)).cell? ⟨w.heap.size, 0, none⟩ = some (.int .u32 (foldBack (backTo bs many))) :=
      cell_kept (World.cell?_setCell_same' _ _ _ (by rw [hc]; rfl)) (grownBy_putObj' _ D (.deferred none)) (fun r e => by cases e; exact ⟨_, hK2, rfl⟩)
    simp at hD
    exact ⟨.tuple #[.int .u32 (foldBack (backTo bs many)), .int .i64 0], by simp [results, Try.results97, go_sem, hcf], rfl,
      (hB.setCell (p := ⟨w.heap.size, 0, none⟩) (Nat.le_refl _) _).trans (belowK_b (w := w) (Nat.le_refl _) _ D _ _ (by omega) hK2 rfl rfl)⟩
  case stop =>
    intro D c pre W _ _ h _
    exact h.elim

theorem or_step (q x : Nat) (hq : q < 16777216) (hx : x < 256) : bits BinOp.or IntKind.u32 ((q : Int) * 256 % 4294967296) (x : Int) = ((q * 256 + x : Nat) : Int) := by
  have e : ((q : Int) * 256 % 4294967296) = ((q * 256 : Nat) : Int) := by omega
  rw [e, bits_join .u32 32 (by decide) (fun n h₀ h₁ => by rw [IntKind.wrap_u32]; omega) 8 _ _ (by omega) (by omega) (by omega) (by omega) (by omega) (by omega)]
  omega

theorem foldBack_two (a b : UInt8) : foldBack (backTo [a, b] 2) = (numOf [a, b] : Int) := by
  have ha := a.toNat_lt
  have hb := b.toNat_lt
  have h1 := or_step 0 b.toNat (by omega) (by omega)
  have h2 := or_step b.toNat a.toNat (by omega) (by omega)
  simp at h1
  simp [foldBack, backTo, List.range, List.range.loop, h1, h2, numOf]
  omega
theorem foldBack_four (a b c d : UInt8) : foldBack (backTo [a, b, c, d] 4) = (numOf [a, b, c, d] : Int) := by
  have ha := a.toNat_lt
  have hb := b.toNat_lt
  have hc := c.toNat_lt
  have hd := d.toNat_lt
  have h1 := or_step 0 d.toNat (by omega) (by omega)
  have h2 := or_step d.toNat c.toNat (by omega) (by omega)
  have h3 := or_step (d.toNat * 256 + c.toNat) b.toNat (by omega) (by omega)
  have h4 := or_step ((d.toNat * 256 + c.toNat) * 256 + b.toNat) a.toNat (by omega) (by omega)
  simp at h1
  simp only [foldBack, backTo, List.range, List.range.loop, List.map_cons, List.map_nil, List.foldl_cons, List.foldl_nil, List.length_cons, List.length_nil, Nat.reduceAdd, Nat.reduceSub, List.getD_cons_zero, List.getD_cons_succ, Int.zero_mul]
  rw [show (0 : Int) % 4294967296 = 0 by decide, h1, h2, h3, h4]
  simp [numOf]
  omega

/-- What get answers: a number and an error. -/
def getN (l : List UInt8) (at_ : Int) (many : Nat) : Nat := if 0 ≤ at_ ∧ at_.toNat + many ≤ l.length then numOf ((l.drop at_.toNat).take many) else 0
def getE (l : List UInt8) (at_ : Int) (many : Nat) : Int := if 0 ≤ at_ ∧ at_.toNat + many ≤ l.length then 0 else 8

set_option maxRecDepth 100000 in
set_option maxHeartbeats 1000000 in
theorem get_no (v : Value) (l : List UInt8) (at_ : Int) (many : Nat) (w : World) (hI : Bytes w 0 w.heap.size v l) (h1 : ¬ (0 ≤ at_ ∧ at_.toNat + many ≤ l.length)) (h4 : many ≤ 4) :
    Calls Try.prog 97 #[v, .int .i64 at_, .int .i64 many] w fun e w' => e = .returned (.tuple #[.int .u32 0, .int .i64 8]) ∧ Below w.heap.size w w' := by
  obtain ⟨a, c, rfl, g1, g2, g3⟩ := hI
  unfold maxLen at g2
  clear g3
  by_cases hneg : at_ < 0
  · go_enter Try.func97, Try.ntmps97
    go_wp2
    exact bodyPost_ret (v := .tuple #[.int .u32 0, .int .i64 8]) (by simp [results, Try.results97, go_sem]) rfl ⟨rfl, (Below.refl _ _).alloc (Nat.le_refl _) _⟩
  · have hgt : (l.length : Int) - many < at_ := by omega
    go_enter Try.func97, Try.ntmps97
    go_wp2
    exact bodyPost_ret (v := .tuple #[.int .u32 0, .int .i64 8]) (by simp [results, Try.results97, go_sem]) rfl ⟨rfl, (Below.refl _ _).alloc (Nat.le_refl _) _⟩

theorem get_any (v : Value) (l : List UInt8) (at_ : Int) (many : Nat) (w : World) (hI : Bytes w 0 w.heap.size v l) (hm : many = 2 ∨ many = 4) :
    Calls Try.prog 97 #[v, .int .i64 at_, .int .i64 many] w fun e w' => e = .returned (.tuple #[.int .u32 (getN l at_ many), .int .i64 (getE l at_ many)]) ∧ Below w.heap.size w w' := by
  by_cases h : 0 ≤ at_ ∧ at_.toNat + many ≤ l.length
  · obtain ⟨k, rfl⟩ := Int.eq_ofNat_of_zero_le h.1
    simp at h
    have hk : (l.drop k).length = l.length - k := by simp
    have e1 : foldBack (backTo ((l.drop k).take many) many) = (getN l k many : Int) := by
      simp only [getN, Int.toNat_natCast]
      rw [if_pos (by omega)]
      rcases hm with rfl | rfl
      · match (l.drop k), hk with
        | a :: b :: r, _ => exact foldBack_two a b
        | [], hk => simp at hk; omega
        | [a], hk => simp at hk; omega
      · match (l.drop k), hk with
        | a :: b :: c :: d :: r, _ => exact foldBack_four a b c d
        | [], hk => simp at hk; omega
        | [a], hk => simp at hk; omega
        | [a, b], hk => simp at hk; omega
        | [a, b, c], hk => simp at hk; omega
    have e2 : getE l k many = 0 := by simp only [getE, Int.toNat_natCast]; rw [if_pos (by omega)]
    rw [← e1, e2]
    exact get_yes v l k many w hI h (by omega)
  · have e1 : getN l at_ many = 0 := by rw [getN, if_neg h]
    have e2 : getE l at_ many = 8 := by rw [getE, if_neg h]
    rw [e1, e2]
    exact get_no v l at_ many w hI h (by omega)

theorem numOf_lt : ∀ l : List UInt8, numOf l < 256 ^ l.length
  | [] => by simp [numOf]
  | x :: l => by
    have := numOf_lt l
    have := x.toNat_lt
    simp only [numOf, List.length_cons, Nat.pow_succ]
    omega
theorem getN_lt (l : List UInt8) (at_ : Int) (many : Nat) : getN l at_ many < 256 ^ many := by
  unfold getN
  split
  · exact Nat.lt_of_lt_of_le (numOf_lt _) (Nat.pow_le_pow_right (by decide) (by simp; omega))
  · exact Nat.pow_pos (by decide)

set_option maxHeartbeats 1000000 in
theorem getTwo_any (v : Value) (l : List UInt8) (at_ : Int) (w : World) (hI : Bytes w 0 w.heap.size v l) :
    Calls Try.prog 85 #[v, .int .i64 at_] w fun e w' => e = .returned (.tuple #[.int .i64 (getN l at_ 2), .int .i64 (getE l at_ 2)]) ∧ Below w.heap.size w w' := by
  have hn := getN_lt l at_ 2
  have hc := get_any v l at_ 2 w hI (.inl rfl)
  generalize getN l at_ 2 = n at *
  generalize getE l at_ 2 = f at *
  clear hI
  go_enter Try.func85, Try.ntmps85
  go_wp2_with (go_at_call 97; refine hc.mono ?_; rintro e w' ⟨rfl, hb⟩)
  go_ret2
  exact ⟨rfl, hb⟩

set_option maxHeartbeats 1000000 in
theorem getFour_any (v : Value) (l : List UInt8) (at_ : Int) (w : World) (hI : Bytes w 0 w.heap.size v l) :
    Calls Try.prog 84 #[v, .int .i64 at_] w fun e w' => e = .returned (.tuple #[.int .u32 (getN l at_ 4), .int .i64 (getE l at_ 4)]) ∧ Below w.heap.size w w' := by
  have hc := get_any v l at_ 4 w hI (.inr rfl)
  generalize getN l at_ 4 = n at *
  generalize getE l at_ 4 = f at *
  clear hI
  go_enter Try.func84, Try.ntmps84
  go_wp2_with (go_at_call 97; refine hc.mono ?_; rintro e w' ⟨rfl, hb⟩)
  go_ret2
  exact ⟨rfl, hb⟩

/-- A number's bytes. -/
def twoL (n : Nat) : List UInt8 := [UInt8.ofNat n, UInt8.ofNat (n / 256)]
def fourL (n : Nat) : List UInt8 := [UInt8.ofNat n, UInt8.ofNat (n / 256), UInt8.ofNat (n / 65536), UInt8.ofNat (n / 16777216)]

theorem two_yes (n : Nat) (w : World) (h : n < 65536) :
    Calls Try.prog 80 #[.int .i64 n] w fun e w' => ∃ v, e = .returned (.tuple #[v, .int .i64 0]) ∧ MadeB w w' v (twoL n) := by
  have h0 : ((n : Int) / 65536 != 0) = false := by simp; omega
  go_enter Try.func80, Try.ntmps80
  go_wp2
  go_ret2
  refine ⟨_, rfl, MadeB.new (Below.refl _ _) _ _ (by simp [twoL, maxLen]) _ ?_ _ (by simp [twoL])⟩
  simp only [twoL, List.map_cons, List.map_nil]
  rw [bV_ofNat _ n (by omega), bV_ofNat _ (n / 256) (by omega)]

theorem four_any (n : Nat) (w : World) (h : n < 4294967296) :
    Calls Try.prog 81 #[.int .u32 n] w fun e w' => ∃ v, e = .returned v ∧ MadeB w w' v (fourL n) := by
  go_enter Try.func81, Try.ntmps81
  go_wp2
  go_ret
  refine ⟨_, rfl, MadeB.new (Below.refl _ _) _ _ (by simp [fourL, maxLen]) _ ?_ _ (by simp [fourL])⟩
  simp only [fourL, List.map_cons, List.map_nil]
  rw [bV_ofNat _ n (by omega), bV_ofNat _ (n / 256) (by omega), bV_ofNat _ (n / 65536) (by omega), bV_ofNat _ (n / 16777216) (by omega)]
end Go.Proofs.Ythealkfpflkipaa

namespace Go.Proofs.Ythealkfpflkipaa
open Go.RowKit

theorem info_u8 : (Try.prog.info? 5).map (fun i => (i.zero, i.size, i.bytes)) = some (some (.int .u8 0), 1, 1) := by kernel_rfl

/-- A number's bytes, so many, the lowest first. -/
def bytesL (n : Nat) : Nat → List UInt8
  | 0 => []
  | k + 1 => bytesL n k ++ [UInt8.ofNat (n / 256 ^ k)]
theorem bytesL_length (n : Nat) : ∀ k, (bytesL n k).length = k
  | 0 => rfl
  | k + 1 => by simp [bytesL, bytesL_length n k]

theorem bytes_one (w : World) (n : Int) (q : Nat) (h : n = (q % 256 : Nat)) (t : TypeId) :
    Bytes (w.alloc (.cells #[.int .u8 n] t)) w.heap.size (w.heap.size + 1) (.slice (some ⟨w.heap.size, 0, none⟩) 1 1) [UInt8.ofNat q] := by
  rw [bV_ofNat n q h]
  exact Bytes.new w t [UInt8.ofNat q] (by simp [maxLen]) (0, 0)

set_option maxHeartbeats 1000000 in
theorem bytes_own (n many : Nat) (w : World) (hm : many ≤ 1000) (hn : n ≤ 9000000000000000000) :
    Calls Try.prog 100 #[.int .i64 n, .int .i64 many] w fun e w' => ∃ v, e = .returned v ∧ OwnB w.heap.size 5 w' v (bytesL n many) ∧ Below w.heap.size w w' := by
  go_enter Try.func100, Try.ntmps100
  go_wp2
  go_loopw [0, 5, 6] (fun m v i wr => ∃ k : Nat, k ≤ many ∧ i = .int .i64 k ∧ m = .int .i64 (n / 256 ^ k : Nat) ∧ OwnB w.heap.size 5 wr v (bytesL n k) ∧ Below w.heap.size w wr) (fun _ _ i _ => many - (intOf i).toNat)
  case atStart => exact ⟨0, Nat.zero_le _, rfl, by simp, OwnB.nil_ _ _ _, Below.refl _ _⟩
  case round =>
    obtain ⟨k, hk, rfl, rfl, hown, hB⟩ := hrel
    by_cases hlt : k < many
    · have hq : n / 256 ^ k ≤ n := Nat.div_le_self _ _
      have hs : n / 256 ^ (k + 1) = n / 256 ^ k / 256 := by rw [Nat.pow_succ, Nat.div_div_eq_div_mul]
      have HS := Lib.hid hs
      have hlen := bytesL_length n k
      have HL := Lib.hid hlen
      have hsuc : bytesL n (k + 1) = bytesL n k ++ [UInt8.ofNat (n / 256 ^ k)] := rfl
      have HU := Lib.hid hsuc
      clear hs hlen hsuc
      generalize n / 256 ^ k = q at *
      generalize bytesL n k = l at *
      go_wp2_with (at_builtin; refine wpList_appB rfl _ _ 22 rfl w.heap.size 5 Try.underlying22 info_u8 _ l rfl (hown.alloc _) wr.heap.size (wr.heap.size + 1) _ [UInt8.ofNat q] rfl (bytes_one wr _ q (by omega) _) (by have := HL.out; simp; omega) (by have := hB.size; simp; omega) ?_; intro v' w1 hown' hB1)
      go_roundw
      case rel => exact ⟨k + 1, by omega, by go_num, by rw [HS.out]; go_num, by rw [HU.out]; exact hown', (hB.alloc hB.size _).trans hB1⟩
      case measure => simp [intOf]; omega
    · obtain rfl : k = many := by omega
      go_wp2
      go_ret
      exact ⟨_, rfl, hown, hB⟩
theorem numOf_drop (l : List UInt8) (m : Nat) (h : m < l.length) : numOf (l.drop m) = (l.getD m 0).toNat + 256 * numOf (l.drop (m + 1)) := by
  rw [List.drop_eq_getElem_cons h, numOf]
  simp [h]

set_option maxHeartbeats 1000000 in
theorem number_any (v : Value) (l : List UInt8) (w : World) (hI : Bytes w 0 w.heap.size v l) (hl : l.length ≤ 6) :
    Calls Try.prog 99 #[v] w fun e w' => e = .returned (.int .i64 (numOf l : Nat)) ∧ w = w' := by
  obtain ⟨a, c, rfl, g1, g2, g3, _⟩ := hI
  unfold maxLen at g2
  go_enter Try.func99, Try.ntmps99
  go_wp2
  go_loop [3, 4] (fun n i => ∃ k : Nat, k ≤ l.length ∧ i = .int .i64 ((k : Int) - 1) ∧ n = .int .i64 (numOf (l.drop k) : Nat)) (fun _ i => (intOf i + 1).toNat)
  case atStart => exact ⟨l.length, Nat.le_refl _, rfl, by simp [numOf]⟩
  case round =>
    obtain ⟨k, hk, rfl, rfl⟩ := hrel
    rcases Nat.eq_zero_or_pos k with rfl | hp
    · go_wp2
      go_ret
      exact ⟨by simp, rfl⟩
    · obtain ⟨m, rfl⟩ : ∃ m, k = m + 1 := ⟨k - 1, by omega⟩
      obtain ⟨b, off, rfl, _, hb, hc⟩ := g3 (by omega)
      have hml : m < l.length := by omega
      have hx := hc m (l.getD m 0) (by simp [hml])
      have hd := numOf_drop l m (by omega)
      have HD := Lib.hid hd
      have hbd := numOf_lt (l.drop (m + 1))
      have hbe : 256 ^ (l.drop (m + 1)).length ≤ 256 ^ 5 := Nat.pow_le_pow_right (by decide) (by simp; omega)
      have hbf : numOf (l.drop (m + 1)) < 1099511627776 := by simp only [show (256 : Nat) ^ 5 = 1099511627776 by decide] at hbe; omega
      have hxl := (l.getD m 0).toNat_lt
      clear hd hc hbd hbe
      generalize numOf (l.drop (m + 1)) = q at *
      generalize l.getD m 0 = x at *
      unfold bV at hx
      rw [show ((m + 1 : Nat) : Int) - 1 = (m : Int) by omega]
      go_wp2
      go_round
      case rel => exact ⟨m, by omega, rfl, by rw [HD.out]; congr 1; omega⟩
      case measure => simp [intOf]

theorem there_any (v : Value) (l : List UInt8) (at_ : Int) (many : Nat) (w : World) (hI : Bytes w 0 w.heap.size v l) (hm : many ≤ 4) :
    Calls Try.prog 98 #[v, .int .i64 at_, .int .i64 many] w fun e w' => e = .returned (.bool (decide (0 ≤ at_ ∧ at_.toNat + many ≤ l.length))) ∧ w = w' := by
  obtain ⟨a, c, rfl, g1, g2, g3, _⟩ := hI
  unfold maxLen at g2
  clear g3
  have hr : decide (0 ≤ at_ ∧ at_.toNat + many ≤ l.length) = decide (0 ≤ at_ ∧ at_ ≤ (l.length : Int) ∧ (many : Int) ≤ l.length - at_) := by congr 1; apply propext; omega
  rw [hr]
  clear hr
  by_cases h1 : 0 ≤ at_
  · by_cases h2 : at_ ≤ (l.length : Int)
    · by_cases h3 : (many : Int) ≤ (l.length : Int) - at_
      all_goals
        go_enter Try.func98, Try.ntmps98
        go_wp2
        go_ret
        exact ⟨by simp [*], rfl⟩
    · go_enter Try.func98, Try.ntmps98
      go_wp2
      go_ret
      exact ⟨by simp [*]; omega, rfl⟩
  · go_enter Try.func98, Try.ntmps98
    go_wp2
    go_ret
    exact ⟨by simp [*]; omega, rfl⟩

theorem bytesL_two (n : Nat) : bytesL n 2 = twoL n := by simp [bytesL, twoL]
theorem bytesL_four (n : Nat) : bytesL n 4 = fourL n := by simp [bytesL, fourL]

theorem rfour_own (n : Nat) (w : World) (h : n < 4294967296) :
    Calls Try.prog 96 #[.int .u32 n] w fun e w' => ∃ v, e = .returned v ∧ OwnB w.heap.size 5 w' v (fourL n) ∧ Below w.heap.size w w' := by
  have hc := bytes_own n 4 w (by omega) (by omega)
  rw [bytesL_four] at hc
  generalize fourL n = l at *
  go_enter Try.func96, Try.ntmps96
  go_wp2_with (go_at_call 100; refine hc.mono ?_; rintro e w' ⟨v, rfl, hb⟩)
  go_ret
  exact ⟨_, rfl, hb⟩
set_option maxHeartbeats 1000000 in
theorem rgetTwo_any (v : Value) (l : List UInt8) (at_ : Int) (w : World) (hI : Bytes w 0 w.heap.size v l) :
    Calls Try.prog 87 #[v, .int .i64 at_] w fun e w' => e = .returned (.tuple #[.int .i64 (getN l at_ 2), .int .i64 (getE l at_ 2)]) ∧ w = w' := by
  have hth := there_any v l at_ 2 w hI (by omega)
  by_cases h : 0 ≤ at_ ∧ at_.toNat + 2 ≤ l.length
  · have hd : decide (0 ≤ at_ ∧ at_.toNat + 2 ≤ l.length) = true := by simpa using h
    rw [hd] at hth
    obtain ⟨k, rfl⟩ := Int.eq_ofNat_of_zero_le h.1
    simp at h
    obtain ⟨a, c, rfl, g1, g2, g3, _⟩ := id hI
    obtain ⟨b, off, rfl, _, hb, _⟩ := g3 (by omega)
    have hnum := number_any _ _ w (hI.cut k 2 (c - k) h (by omega) (by omega)) (by simp; omega)
    have hfin : getN l k 2 = numOf ((l.drop k).take 2) ∧ getE l k 2 = 0 := by simp only [getN, getE, Int.toNat_natCast]; rw [if_pos (by omega), if_pos (by omega)]; exact ⟨rfl, rfl⟩
    rw [hfin.1, hfin.2]
    clear hfin hd g3 hI
    generalize numOf ((l.drop k).take 2) = q at *
    unfold maxLen at g2
    go_enter Try.func87, Try.ntmps87
    go_wp2_with (first | (go_at_call 98; refine hth.mono ?_; rintro e w' ⟨rfl, rfl⟩) | (go_at_call 99; refine hnum.mono ?_; rintro e w' ⟨rfl, rfl⟩))
    go_ret2
    exact ⟨rfl, rfl⟩
  · have hd : decide (0 ≤ at_ ∧ at_.toNat + 2 ≤ l.length) = false := by simpa using h
    rw [hd] at hth
    have hfin : getN l at_ 2 = 0 ∧ getE l at_ 2 = 8 := by simp only [getN, getE]; rw [if_neg h, if_neg h]; exact ⟨rfl, rfl⟩
    rw [hfin.1, hfin.2]
    clear hfin hd hI h
    go_enter Try.func87, Try.ntmps87
    go_wp2_with (go_at_call 98; refine hth.mono ?_; rintro e w' ⟨rfl, rfl⟩)
    go_ret2
    exact ⟨rfl, rfl⟩

set_option maxHeartbeats 1000000 in
theorem rgetFour_any (v : Value) (l : List UInt8) (at_ : Int) (w : World) (hI : Bytes w 0 w.heap.size v l) :
    Calls Try.prog 86 #[v, .int .i64 at_] w fun e w' => e = .returned (.tuple #[.int .u32 (getN l at_ 4), .int .i64 (getE l at_ 4)]) ∧ w = w' := by
  have hth := there_any v l at_ 4 w hI (by omega)
  by_cases h : 0 ≤ at_ ∧ at_.toNat + 4 ≤ l.length
  · have hd : decide (0 ≤ at_ ∧ at_.toNat + 4 ≤ l.length) = true := by simpa using h
    rw [hd] at hth
    obtain ⟨k, rfl⟩ := Int.eq_ofNat_of_zero_le h.1
    simp at h
    obtain ⟨a, c, rfl, g1, g2, g3, _⟩ := id hI
    obtain ⟨b, off, rfl, _, hb, _⟩ := g3 (by omega)
    have hnum := number_any _ _ w (hI.cut k 4 (c - k) h (by omega) (by omega)) (by simp; omega)
    have hlt := getN_lt l k 4
    have hfin : getN l k 4 = numOf ((l.drop k).take 4) ∧ getE l k 4 = 0 := by simp only [getN, getE, Int.toNat_natCast]; rw [if_pos (by omega), if_pos (by omega)]; exact ⟨rfl, rfl⟩
    rw [hfin.1] at hlt
    rw [hfin.1, hfin.2]
    clear hfin hd g3 hI
    generalize numOf ((l.drop k).take 4) = q at *
    simp only [show (256 : Nat) ^ 4 = 4294967296 by decide] at hlt
    unfold maxLen at g2
    go_enter Try.func86, Try.ntmps86
    go_wp2_with (first | (go_at_call 98; refine hth.mono ?_; rintro e w' ⟨rfl, rfl⟩) | (go_at_call 99; refine hnum.mono ?_; rintro e w' ⟨rfl, rfl⟩))
    go_ret2
    exact ⟨rfl, rfl⟩
  · have hd : decide (0 ≤ at_ ∧ at_.toNat + 4 ≤ l.length) = false := by simpa using h
    rw [hd] at hth
    have hfin : getN l at_ 4 = 0 ∧ getE l at_ 4 = 8 := by simp only [getN, getE]; rw [if_neg h, if_neg h]; exact ⟨rfl, rfl⟩
    rw [hfin.1, hfin.2]
    clear hfin hd hI h
    go_enter Try.func86, Try.ntmps86
    go_wp2_with (go_at_call 98; refine hth.mono ?_; rintro e w' ⟨rfl, rfl⟩)
    go_ret2
    exact ⟨rfl, rfl⟩
end Go.Proofs.Ythealkfpflkipaa

namespace Go.Proofs.Ythealkfpflkipaa
open Go.RowKit

/-- copy into a row of bytes. -/
theorem wpList_copyB {P : Program} {w : World} {ops : Array Oper} {rest : List Oper} {o : Oper} {a : Act} {Q : Exit → Act → World → Prop} (hgd : o.guard = none) (d s : Operand) (dT sT : TypeId)
    (ho : o.op = .call { callee := .builtin .copy, args := #[d, s], argTypes := #[dT, sT] }) (e : TypeId) (hu : P.underlying dT = some (.slice e))
    (hi : (P.info? e).map (fun i => (i.zero, i.size, i.bytes)) = some (some (.int .u8 0), 1, 1)) (g off dLen dCap : Nat) (hd : a.eval d = .slice (some ⟨g, off, none⟩) dLen dCap)
    (L : List UInt8) (hrow : RowB w g e L) (lo hi' : Nat) (sv : Value) (bs : List UInt8) (hs : a.eval s = sv) (hr : Bytes w lo hi' sv bs) (hfit : off + min bs.length dLen ≤ L.length)
    (B : Nat) (hBg : B ≤ g) (h : ∀ w', RowB w' g e (splice L off (bs.take (min bs.length dLen))) → Below B w w' → wpList P ops Q rest (a.put o.dst (goInt ((min bs.length dLen : Nat) : Int))) w') : wpList P ops Q (o :: rest) a w := by
  obtain ⟨i0, hi0, hz0, hz1, hz2⟩ := info_parts hi
  obtain ⟨sp, sc, rfl, h1, h2, h3, h4⟩ := hr
  have hn : (bs.take (min bs.length dLen)).length = min bs.length dLen := by rw [List.length_take]; omega
  have hn' : ((bs.take (min bs.length dLen)).map bV).length = Nat.min bs.length dLen := by rw [List.length_map, hn]
  refine wpList_copy_splice hgd d s dT sT ho e hu (by rw [hi0]; simp [hz1]) _ _ _ _ _ _ hd hs g off (L.map bV) e hrow ((bs.take (min bs.length dLen)).map bV) hn' ?_ ?_ ?_ B w (Below.refl _ _) hBg ?_
  · intro hp
    refine ⟨rfl, ?_⟩
    rw [hn'] at hp
    have hp' : 0 < bs.length := by have : Nat.min bs.length dLen ≤ bs.length := Nat.min_le_left _ _; omega
    obtain ⟨b, o2, rfl, _, _, hc⟩ := h3 hp'
    refine ⟨_, rfl, fun j v hj => ?_⟩
    have e2 : (⟨b, o2, none⟩ : Addr).add j = ⟨b, o2 + j, none⟩ := by unfold Addr.add; split <;> simp_all
    rw [List.getElem?_map, List.getElem?_take] at hj
    split at hj
    · cases hx : bs[j]? with
      | none => rw [hx] at hj; cases hj
      | some x =>
        rw [hx] at hj
        cases hj
        rw [e2]
        exact hc j x hx
    · cases hj
  · rw [List.length_map, List.length_map, hn]; exact hfit
  · intro u hu
    obtain ⟨y, _, rfl⟩ := List.mem_map.1 hu
    rfl
  · intro w' hrow' hb
    rw [List.length_map, hn]
    refine h w' ?_ hb
    have h5 := hrow'.out
    unfold RowB
    rw [h5]
    simp [splice, List.map_take, List.map_drop]
end Go.Proofs.Ythealkfpflkipaa

namespace Go.Proofs.Ythealkfpflkipaa
open Go.RowKit

/-- Block g alone may have turned. -/
def OnlyAt (g : Nat) (w w' : World) : Prop := Below g w w' ∧ w'.heap.size = w.heap.size ∧ ∀ k, k ≠ g → w'.heap[k]? = w.heap[k]?
theorem OnlyAt.refl (g : Nat) (w : World) : OnlyAt g w w := ⟨Below.refl _ _, rfl, fun _ _ => rfl⟩

end Go.Proofs.Ythealkfpflkipaa

namespace Go.Proofs.Ythealkfpflkipaa
open Go.RowKit

theorem thawed_kept {w w' : World} {lo hi : Nat} {v : Value} {l : List UInt8} (h : Bytes w lo hi v l) (ht : Thawed w v) (hk : Kp lo hi w w') : Thawed w' v := by
  intro b off n c e i hi'
  obtain ⟨a, c', e', h1, h2, h3, h4⟩ := h
  subst e
  cases e'
  obtain ⟨b', off', ea, hlo, hhi, _⟩ := h3 (by omega)
  cases ea
  exact ((hk b (off + i) hlo hhi).2).trans (ht _ _ _ _ rfl i hi')
def rBytesT : Rd (List UInt8) where
  n := 1
  R w lo hi x f := ∃ v, f 0 = some v ∧ Bytes w lo hi v x ∧ Thawed w v
  keep hk h := by obtain ⟨v, h1, h2, h3⟩ := h; exact ⟨v, h1, h2.kept hk, thawed_kept h2 h3 hk⟩
  more h1 h2 h := by obtain ⟨v, g1, g2, g3⟩ := h; exact ⟨v, g1, g2.more h1 h2, g3⟩
  ext he h := by obtain ⟨v, g1, g2, g3⟩ := h; exact ⟨v, (he 0 (by decide)) ▸ g1, g2, g3⟩
def rWriteT : Rd WrL where
  n := 2
  R w lo hi x f := f 0 = some (.int .i64 x.at_) ∧ (Lit.int .i64 x.at_).wf = true ∧ ∃ v, f 1 = some v ∧ Bytes w lo hi v x.data ∧ Thawed w v
  keep hk h := by obtain ⟨g0, g1, v, h1, h2, h3⟩ := h; exact ⟨g0, g1, v, h1, h2.kept hk, thawed_kept h2 h3 hk⟩
  more h1 h2 h := by obtain ⟨g0, g1, v, k1, k2, k3⟩ := h; exact ⟨g0, g1, v, k1, k2.more h1 h2, k3⟩
  ext he h := by obtain ⟨g0, g1, v, k1, k2, k3⟩ := h; exact ⟨(he 0 (by decide)) ▸ g0, g1, v, (he 1 (by decide)) ▸ k1, k2, k3⟩
theorem Sl.imp {α : Type} {r r' : Rd α} {w : World} {lo hi : Nat} {v : Value} {l : List α} (h : Sl r w lo hi v l) (hn : r'.n = r.n) (hi' : ∀ x f, r.R w lo hi x f → r'.R w lo hi x f) : Sl r' w lo hi v l := by
  obtain ⟨a, c, e, h1, h2, h3, h4⟩ := h
  refine ⟨a, c, e, h1, h2, fun hp => ?_, h4⟩
  obtain ⟨b, off, ea, hlo, hhi, hc⟩ := h3 hp
  exact ⟨b, off, ea, hlo, hhi, fun i x hx => by rw [hn]; exact hi' _ _ (hc i x hx)⟩
/-- A disk whose bytes may be written. -/
def DiskT (w : World) (lo hi : Nat) (b u : Value) (d : DiskL) : Prop := Sl rBytesT w lo hi b d.blocks ∧ Sl rWriteT w lo hi u d.waits
theorem DiskT.v {w : World} {lo hi : Nat} {b u : Value} {d : DiskL} (h : DiskT w lo hi b u d) : DiskV w lo hi b u d :=
  ⟨h.1.imp rfl fun _ _ ⟨v, g1, g2, _⟩ => ⟨v, g1, g2⟩, h.2.imp rfl fun _ _ ⟨g0, g1, v, g2, g3, _⟩ => ⟨g0, g1, v, g2, g3⟩⟩
theorem DiskV.step {w w' : World} {lo : Nat} {b u : Value} {d : DiskL} (h : DiskV w lo w.heap.size b u d) (hb : Below w.heap.size w w') : DiskV w' lo w'.heap.size b u d := ⟨h.1.step hb, h.2.step hb⟩
theorem DiskT.below {w w' : World} {lo hi B : Nat} {b u : Value} {d : DiskL} (h : DiskT w lo hi b u d) (hb : Below B w w') (hB : hi ≤ B) : DiskT w' lo hi b u d := ⟨h.1.below hb hB, h.2.below hb hB⟩
theorem DiskT.more {w : World} {lo hi lo' hi' : Nat} {b u : Value} {d : DiskL} (h : DiskT w lo hi b u d) (h1 : lo' ≤ lo) (h2 : hi ≤ hi') : DiskT w lo' hi' b u d := ⟨h.1.more h1 h2, h.2.more h1 h2⟩
theorem DiskV.more {w : World} {lo hi lo' hi' : Nat} {b u : Value} {d : DiskL} (h : DiskV w lo hi b u d) (h1 : lo' ≤ lo) (h2 : hi ≤ hi') : DiskV w lo' hi' b u d := ⟨h.1.more h1 h2, h.2.more h1 h2⟩
theorem DiskV.nil_ (w : World) (lo hi : Nat) : DiskV w lo hi (.slice none 0 0) (.slice none 0 0) ⟨[], []⟩ := ⟨Sl.nil_ _ _ _, Sl.nil_ _ _ _⟩
theorem DiskT.nil_ (w : World) (lo hi : Nat) : DiskT w lo hi (.slice none 0 0) (.slice none 0 0) ⟨[], []⟩ := ⟨Sl.nil_ _ _ _, Sl.nil_ _ _ _⟩
/-- A disk that a call made. -/
structure MadeD (w w' : World) (b u : Value) (d : DiskL) : Prop where
  disk : DiskT w' w.heap.size w'.heap.size b u d
  below : Below w.heap.size w w'
theorem MadeD.nil_ {w w' : World} (h : Below w.heap.size w w') : MadeD w w' (.slice none 0 0) (.slice none 0 0) ⟨[], []⟩ := ⟨DiskT.nil_ _ _ _, h⟩
theorem MadeD.v0 {w w' : World} {b u : Value} {d : DiskL} (h : MadeD w w' b u d) : DiskV w' 0 w'.heap.size b u d := h.disk.v.more (Nat.zero_le _) (Nat.le_refl _)

theorem named_w {B : Nat} {a w : World} (_ : Below B a w) : ∃ v, v = w := ⟨_, rfl⟩

/-- Where the k-th list begins. -/
def posD (D : List (List UInt8)) (k : Nat) : Nat := (D.take k).flatten.length
theorem flat_split (D : List (List UInt8)) (k : Nat) : D.flatten = (D.take k).flatten ++ (D.drop k).flatten := by
  rw [← List.flatten_append, List.take_append_drop]
theorem flat_succ (D : List (List UInt8)) (k : Nat) (h : k < D.length) : (D.take (k + 1)).flatten = (D.take k).flatten ++ D.getD k [] := by
  rw [List.take_add_one, List.flatten_append]
  simp [h]
theorem posD_succ (D : List (List UInt8)) (k : Nat) (h : k < D.length) : posD D (k + 1) = posD D k + (D.getD k []).length := by
  unfold posD
  rw [flat_succ D k h, List.length_append]
theorem posD_le (D : List (List UInt8)) (k : Nat) : posD D k ≤ D.flatten.length := by
  have := congrArg List.length (flat_split D k)
  rw [List.length_append] at this
  unfold posD
  omega
theorem cut_laid (D : List (List UInt8)) (j : Nat) (h : j < D.length) : (D.flatten.drop (posD D j)).take (D.getD j []).length = D.getD j [] := by
  rw [flat_split D j, show posD D j = (D.take j).flatten.length from rfl, List.drop_left]
  have e : D.getD j [] = D[j] := by simp [h]
  rw [List.drop_eq_getElem_cons h, List.flatten_cons, e, List.take_left]
/-- All the bytes of a disk. -/
def datD (d : DiskL) : List (List UInt8) := d.blocks ++ d.waits.map WrL.data
theorem datD_length (d : DiskL) : (datD d).length = d.blocks.length + d.waits.length := by simp [datD]
theorem datD_b (d : DiskL) (k : Nat) (h : k < d.blocks.length) : (datD d).getD k [] = d.blocks.getD k [] := by
  simp [datD, List.getElem?_append_left h]
theorem datD_w (d : DiskL) (k : Nat) (h : k < d.waits.length) : (datD d).getD (d.blocks.length + k) [] = (d.waits.getD k ⟨0, []⟩).data := by
  simp [datD, h]

/-- But for three blocks all that was there is as it was. -/
def Oth3 (a b c : Nat) (w w' : World) : Prop := w.heap.size ≤ w'.heap.size ∧ ∀ k, k < w.heap.size → k ≠ a → k ≠ b → k ≠ c → w'.heap[k]? = w.heap[k]?
theorem Oth3.refl (a b c : Nat) (w : World) : Oth3 a b c w w := ⟨Nat.le_refl _, fun _ _ _ _ _ => rfl⟩
theorem Oth3.trans {a b c : Nat} {w w1 w2 : World} (h : Oth3 a b c w w1) (k : Oth3 a b c w1 w2) : Oth3 a b c w w2 := ⟨Nat.le_trans h.1 k.1, fun x h0 h1 h2 h3 => (k.2 x (Nat.lt_of_lt_of_le h0 h.1) h1 h2 h3).trans (h.2 x h0 h1 h2 h3)⟩
theorem set_other (w : World) (c o : Nat) (u : Value) (k : Nat) (h : k ≠ c) : (w.setCell ⟨c, o, none⟩ u).heap[k]? = w.heap[k]? := by
  simp [World.setCell, Array.getElem?_modify, Ne.symm h]
theorem Oth3.set_ {a b c : Nat} (w : World) (o : Nat) (u : Value) : Oth3 a b c w (w.setCell ⟨c, o, none⟩ u) := ⟨Nat.le_of_eq (World.size_setCell _ _ _).symm, fun k _ _ _ h => set_other w c o u k h⟩
theorem heap_cell {w w' : World} {b : Nat} (h : w'.heap[b]? = w.heap[b]?) (o : Nat) : w'.cell? ⟨b, o, none⟩ = w.cell? ⟨b, o, none⟩ := by
  unfold World.cell?
  simp [h]
theorem heap_frozen {w w' : World} {b : Nat} (h : w'.heap[b]? = w.heap[b]?) (o : Nat) : w'.frozen? ⟨b, o, none⟩ = w.frozen? ⟨b, o, none⟩ := by
  unfold World.frozen?
  simp [h]
end Go.Proofs.Ythealkfpflkipaa

namespace Go.Proofs.Ythealkfpflkipaa
open Go.RowKit

/-- A slice of n cells, each of which holds a byte and may be written. -/
def SpoB (w : World) (lo hi : Nat) (v : Value) (n : Nat) : Prop := ∃ a c, v = .slice a n c ∧ n ≤ c ∧ c ≤ maxLen ∧
  (0 < n → ∃ b off, a = some ⟨b, off, none⟩ ∧ lo ≤ b ∧ b < hi ∧ ∀ i, i < n → ∃ x : UInt8, w.cell? ⟨b, off + i, none⟩ = some (bV x) ∧ w.frozen? ⟨b, off + i, none⟩ = false)
theorem SpoB.of {w : World} {lo hi : Nat} {v : Value} {l : List UInt8} (h : Bytes w lo hi v l) (ht : Thawed w v) : SpoB w lo hi v l.length := by
  obtain ⟨a, c, rfl, h1, h2, h3, h4⟩ := h
  refine ⟨a, c, rfl, h1, h2, fun hp => ?_⟩
  obtain ⟨b, off, rfl, hlo, hhi, hc⟩ := h3 hp
  exact ⟨b, off, rfl, hlo, hhi, fun i hi => ⟨l[i], hc i l[i] (by simp [hi]), ht _ _ _ _ rfl i hi⟩⟩
/-- A byte is stored where there was one: bytes stay bytes. -/
theorem SpoB.set {w : World} {lo hi : Nat} {v : Value} {n : Nat} (h : SpoB w lo hi v n) (p : Addr) (x y : UInt8) (hp : w.cell? p = some (bV x)) : SpoB (w.setCell p (bV y)) lo hi v n := by
  obtain ⟨a, c, e, h1, h2, h3⟩ := h
  refine ⟨a, c, e, h1, h2, fun hn => ?_⟩
  obtain ⟨b, off, ea, hlo, hhi, hc⟩ := h3 hn
  refine ⟨b, off, ea, hlo, hhi, fun i hi => ?_⟩
  obtain ⟨z, hz, hf⟩ := hc i hi
  by_cases e : p = ⟨b, off + i, none⟩
  · subst e
    exact ⟨y, World.cell?_setCell_same' _ _ _ (by rw [hz]; rfl), by rw [World.frozen?_setCell]; exact hf⟩
  · exact ⟨z, by rw [World.cell?_setCell_other _ _ _ _ e]; exact hz, by rw [World.frozen?_setCell]; exact hf⟩
theorem SpoB.below {w w' : World} {lo hi B : Nat} {v : Value} {n : Nat} (h : SpoB w lo hi v n) (hb : Below B w w') (hB : hi ≤ B) : SpoB w' lo hi v n := by
  obtain ⟨a, c, e, h1, h2, h3⟩ := h
  refine ⟨a, c, e, h1, h2, fun hn => ?_⟩
  obtain ⟨b, off, ea, hlo, hhi, hc⟩ := h3 hn
  refine ⟨b, off, ea, hlo, hhi, fun i hi => ?_⟩
  obtain ⟨z, hz, hf⟩ := hc i hi
  exact ⟨z, (hb.cell (p := ⟨b, off + i, none⟩) (by show b < B; omega)).trans hz, (hb.frozen (p := ⟨b, off + i, none⟩) (by show b < B; omega)).trans hf⟩
/-- A cell that holds no byte stays. -/
theorem spo_other {w : World} {p q : Addr} {x : UInt8} {y : UInt8} {v : Value} (hp : w.cell? p = some (bV x)) (hq : w.cell? q = some v) (hv : ∀ z : UInt8, v ≠ bV z) : (w.setCell p (bV y)).cell? q = some v := by
  rw [World.cell?_setCell_other _ _ _ _ (fun e => ?_)]
  · exact hq
  · subst e
    rw [hp] at hq
    exact hv x (Option.some.inj hq).symm
/-- A slice of k elements of n cells, number f of which holds such a slice of bytes. -/
def SpS (n f : Nat) (w : World) (lo hi : Nat) (s : Value) (k : Nat) : Prop := ∃ a c, s = .slice a k c ∧ k ≤ c ∧ c ≤ maxLen ∧
  (0 < k → ∃ b off, a = some ⟨b, off, none⟩ ∧ lo ≤ b ∧ b < hi ∧ ∀ i, i < k → ∃ x c m, w.cell? ⟨b, off + i * n + f, none⟩ = some (.slice x m c) ∧ SpoB w lo hi (.slice x m c) m)
theorem SpoB.form {w : World} {lo hi : Nat} {v : Value} {n : Nat} (h : SpoB w lo hi v n) : ∃ a c, v = .slice a n c ∧ n ≤ c ∧ c ≤ maxLen := by
  obtain ⟨a, c, e, h1, h2, -⟩ := h
  exact ⟨a, c, e, h1, h2⟩
theorem SpS.set {n f : Nat} {w : World} {lo hi : Nat} {s : Value} {k : Nat} (h : SpS n f w lo hi s k) (p : Addr) (x y : UInt8) (hp : w.cell? p = some (bV x)) : SpS n f (w.setCell p (bV y)) lo hi s k := by
  obtain ⟨a, c, e, h1, h2, h3⟩ := h
  refine ⟨a, c, e, h1, h2, fun hn => ?_⟩
  obtain ⟨b, off, ea, hlo, hhi, hc⟩ := h3 hn
  refine ⟨b, off, ea, hlo, hhi, fun i hi => ?_⟩
  obtain ⟨u, c2, m, g1, g2⟩ := hc i hi
  exact ⟨u, c2, m, spo_other hp g1 (fun z e => by cases e), g2.set p x y hp⟩
theorem SpS.below {n f : Nat} {w w' : World} {lo hi B : Nat} {s : Value} {k : Nat} (h : SpS n f w lo hi s k) (hb : Below B w w') (hB : hi ≤ B) : SpS n f w' lo hi s k := by
  obtain ⟨a, c, e, h1, h2, h3⟩ := h
  refine ⟨a, c, e, h1, h2, fun hn => ?_⟩
  obtain ⟨b, off, ea, hlo, hhi, hc⟩ := h3 hn
  refine ⟨b, off, ea, hlo, hhi, fun i hi => ?_⟩
  obtain ⟨u, c2, m, g1, g2⟩ := hc i hi
  exact ⟨u, c2, m, (hb.cell (p := ⟨b, off + i * n + f, none⟩) (by show b < B; omega)).trans g1, g2.below hb hB⟩
theorem spo_add (x : UInt8) : ((x.toNat : Int) + 1) % 256 = ((x + 1).toNat : Int) := by
  rw [UInt8.toNat_add]
  simp
end Go.Proofs.Ythealkfpflkipaa

