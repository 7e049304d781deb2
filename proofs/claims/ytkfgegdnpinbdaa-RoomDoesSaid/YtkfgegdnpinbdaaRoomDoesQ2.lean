/- RoomDoes: the words and contracts, part 2. -/
import Derived.Test.YtkfgegdnpinbdaaRoomDoesQ1
import Derived.Test.YtkfgegdnpinbdaaChecked
import Derived.WalkKit
import Derived.WalkLawsBesides
import Derived.WalkSpells
import Derived.Lib.Hide
import Derived.Laws.Rows
import Derived.Laws.AppendOwnNone
import Derived.Maps.AppendAt
import Derived.RangeFuncNested
import Derived.RangeFuncBound
import Derived.RangeFuncCalls
import Derived.RangeFuncLeaves
import Derived.RangeFuncBox
import Derived.Shelf.Abstract
import Derived.Shelf.RegionOpen
import Derived.OwnWalkIn
import Derived.TacticsInMore
import Derived.LoopNIn
import Derived.LoopIn
import Derived.ProofKit
import Derived.Deep.Slices
import Derived.WideShapes
import Derived.OrdersHeld
import Derived.Deep.QuietTactic
import Derived.BigQuiet
import Derived.StillTailTactics
import Derived.OpenShut
import Derived.Lib.SliceRun
import Derived.Lib.AppendZerosOnto
import Derived.Lib.Walk
import Derived.Deep.LoopGhost
import Derived.Laws.CopyOwn
import Derived.Deep.DeepCutAuto
import Derived.Laws.CopyRow
namespace Go.Proofs.Ytkfgegdnpinbdaa
open Go.RowKit

def cmpI (x y : Int) : Int := if x < y then -1 else if y < x then 1 else 0
def orI (a b c : Int) : Int := if a = 0 then (if b = 0 then c else b) else a

theorem isNaN8 (x : Int) (w : World) : Calls Try.prog 128 #[.int .u8 x] w fun e w' => e = .returned (.bool false) ∧ w' = w := by
  go_enter Try.func128, Try.ntmps128
  go_wp2
  go_ret
  exact ⟨rfl, rfl⟩
theorem isNaN32 (x : Int) (w : World) : Calls Try.prog 129 #[.int .u32 x] w fun e w' => e = .returned (.bool false) ∧ w' = w := by
  go_enter Try.func129, Try.ntmps129
  go_wp2
  go_ret
  exact ⟨rfl, rfl⟩
theorem compare8 (x y : Int) (w : World) : Calls Try.prog 115 #[.int .u8 x, .int .u8 y] w fun e w' => e = .returned (.int .i64 (cmpI x y)) ∧ w' = w := by
  unfold cmpI
  by_cases h1 : x < y
  · rw [if_pos h1]
    go_enter Try.func115, Try.ntmps115
    go_wp2_with (go_at_call 128; refine (isNaN8 _ _).mono ?_; rintro e w' ⟨rfl, rfl⟩)
    go_ret
    exact ⟨rfl, rfl⟩
  · rw [if_neg h1]
    by_cases h2 : y < x
    · rw [if_pos h2]
      go_enter Try.func115, Try.ntmps115
      go_wp2_with (go_at_call 128; refine (isNaN8 _ _).mono ?_; rintro e w' ⟨rfl, rfl⟩)
      go_ret
      exact ⟨rfl, rfl⟩
    · rw [if_neg h2]
      go_enter Try.func115, Try.ntmps115
      go_wp2_with (go_at_call 128; refine (isNaN8 _ _).mono ?_; rintro e w' ⟨rfl, rfl⟩)
      go_ret
      exact ⟨rfl, rfl⟩
theorem compare32 (x y : Int) (w : World) : Calls Try.prog 116 #[.int .u32 x, .int .u32 y] w fun e w' => e = .returned (.int .i64 (cmpI x y)) ∧ w' = w := by
  unfold cmpI
  by_cases h1 : x < y
  · rw [if_pos h1]
    go_enter Try.func116, Try.ntmps116
    go_wp2_with (go_at_call 129; refine (isNaN32 _ _).mono ?_; rintro e w' ⟨rfl, rfl⟩)
    go_ret
    exact ⟨rfl, rfl⟩
  · rw [if_neg h1]
    by_cases h2 : y < x
    · rw [if_pos h2]
      go_enter Try.func116, Try.ntmps116
      go_wp2_with (go_at_call 129; refine (isNaN32 _ _).mono ?_; rintro e w' ⟨rfl, rfl⟩)
      go_ret
      exact ⟨rfl, rfl⟩
    · rw [if_neg h2]
      go_enter Try.func116, Try.ntmps116
      go_wp2_with (go_at_call 129; refine (isNaN32 _ _).mono ?_; rintro e w' ⟨rfl, rfl⟩)
      go_ret
      exact ⟨rfl, rfl⟩

set_option maxHeartbeats 400000 in
theorem or3 (b off : Nat) (a0 a1 a2 : Int) (w : World) (h0 : w.cell? ⟨b, off, none⟩ = some (.int .i64 a0)) (h1 : w.cell? ⟨b, off + 1, none⟩ = some (.int .i64 a1)) (h2 : w.cell? ⟨b, off + 2, none⟩ = some (.int .i64 a2)) :
    Calls Try.prog 114 #[.slice (some ⟨b, off, none⟩) 3 3] w fun e w' => e = .returned (.int .i64 (orI a0 a1 a2)) ∧ w' = w := by
  have H := Lib.hid (And.intro h0 (And.intro h1 h2))
  clear h0 h1 h2
  go_enter Try.func114, Try.ntmps114
  go_wp2
  go_loop [8] (fun i => ∃ k : Nat, k ≤ 3 ∧ i = .int .i64 k ∧ (0 < k → a0 = 0) ∧ (1 < k → a1 = 0) ∧ (2 < k → a2 = 0)) (fun i => 3 - (intOf i).toNat)
  case atStart => exact ⟨0, by omega, rfl, by omega, by omega, by omega⟩
  case round =>
    obtain ⟨k, hk, rfl, e0, e1, e2⟩ := hrel
    have hor : orI a0 a1 a2 = if k = 0 then orI a0 a1 a2 else if k = 1 then orI 0 a1 a2 else if k = 2 then orI 0 0 a2 else 0 := by
      unfold orI
      repeat' split
      all_goals omega
    have HO := Lib.hid hor
    by_cases hlt : k < 3
    · obtain ⟨x, hx, hx2, hx3⟩ : ∃ x, w.cell? ⟨b, off + k, none⟩ = some (.int .i64 x) ∧ (x = 0 → (0 < k + 1 → a0 = 0) ∧ (1 < k + 1 → a1 = 0) ∧ (2 < k + 1 → a2 = 0)) ∧ (x ≠ 0 → orI a0 a1 a2 = x) := by
        obtain ⟨h0, h1, h2⟩ := H.out
        unfold orI
        rcases (by omega : k = 0 ∨ k = 1 ∨ k = 2) with rfl | rfl | rfl
        · exact ⟨a0, h0, fun h => ⟨fun _ => h, by omega, by omega⟩, fun h => by rw [if_neg h]⟩
        · exact ⟨a1, h1, fun h => ⟨fun _ => e0 (by omega), fun _ => h, by omega⟩, fun h => by rw [if_pos (e0 (by omega)), if_neg h]⟩
        · exact ⟨a2, h2, fun h => ⟨fun _ => e0 (by omega), fun _ => e1 (by omega), fun _ => h⟩, fun h => by rw [if_pos (e0 (by omega)), if_pos (e1 (by omega))]⟩
      have HX := Lib.hid (And.intro hx2 hx3)
      clear hor HO hx2 hx3 e0 e1 e2
      by_cases hz : x = 0
      · have hz2 := HX.out.1 hz
        have HZ := Lib.hid hz2
        subst hz
        clear hz2
        go_wp2
        go_round
        case rel => exact ⟨k + 1, by omega, by go_num, HZ.out.1, HZ.out.2.1, HZ.out.2.2⟩
        case measure => simp [intOf]; omega
      · go_wp2
        go_ret
        exact ⟨by rw [HX.out.2 hz]; rfl, rfl⟩
    · obtain rfl : k = 3 := by omega
      clear hor e0 e1 e2
      go_wp2
      go_ret
      exact ⟨by rw [HO.out]; rfl, rfl⟩

def keyV (k : KeyL) : Value := .agg #[bV k.kind, wV k.id, wV k.off]
/-- Does a key stand ahead of another one? -/
def lessK (a b : KeyL) : Bool :=
  if a.kind = b.kind then (if a.id = b.id then decide (a.off.toNat < b.off.toNat) else decide (a.id.toNat < b.id.toNat)) else decide (a.kind.toNat < b.kind.toNat)
theorem cmp_eq0 (x y : Nat) : cmpI x y = 0 ↔ x = y := by unfold cmpI; split <;> (try split) <;> omega
theorem cmp_lt0 (x y : Nat) : cmpI x y < 0 ↔ x < y := by unfold cmpI; split <;> (try split) <;> omega
theorem less_or (a b : KeyL) : decide (orI (cmpI a.kind.toNat b.kind.toNat) (cmpI a.id.toNat b.id.toNat) (cmpI a.off.toNat b.off.toNat) < 0) = lessK a b := by
  unfold orI lessK
  simp only [cmp_eq0, ← UInt8.toNat_inj, ← UInt32.toNat_inj]
  split
  · split
    · simp only [cmp_lt0]
    · simp only [cmp_lt0]
  · simp only [cmp_lt0]
set_option maxHeartbeats 1000000 in
set_option maxRecDepth 100000 in
theorem less_any (a b : KeyL) (w : World) : Calls Try.prog 93 #[keyV a, keyV b] w fun e w' => e = .returned (.bool (lessK a b)) ∧ Below w.heap.size w w' := by
  have hb := less_or a b
  have Hb := Lib.hid hb
  obtain ⟨k1, i1, o1⟩ := a
  obtain ⟨k2, i2, o2⟩ := b
  simp only [keyV, bV, wV] at *
  clear hb
  go_enter Try.func93, Try.ntmps93
  go_wp2_with fail
  refine wp_region_tail 15 (by kernel_rfl) (by kernel_rfl) ?_
  simp only [List.take_succ_cons, List.take_zero, List.drop_succ_cons, List.drop_zero]
  repeat still_step
  still_call (compare8 _ _ _)
  repeat still_step
  still_call (compare32 _ _ _)
  repeat still_step
  still_call (compare32 _ _ _)
  refine wpStill_nil ?_
  have hW : Below w.heap.size w ((w.alloc (.cells #[.int .u8 (k1.toNat : Int), .int .u32 (i1.toNat : Int), .int .u32 (o1.toNat : Int)] 95)).alloc (.cells #[.int .u8 (k2.toNat : Int), .int .u32 (i2.toNat : Int), .int .u32 (o2.toNat : Int)] 95)).drew :=
    (((Below.refl _ _).alloc (Nat.le_refl _) _).alloc (by simp) _).drew
  generalize ((w.alloc (.cells #[.int .u8 (k1.toNat : Int), .int .u32 (i1.toNat : Int), .int .u32 (o1.toNat : Int)] 95)).alloc (.cells #[.int .u8 (k2.toNat : Int), .int .u32 (i2.toNat : Int), .int .u32 (o2.toNat : Int)] 95)).drew = W at *
  generalize cmpI (k1.toNat : Int) k2.toNat = c0 at *
  generalize cmpI (i1.toNat : Int) i2.toNat = c1 at *
  generalize cmpI (o1.toNat : Int) o2.toNat = c2 at *
  go_wp2_with fail
  refine (or3 W.heap.size 0 c0 c1 c2 _ (by rw [World.cell?_alloc_new]; rfl) (by rw [World.cell?_alloc_new]; rfl) (by rw [World.cell?_alloc_new]; rfl)).mono ?_
  rintro e w' ⟨rfl, rfl⟩
  go_wp2
  go_ret
  exact ⟨by rw [← Hb.out]; rfl, hW.alloc hW.size _⟩
end Go.Proofs.Ytkfgegdnpinbdaa

namespace Go.Proofs.Ytkfgegdnpinbdaa
open Go.RowKit

theorem info_u8 : (Try.prog.info? 5).map (fun i => (i.zero, i.size, i.bytes)) = some (some (.int .u8 0), 1, 1) := by kernel_rfl

/-- A number's bytes, so many, the lowest first. -/
def bytesL (n : Nat) : Nat → List UInt8
  | 0 => []
  | k + 1 => bytesL n k ++ [UInt8.ofNat (n / 256 ^ k)]
theorem bytesL_length (n : Nat) : ∀ k, (bytesL n k).length = k
  | 0 => rfl
  | k + 1 => by simp [bytesL, bytesL_length n k]

theorem bytes_one (w : World) (n : Int) (q : Nat) (h : n = (q % 256 : Nat)) (t : TypeId) :
    Bytes (w.alloc (.cells #[.int .u8 n] t)) w.heap.size (w.heap.size + 1) (.slice (some ⟨w.heap.size, 0, none⟩) 1 1) [UInt8.ofNat q] := by
  rw [bV_ofNat n q h]
  exact Bytes.new w t [UInt8.ofNat q] (by simp [maxLen]) (0, 0)

set_option maxHeartbeats 1000000 in
theorem bytes_own (n many : Nat) (w : World) (hm : many ≤ 1000) (hn : n ≤ 9000000000000000000) :
    Calls Try.prog 138 #[.int .i64 n, .int .i64 many] w fun e w' => ∃ v, e = .returned v ∧ OwnB w.heap.size 5 w' v (bytesL n many) ∧ Below w.heap.size w w' := by
  go_enter Try.func138, Try.ntmps138
  go_wp2
  go_loopw [0, 5, 6] (fun m v i wr => ∃ k : Nat, k ≤ many ∧ i = .int .i64 k ∧ m = .int .i64 (n / 256 ^ k : Nat) ∧ OwnB w.heap.size 5 wr v (bytesL n k) ∧ Below w.heap.size w wr) (fun _ _ i _ => many - (intOf i).toNat)
  case atStart => exact ⟨0, Nat.zero_le _, rfl, by simp, OwnB.nil_ _ _ _, Below.refl _ _⟩
  case round =>
    obtain ⟨k, hk, rfl, rfl, hown, hB⟩ := hrel
    by_cases hlt : k < many
    · have hq : n / 256 ^ k ≤ n := Nat.div_le_self _ _
      have hs : n / 256 ^ (k + 1) = n / 256 ^ k / 256 := by rw [Nat.pow_succ, Nat.div_div_eq_div_mul]
      have HS := Lib.hid hs
      have hlen := bytesL_length n k
      have HL := Lib.hid hlen
      have hsuc : bytesL n (k + 1) = bytesL n k ++ [UInt8.ofNat (n / 256 ^ k)] := rfl
      have HU := Lib.hid hsuc
      clear hs hlen hsuc
      generalize n / 256 ^ k = q at *
      generalize bytesL n k = l at *
      go_wp2_with (at_builtin; refine wpList_appB rfl _ _ 26 rfl w.heap.size 5 Try.underlying26 info_u8 _ l rfl (hown.alloc _) wr.heap.size (wr.heap.size + 1) _ [UInt8.ofNat q] rfl (bytes_one wr _ q (by omega) _) (by have := HL.out; simp; omega) (by have := hB.size; simp; omega) ?_; intro v' w1 hown' hB1)
      go_roundw
      case rel => exact ⟨k + 1, by omega, by go_num, by rw [HS.out]; go_num, by rw [HU.out]; exact hown', (hB.alloc hB.size _).trans hB1⟩
      case measure => simp [intOf]; omega
    · obtain rfl : k = many := by omega
      go_wp2
      go_ret
      exact ⟨_, rfl, hown, hB⟩
theorem numOf_drop (l : List UInt8) (m : Nat) (h : m < l.length) : numOf (l.drop m) = (l.getD m 0).toNat + 256 * numOf (l.drop (m + 1)) := by
  rw [List.drop_eq_getElem_cons h, numOf]
  simp [h]

set_option maxHeartbeats 1000000 in
theorem number_any (v : Value) (l : List UInt8) (w : World) (hI : Bytes w 0 w.heap.size v l) (hl : l.length ≤ 6) :
    Calls Try.prog 136 #[v] w fun e w' => e = .returned (.int .i64 (numOf l : Nat)) ∧ w = w' := by
  obtain ⟨a, c, rfl, g1, g2, g3, _⟩ := hI
  unfold maxLen at g2
  go_enter Try.func136, Try.ntmps136
  go_wp2
  go_loop [3, 4] (fun n i => ∃ k : Nat, k ≤ l.length ∧ i = .int .i64 ((k : Int) - 1) ∧ n = .int .i64 (numOf (l.drop k) : Nat)) (fun _ i => (intOf i + 1).toNat)
  case atStart => exact ⟨l.length, Nat.le_refl _, rfl, by simp [numOf]⟩
  case round =>
    obtain ⟨k, hk, rfl, rfl⟩ := hrel
    rcases Nat.eq_zero_or_pos k with rfl | hp
    · go_wp2
      go_ret
      exact ⟨by simp, rfl⟩
    · obtain ⟨m, rfl⟩ : ∃ m, k = m + 1 := ⟨k - 1, by omega⟩
      obtain ⟨b, off, rfl, _, hb, hc⟩ := g3 (by omega)
      have hml : m < l.length := by omega
      have hx := hc m (l.getD m 0) (by simp [hml])
      have hd := numOf_drop l m (by omega)
      have HD := Lib.hid hd
      have hbd := numOf_lt (l.drop (m + 1))
      have hbe : 256 ^ (l.drop (m + 1)).length ≤ 256 ^ 5 := Nat.pow_le_pow_right (by decide) (by simp; omega)
      have hbf : numOf (l.drop (m + 1)) < 1099511627776 := by simp only [show (256 : Nat) ^ 5 = 1099511627776 by decide] at hbe; omega
      have hxl := (l.getD m 0).toNat_lt
      clear hd hc hbd hbe
      generalize numOf (l.drop (m + 1)) = q at *
      generalize l.getD m 0 = x at *
      unfold bV at hx
      rw [show ((m + 1 : Nat) : Int) - 1 = (m : Int) by omega]
      go_wp2
      go_round
      case rel => exact ⟨m, by omega, rfl, by rw [HD.out]; congr 1; omega⟩
      case measure => simp [intOf]

theorem there_any (v : Value) (l : List UInt8) (at_ : Int) (many : Nat) (w : World) (hI : Bytes w 0 w.heap.size v l) (hm : many ≤ 4) :
    Calls Try.prog 135 #[v, .int .i64 at_, .int .i64 many] w fun e w' => e = .returned (.bool (decide (0 ≤ at_ ∧ at_.toNat + many ≤ l.length))) ∧ w = w' := by
  obtain ⟨a, c, rfl, g1, g2, g3, _⟩ := hI
  unfold maxLen at g2
  clear g3
  have hr : decide (0 ≤ at_ ∧ at_.toNat + many ≤ l.length) = decide (0 ≤ at_ ∧ at_ ≤ (l.length : Int) ∧ (many : Int) ≤ l.length - at_) := by congr 1; apply propext; omega
  rw [hr]
  clear hr
  by_cases h1 : 0 ≤ at_
  · by_cases h2 : at_ ≤ (l.length : Int)
    · by_cases h3 : (many : Int) ≤ (l.length : Int) - at_
      all_goals
        go_enter Try.func135, Try.ntmps135
        go_wp2
        go_ret
        exact ⟨by simp [*], rfl⟩
    · go_enter Try.func135, Try.ntmps135
      go_wp2
      go_ret
      exact ⟨by simp [*]; omega, rfl⟩
  · go_enter Try.func135, Try.ntmps135
    go_wp2
    go_ret
    exact ⟨by simp [*]; omega, rfl⟩

theorem bytesL_two (n : Nat) : bytesL n 2 = twoL n := by simp [bytesL, twoL]
theorem bytesL_four (n : Nat) : bytesL n 4 = fourL n := by simp [bytesL, fourL]

theorem rfour_own (n : Nat) (w : World) (h : n < 4294967296) :
    Calls Try.prog 133 #[.int .u32 n] w fun e w' => ∃ v, e = .returned v ∧ OwnB w.heap.size 5 w' v (fourL n) ∧ Below w.heap.size w w' := by
  have hc := bytes_own n 4 w (by omega) (by omega)
  rw [bytesL_four] at hc
  generalize fourL n = l at *
  go_enter Try.func133, Try.ntmps133
  go_wp2_with (go_at_call 138; refine hc.mono ?_; rintro e w' ⟨v, rfl, hb⟩)
  go_ret
  exact ⟨_, rfl, hb⟩
set_option maxHeartbeats 1000000 in
theorem rgetTwo_any (v : Value) (l : List UInt8) (at_ : Int) (w : World) (hI : Bytes w 0 w.heap.size v l) :
    Calls Try.prog 126 #[v, .int .i64 at_] w fun e w' => e = .returned (.tuple #[.int .i64 (getN l at_ 2), .int .i64 (getE l at_ 2)]) ∧ w = w' := by
  have hth := there_any v l at_ 2 w hI (by omega)
  by_cases h : 0 ≤ at_ ∧ at_.toNat + 2 ≤ l.length
  · have hd : decide (0 ≤ at_ ∧ at_.toNat + 2 ≤ l.length) = true := by simpa using h
    rw [hd] at hth
    obtain ⟨k, rfl⟩ := Int.eq_ofNat_of_zero_le h.1
    simp at h
    obtain ⟨a, c, rfl, g1, g2, g3, _⟩ := id hI
    obtain ⟨b, off, rfl, _, hb, _⟩ := g3 (by omega)
    have hnum := number_any _ _ w (hI.cut k 2 (c - k) h (by omega) (by omega)) (by simp; omega)
    have hfin : getN l k 2 = numOf ((l.drop k).take 2) ∧ getE l k 2 = 0 := by simp only [getN, getE, Int.toNat_natCast]; rw [if_pos (by omega), if_pos (by omega)]; exact ⟨rfl, rfl⟩
    rw [hfin.1, hfin.2]
    clear hfin hd g3 hI
    generalize numOf ((l.drop k).take 2) = q at *
    unfold maxLen at g2
    go_enter Try.func126, Try.ntmps126
    go_wp2_with (first | (go_at_call 135; refine hth.mono ?_; rintro e w' ⟨rfl, rfl⟩) | (go_at_call 136; refine hnum.mono ?_; rintro e w' ⟨rfl, rfl⟩))
    go_ret2
    exact ⟨rfl, rfl⟩
  · have hd : decide (0 ≤ at_ ∧ at_.toNat + 2 ≤ l.length) = false := by simpa using h
    rw [hd] at hth
    have hfin : getN l at_ 2 = 0 ∧ getE l at_ 2 = 8 := by simp only [getN, getE]; rw [if_neg h, if_neg h]; exact ⟨rfl, rfl⟩
    rw [hfin.1, hfin.2]
    clear hfin hd hI h
    go_enter Try.func126, Try.ntmps126
    go_wp2_with (go_at_call 135; refine hth.mono ?_; rintro e w' ⟨rfl, rfl⟩)
    go_ret2
    exact ⟨rfl, rfl⟩

set_option maxHeartbeats 1000000 in
theorem rgetFour_any (v : Value) (l : List UInt8) (at_ : Int) (w : World) (hI : Bytes w 0 w.heap.size v l) :
    Calls Try.prog 124 #[v, .int .i64 at_] w fun e w' => e = .returned (.tuple #[.int .u32 (getN l at_ 4), .int .i64 (getE l at_ 4)]) ∧ w = w' := by
  have hth := there_any v l at_ 4 w hI (by omega)
  by_cases h : 0 ≤ at_ ∧ at_.toNat + 4 ≤ l.length
  · have hd : decide (0 ≤ at_ ∧ at_.toNat + 4 ≤ l.length) = true := by simpa using h
    rw [hd] at hth
    obtain ⟨k, rfl⟩ := Int.eq_ofNat_of_zero_le h.1
    simp at h
    obtain ⟨a, c, rfl, g1, g2, g3, _⟩ := id hI
    obtain ⟨b, off, rfl, _, hb, _⟩ := g3 (by omega)
    have hnum := number_any _ _ w (hI.cut k 4 (c - k) h (by omega) (by omega)) (by simp; omega)
    have hlt := getN_lt l k 4
    have hfin : getN l k 4 = numOf ((l.drop k).take 4) ∧ getE l k 4 = 0 := by simp only [getN, getE, Int.toNat_natCast]; rw [if_pos (by omega), if_pos (by omega)]; exact ⟨rfl, rfl⟩
    rw [hfin.1] at hlt
    rw [hfin.1, hfin.2]
    clear hfin hd g3 hI
    generalize numOf ((l.drop k).take 4) = q at *
    simp only [show (256 : Nat) ^ 4 = 4294967296 by decide] at hlt
    unfold maxLen at g2
    go_enter Try.func124, Try.ntmps124
    go_wp2_with (first | (go_at_call 135; refine hth.mono ?_; rintro e w' ⟨rfl, rfl⟩) | (go_at_call 136; refine hnum.mono ?_; rintro e w' ⟨rfl, rfl⟩))
    go_ret2
    exact ⟨rfl, rfl⟩
  · have hd : decide (0 ≤ at_ ∧ at_.toNat + 4 ≤ l.length) = false := by simpa using h
    rw [hd] at hth
    have hfin : getN l at_ 4 = 0 ∧ getE l at_ 4 = 8 := by simp only [getN, getE]; rw [if_neg h, if_neg h]; exact ⟨rfl, rfl⟩
    rw [hfin.1, hfin.2]
    clear hfin hd hI h
    go_enter Try.func124, Try.ntmps124
    go_wp2_with (go_at_call 135; refine hth.mono ?_; rintro e w' ⟨rfl, rfl⟩)
    go_ret2
    exact ⟨rfl, rfl⟩
end Go.Proofs.Ytkfgegdnpinbdaa

namespace Go.Proofs.Ytkfgegdnpinbdaa
open Go.RowKit Go.ChangeShapes Go.WideShapes Go.Deep

/-- The fields of a struct: where each begins, and its type. -/
def fieldsOf (P : Program) (t : TypeId) : Option (List (Nat × TypeId)) :=
  match P.underlying t with
  | some (.struct fs) => some (fs.toList.map fun f => (f.offset, f.type))
  | _ => none

section
variable {H : Type} {enc : TypeId × Value → H} {P : Program} {w : World} {base : Nat} {spare : Nat → Bool} {held : Bool} {fuel : Nat} {t : TypeId} {cs : List Value} {x : DataW H × List MemPlace}
theorem trod_parts {l : List (Nat × TypeId)} (ht : fieldsOf P t = some l) (h : DataW.trod enc P w base spare held fuel t cs = some x) :
    cs.length = P.cellsOf t ∧ ∃ n, ∀ f ∈ l, ∃ y, DataW.trod enc P w base spare held n f.2 ((cs.drop f.1).take (P.cellsOf f.2)) = some y := by
  unfold fieldsOf at ht
  split at ht
  · rename_i fs hu
    cases ht
    obtain ⟨h1, n, h2⟩ := trod_fields hu h
    refine ⟨h1, n, fun f hf => ?_⟩
    obtain ⟨g, hg, rfl⟩ := List.mem_map.1 hf
    exact h2 g hg
  · cases ht
theorem okW_struct {r : Reach} {v : Value} {l : List (Nat × TypeId)} (ht : fieldsOf P t = some l) (h : Value.okWide P w r base t v) : ∃ cs, v = .agg cs ∧ cs.size = P.cellsOf t := by
  unfold fieldsOf at ht
  split at ht
  · rename_i fs hu
    exact okWide_struct hu h
  · cases ht
end

def rU8 : Rd UInt8 where
  n := 1
  R _ _ _ x f := f 0 = some (bV x)
  keep _ h := h
  more _ _ h := h
  ext he h := (he 0 (by decide)) ▸ h
theorem Sl.bytes {w : World} {lo hi : Nat} {v : Value} {l : List UInt8} (h : Sl rU8 w lo hi v l) : Bytes w lo hi v l := by
  obtain ⟨a, c, e, h1, h2, h3, h4⟩ := h
  refine ⟨a, c, e, h1, h2, fun hp => ?_, h4⟩
  obtain ⟨b, off, ea, hlo, hhi, hc⟩ := h3 hp
  refine ⟨b, off, ea, hlo, hhi, fun i x hx => ?_⟩
  have := hc i x hx
  simpa [rU8] using this
theorem u8_of {n : Int} (h : (Lit.int .u8 n).wf = true) : ∃ x : UInt8, Value.int .u8 n = bV x := by
  obtain ⟨h1, h2⟩ := bounds_u8 h
  refine ⟨UInt8.ofNat n.toNat, ?_⟩
  simp [bV]
  omega
section
variable {P : Program} {e : TypeId}
theorem opens_u8 (he : P.underlying e = some (.int .u8)) : Opens P e rU8 := fun h _ => by
  obtain ⟨n, rfl, _, hw⟩ := DataW.trod_int he h
  obtain ⟨x, hx⟩ := u8_of hw
  exact ⟨x, by rw [hx]; rfl⟩
variable {H : Type} {enc : TypeId × Value → H} {w : World} {base : Nat} {spare : Nat → Bool} {held : Bool} {fuel : Nat} {t : TypeId} {cs : List Value} {x : DataW H × List MemPlace}
theorem open_bytes (ht : P.underlying t = some (.slice e)) (he : P.underlying e = some (.int .u8)) (hc : P.cellsOf e = 1) (h : DataW.trod enc P w base spare held fuel t cs = some x) :
    ∃ v l, cs = [v] ∧ Bytes w 0 w.heap.size v l := by
  obtain ⟨v, l, h1, h2⟩ := open_sl (r := rU8) ht hc (by decide) (opens_u8 he) h
  exact ⟨v, l, h1, h2.bytes⟩
theorem opens_bytes {u : TypeId} (ht : P.underlying e = some (.slice u)) (he : P.underlying u = some (.int .u8)) (hc : P.cellsOf u = 1) : Opens P e rBytes := fun h _ => by
  obtain ⟨v, l, rfl, h2⟩ := open_bytes ht he hc h
  exact ⟨l, v, rfl, h2⟩
theorem opens_write {ti tb u : TypeId} (ht : fieldsOf P e = some [(0, ti), (1, tb)]) (hi : P.underlying ti = some (.int .i64)) (hci : P.cellsOf ti = 1) (hcb : P.cellsOf tb = 1)
    (hb : P.underlying tb = some (.slice u)) (hu : P.underlying u = some (.int .u8)) (hc : P.cellsOf u = 1) : Opens P e rWrite := fun {H enc w base spare held fuel cs x} h hl => by
  obtain ⟨_, n, hf⟩ := trod_parts ht h
  obtain ⟨y0, h0⟩ := hf (0, ti) (by simp)
  obtain ⟨y1, h1⟩ := hf (1, tb) (by simp)
  dsimp only at h0 h1
  rw [hci] at h0
  rw [hcb] at h1
  obtain ⟨k, e0, _, hw⟩ := DataW.trod_int hi h0
  obtain ⟨v, l, e1, hB⟩ := open_bytes hb hu hc h1
  match cs, hl with
  | [c0, c1], _ =>
    simp at e0 e1
    subst e0 e1
    exact ⟨⟨k, l⟩, rfl, hw, _, rfl, hB⟩
theorem open_disk {tbs tws tw ti tb u : TypeId} (ht : fieldsOf P e = some [(0, tbs), (1, tws)]) (hbs : P.underlying tbs = some (.slice tb)) (hws : P.underlying tws = some (.slice tw)) (cbs : P.cellsOf tbs = 1) (cws : P.cellsOf tws = 1)
    (htw : fieldsOf P tw = some [(0, ti), (1, tb)]) (cw : P.cellsOf tw = 2) (hi : P.underlying ti = some (.int .i64)) (hci : P.cellsOf ti = 1) (hcb : P.cellsOf tb = 1) (ce : P.cellsOf e = 2)
    (hb : P.underlying tb = some (.slice u)) (hu : P.underlying u = some (.int .u8)) (hc : P.cellsOf u = 1) (h : DataW.trod enc P w base spare held fuel e cs = some x) :
    ∃ (b v : Value) (d : DiskL), cs = [b, v] ∧ DiskV w 0 w.heap.size b v d := by
  obtain ⟨hl, n, hf⟩ := trod_parts ht h
  obtain ⟨y0, h0⟩ := hf (0, tbs) (by simp)
  obtain ⟨y1, h1⟩ := hf (1, tws) (by simp)
  dsimp only at h0 h1
  rw [cbs] at h0
  rw [cws] at h1
  rw [ce] at hl
  obtain ⟨v0, l0, e0, B0⟩ := open_sl (r := rBytes) hbs hcb (by decide) (opens_bytes hb hu hc) h0
  obtain ⟨v1, l1, e1, B1⟩ := open_sl (r := rWrite) hws cw (by decide) (opens_write htw hi hci hcb hb hu hc) h1
  match cs, hl with
  | [c0, c1], _ =>
    simp at e0 e1
    subst e0 e1
    exact ⟨_, _, ⟨l0, l1⟩, rfl, B0, B1⟩
end
end Go.Proofs.Ytkfgegdnpinbdaa

namespace Go.Proofs.Ytkfgegdnpinbdaa
open Go.RowKit

theorem OwnB.empty (w : World) (base : Nat) (e : TypeId) (h : base ≤ w.heap.size) : OwnB base e (w.alloc (.cells #[] e)) (.slice (some ⟨w.heap.size, 0, none⟩) 0 0) [] :=
  ⟨rfl, .inr ⟨w.heap.size, 0, #[], rfl, h, World.alloc_heap_new w _, Nat.le_refl _, Nat.zero_le _, rfl, rfl⟩⟩
set_option maxRecDepth 100000 in
/-- bytes.Clone. -/
theorem bclone_any (v : Value) (l : List UInt8) (w : World) (hI : Bytes w 0 w.heap.size v l) (hl : l.length ≤ 1000000000) :
    Calls Try.prog 40 #[v] w fun e w' => ∃ u, e = .returned u ∧ MadeB w w' u l := by
  obtain ⟨a, c, rfl, g1, g2, g3, g4⟩ := id hI
  clear g3
  have hnil := fun (w : World) (a : Option Addr) (n c n' c' : Nat) => Lib.run_eql_slice_nil (P := Try.prog) w 26 5 a n c n' c' Try.underlying26
  rcases a with _ | a
  · have hc := g4 rfl
    subst hc
    have : l = [] := List.eq_nil_of_length_eq_zero (by omega)
    subst this
    go_enter Try.func40, Try.ntmps40
    go_wp2
    go_ret
    exact ⟨_, rfl, MadeB.nil_ (Below.refl _ _)⟩
  · have hI1 := hI.step ((Below.refl w.heap.size w).alloc (Nat.le_refl _) (.cells #[] 5))
    have hown := OwnB.empty w w.heap.size 5 (Nat.le_refl _)
    go_enter Try.func40, Try.ntmps40
    go_wp2_with (at_builtin; refine wpList_appB rfl _ _ 26 rfl w.heap.size 5 Try.underlying26 info_u8 _ [] rfl hown _ _ _ l rfl hI1 (by simp; omega) (by simp) ?_; intro v1 w1 hown1 hB1)
    go_ret
    exact ⟨_, rfl, hown1.made (((Below.refl w.heap.size w).alloc (Nat.le_refl _) _).trans hB1)⟩
theorem cv_of {w : World} {lo hi : Nat} {v : Value} {l : List UInt8} (h : Bytes w lo hi v l) : (convert 26 9 v).run Try.prog w = .ok (.string ⟨l.toArray⟩) w :=
  conv_bytes (P := Try.prog) h 26 9 5 Try.underlying26 Try.underlying5 Try.underlying9
/-- bytes.Equal. -/
theorem bequal_any (v u : Value) (l m : List UInt8) (w : World) (lo hi lo' hi' : Nat) (hv : Bytes w lo hi v l) (hu : Bytes w lo' hi' u m) :
    Calls Try.prog 54 #[v, u] w fun e w' => e = .returned (.bool (decide (l = m))) ∧ w' = w := by
  have c1 := cv_of hv
  have c2 := cv_of hu
  have hq : (l == m) = decide (l = m) := by rw [Bool.eq_iff_iff]; simp
  have Hq := Lib.hid hq
  clear hq
  obtain ⟨a, c, rfl, _⟩ := hv
  obtain ⟨a', c', rfl, _⟩ := hu
  go_enter Try.func54, Try.ntmps54
  go_wp2
  go_ret
  exact ⟨by rw [← Hq.out]; rfl, rfl⟩

theorem eq_key (a b : KeyL) (w : World) : (Op.equalIn 10000 95 (keyV a) (keyV b)).run Try.prog w = .ok (decide (a = b)) w := by
  have u3 := Try.underlying5
  have a3 := Try.isAgg5
  have z3 := Try.sizeOf5
  have u4 := Try.underlying93
  have a4 := Try.isAgg93
  have z4 := Try.sizeOf93
  have hS : Try.prog.underlying 95 = some (.struct (Try.prog.fieldsOf 95)) := by kernel_rfl
  have hp : Try.prog.stoodInHeld 95 = false := by kernel_rfl
  obtain ⟨k1, i1, o1⟩ := a
  obtain ⟨k2, i2, o2⟩ := b
  simp only [keyV, bV, wV]
  rw [show (10000 : Nat) = 9999 + 1 from rfl, run_equalIn_agg w 9999 95 _ _ hS hp]
  simp only [Program.fieldsOf, Try.underlying95]
  go_simp
  have hx : ∀ (a b : UInt32), ((a.toNat : Int) = b.toNat) = (a = b) := fun a b => propext ⟨fun h => UInt32.toNat_inj.1 (by omega), fun h => by rw [h]⟩
  have hy : ∀ (a b : UInt8), ((a.toNat : Int) = b.toNat) = (a = b) := fun a b => propext ⟨fun h => UInt8.toNat_inj.1 (by omega), fun h => by rw [h]⟩
  simp only [hx, hy]
  by_cases h1 : k1 = k2 <;> by_cases h2 : i1 = i2 <;> by_cases h3 : o1 = o2 <;> simp [h1, h2, h3]

def itemV (x : ItemL) (v : Value) : Value := .agg #[bV x.key.kind, wV x.key.id, wV x.key.off, .int .i64 x.ref, v]
def mayI (x : ItemL) : Bool := decide ((x.ref = 0 ∨ (8 ≤ x.ref ∧ x.ref < 256)) ∧ x.val.length ≤ 12)
def mayE (b : Bool) : Int := if b then 0 else 8

set_option maxRecDepth 100000 in
set_option maxHeartbeats 400000 in
theorem icheck_any (x : ItemL) (v : Value) (w : World) (hv : Bytes w 0 w.heap.size v x.val) :
    Calls Try.prog 92 #[itemV x v] w fun e w' => e = .returned (.int .i64 (mayE (mayI x))) ∧ Below w.heap.size w w' := by
  obtain ⟨a, c, rfl, g1, g2, _, _⟩ := hv
  obtain ⟨⟨k, i, o⟩, r, l⟩ := x
  simp only [itemV, bV, wV] at *
  have hb := (Below.refl w.heap.size w).alloc (Nat.le_refl _) (.cells #[.int .u8 (k.toNat : Int), .int .u32 (i.toNat : Int), .int .u32 (o.toNat : Int), .int .i64 r, .slice a l.length c] 97)
  by_cases h0 : r = 0
  · subst h0
    by_cases hl : 12 < l.length
    · have hm : mayE (mayI ⟨⟨k, i, o⟩, 0, l⟩) = 8 := by unfold mayE mayI; rw [if_neg]; simp; omega
      rw [hm]
      go_enter Try.func92, Try.ntmps92
      go_wp2
      go_ret
      exact ⟨rfl, hb⟩
    · have hm : mayE (mayI ⟨⟨k, i, o⟩, 0, l⟩) = 0 := by unfold mayE mayI; rw [if_pos]; simp; omega
      rw [hm]
      go_enter Try.func92, Try.ntmps92
      go_wp2
      go_ret
      exact ⟨rfl, hb⟩
  · by_cases h8 : r < 8
    · have hm : mayE (mayI ⟨⟨k, i, o⟩, r, l⟩) = 8 := by unfold mayE mayI; rw [if_neg]; simp; omega
      rw [hm]
      go_enter Try.func92, Try.ntmps92
      go_wp2
      go_ret
      exact ⟨rfl, hb⟩
    · by_cases h9 : 256 ≤ r
      · have hm : mayE (mayI ⟨⟨k, i, o⟩, r, l⟩) = 8 := by unfold mayE mayI; rw [if_neg]; simp; omega
        rw [hm]
        go_enter Try.func92, Try.ntmps92
        go_wp2
        go_ret
        exact ⟨rfl, hb⟩
      · by_cases hl : 12 < l.length
        · have hm : mayE (mayI ⟨⟨k, i, o⟩, r, l⟩) = 8 := by unfold mayE mayI; rw [if_neg]; simp; omega
          rw [hm]
          go_enter Try.func92, Try.ntmps92
          go_wp2
          go_ret
          exact ⟨rfl, hb⟩
        · have hm : mayE (mayI ⟨⟨k, i, o⟩, r, l⟩) = 0 := by unfold mayE mayI; rw [if_pos]; simp; omega
          rw [hm]
          go_enter Try.func92, Try.ntmps92
          go_wp2
          go_ret
          exact ⟨rfl, hb⟩

end Go.Proofs.Ytkfgegdnpinbdaa

namespace Go.Proofs.Ytkfgegdnpinbdaa
open Go.RowKit

theorem blk_cell {w : World} {g : Nat} {cs : Array Value} {t : TypeId} {f : Nat × Nat} (h : w.heap[g]? = some (.cells cs t f)) (i : Nat) : w.cell? ⟨g, i, none⟩ = cs[i]? := by simp [World.cell?, h]
theorem blk_frozen {w : World} {g : Nat} {cs : Array Value} {t : TypeId} (h : w.heap[g]? = some (.cells cs t (0, 0))) (i : Nat) : w.frozen? ⟨g, i, none⟩ = false := by simp [World.frozen?, h]

theorem two_new (w : World) (o1 o2 : Obj) : ((w.alloc o1).alloc o2).heap[w.heap.size]? = some o1 ∧ ((w.alloc o1).alloc o2).heap[w.heap.size + 1]? = some o2 := by
  refine ⟨?_, ?_⟩
  · rw [Below.heap_alloc (w.alloc o1) o2 w.heap.size (by simp), World.alloc_heap_new]
  · have := World.alloc_heap_new (w.alloc o1) o2
    simpa using this
theorem Bytes.setOff {w : World} {lo hi g i : Nat} {v u : Value} {l : List UInt8} (h : Bytes w lo hi v l) (hg : g < lo ∨ hi ≤ g) : Bytes (w.setCell ⟨g, i, none⟩ u) lo hi v l :=
  h.keep fun b o h1 h2 => World.cell?_setCell_other _ _ _ _ (by intro h; injection h; omega)

set_option maxRecDepth 100000 in
set_option maxHeartbeats 400000 in
theorem itwin_any (x : ItemL) (v : Value) (w : World) (hv : Bytes w 0 w.heap.size v x.val) (hl : x.val.length ≤ 1000000000) :
    Calls Try.prog 108 #[itemV x v] w fun e w' => ∃ u, e = .returned (itemV x u) ∧ MadeB w w' u x.val := by
  have hb1 := (Below.refl w.heap.size w).alloc (Nat.le_refl _) (.cells #[bV x.key.kind, wV x.key.id, wV x.key.off, .int .i64 x.ref, v] 97)
  have hb2 := hb1.alloc (by simp) (.cells #[.int .u8 0, .int .u32 0, .int .u32 0, .int .i64 0, .slice none 0 0] 97)
  have hv2 := hv.step hb2
  have hc := bclone_any _ _ _ hv2 hl
  obtain ⟨W, hW⟩ : ∃ W, (w.alloc (.cells #[bV x.key.kind, wV x.key.id, wV x.key.off, .int .i64 x.ref, v] 97)).alloc (.cells #[.int .u8 0, .int .u32 0, .int .u32 0, .int .i64 0, .slice none 0 0] 97) = W := ⟨_, rfl⟩
  have hz : W.heap.size = w.heap.size + 2 := by rw [← hW]; simp
  have q1 : W.heap[w.heap.size]? = some (.cells #[bV x.key.kind, wV x.key.id, wV x.key.off, .int .i64 x.ref, v] 97 (0, 0)) := by rw [← hW]; exact (two_new _ _ _).1
  have q2 : W.heap[w.heap.size + 1]? = some (.cells #[.int .u8 0, .int .u32 0, .int .u32 0, .int .i64 0, .slice none 0 0] 97 (0, 0)) := by rw [← hW]; exact (two_new _ _ _).2
  rw [hW] at hc hb2
  obtain ⟨a, c, rfl, g1, g2, _, _⟩ := hv
  obtain ⟨⟨k, i, o⟩, r, l⟩ := x
  have Hc := Lib.hid hc
  have Hq := Lib.hid (And.intro q1 (And.intro q2 (And.intro hW hz)))
  clear hv2 hb1 hc q1 q2 hW hz
  simp only [itemV, bV, wV] at *
  go_enter Try.func108, Try.ntmps108
  go_wp2_with fail
  rw [Hq.out.2.2.1]
  refine Hc.out.mono ?_
  rintro e w1 ⟨u, rfl, hm⟩
  obtain ⟨q1, q2, _, hz⟩ := Hq.out
  have p1 := (hm.below.block w.heap.size (by omega)).trans q1
  have p2 := (hm.below.block (w.heap.size + 1) (by omega)).trans q2
  have hB := below_step hb2 hb2.size hm.below
  obtain ⟨ua, uc, rfl, u1, u2⟩ := hm.bytes.form rfl
  have c0 := blk_cell p1 0
  have c1 := blk_cell p1 1
  have c2 := blk_cell p1 2
  have c3 := blk_cell p1 3
  have c4 := blk_cell p1 4
  have f4 := blk_frozen p1 4
  have d0 := blk_cell p2 0
  have d1 := blk_cell p2 1
  have d2 := blk_cell p2 2
  have d3 := blk_cell p2 3
  have d4 := blk_cell p2 4
  have e0 := blk_frozen p2 0
  have e1 := blk_frozen p2 1
  have e2 := blk_frozen p2 2
  have e3 := blk_frozen p2 3
  have e4 := blk_frozen p2 4
  simp at c0 c1 c2 c3 c4 d0 d1 d2 d3 d4
  have Hm := Lib.hid hm
  have HB := Lib.hid (And.intro hB hz)
  clear p1 p2 q1 q2 hm hB hz hb2
  go_wp2_with fail
  refine bodyPost_ret (v := .agg #[.int .u8 (k.toNat : Int), .int .u32 (i.toNat : Int), .int .u32 (o.toNat : Int), .int .i64 r, .slice ua l.length uc]) (by simp [results, Try.results108, go_sem, d0, d1, d2, d3, d4]) rfl ⟨_, rfl, ?_⟩
  obtain ⟨hB, hz⟩ := HB.out
  have hm := Hm.out
  have s1 : w.heap.size < W.heap.size := by omega
  have s2 : w.heap.size + 1 < W.heap.size := by omega
  refine ⟨?_, ?_, ?_⟩
  · refine Bytes.more (lo := W.heap.size) (hi := w1.heap.size) ?_ (by omega) (by simp)
    exact (((((hm.bytes.setOff (.inl s1)).setOff (.inl s2)).setOff (.inl s2)).setOff (.inl s2)).setOff (.inl s2)).setOff (.inl s2)
  · exact (((((hm.thawed.set _ _).set _ _).set _ _).set _ _).set _ _).set _ _
  · exact (((((hB.setCell (p := ⟨w.heap.size, 4, none⟩) (Nat.le_refl _) _).setCell (p := ⟨w.heap.size + 1, 0, none⟩) (Nat.le_succ _) _).setCell (p := ⟨w.heap.size + 1, 1, none⟩) (Nat.le_succ _) _).setCell (p := ⟨w.heap.size + 1, 2, none⟩) (Nat.le_succ _) _).setCell (p := ⟨w.heap.size + 1, 3, none⟩) (Nat.le_succ _) _).setCell (p := ⟨w.heap.size + 1, 4, none⟩) (Nat.le_succ _) _
end Go.Proofs.Ytkfgegdnpinbdaa

namespace Go.Proofs.Ytkfgegdnpinbdaa
open Go.RowKit
theorem two_of (l : List UInt8) (k : Nat) (h : k + 2 ≤ l.length) : twoL (numOf ((l.drop k).take 2)) = (l.drop k).take 2 := by
  have hk : (l.drop k).length = l.length - k := by simp
  match (l.drop k), hk with
  | a :: b :: r, _ =>
    have ha := a.toNat_lt
    have hb := b.toNat_lt
    simp only [List.take_succ_cons, List.take_zero, numOf, twoL, List.cons.injEq, and_true]
    refine ⟨?_, ?_⟩ <;> (apply UInt8.toNat_inj.1; simp only [UInt8.toNat_ofNat']; omega)
  | [], hk => simp at hk; omega
  | [a], hk => simp at hk; omega
theorem four_of (l : List UInt8) (k : Nat) (h : k + 4 ≤ l.length) : fourL (numOf ((l.drop k).take 4)) = (l.drop k).take 4 := by
  have hk : (l.drop k).length = l.length - k := by simp
  match (l.drop k), hk with
  | a :: b :: c :: d :: r, _ =>
    have ha := a.toNat_lt
    have hb := b.toNat_lt
    have hc := c.toNat_lt
    have hd := d.toNat_lt
    simp only [List.take_succ_cons, List.take_zero, numOf, fourL, List.cons.injEq, and_true]
    refine ⟨?_, ?_, ?_, ?_⟩ <;> (apply UInt8.toNat_inj.1; simp only [UInt8.toNat_ofNat']; omega)
  | [], hk => simp at hk; omega
  | [a], hk => simp at hk; omega
  | [a, b], hk => simp at hk; omega
  | [a, b, c], hk => simp at hk; omega
theorem get_yes' (l : List UInt8) (k many : Nat) (h : k + many ≤ l.length) : getN l (k : Int) many = numOf ((l.drop k).take many) ∧ getE l (k : Int) many = 0 := by
  have h' : 0 ≤ (k : Int) ∧ (k : Int).toNat + many ≤ l.length := by omega
  unfold getN getE
  rw [if_pos h', if_pos h']
  simp
end Go.Proofs.Ytkfgegdnpinbdaa

namespace Go.Proofs.Ytkfgegdnpinbdaa
open Go.RowKit

theorem retB {a b : Bool} (h : a = b) : Ending.returned (.bool a) = .returned (.bool b) := by rw [h]

set_option maxRecDepth 100000 in
set_option maxHeartbeats 400000 in
theorem rless_any (a b : KeyL) (w : World) : Calls Try.prog 98 #[keyV a, keyV b] w fun e w' => e = .returned (.bool (lessK a b)) ∧ Below w.heap.size w w' := by
  have hB := ((Below.refl w.heap.size w).alloc (Nat.le_refl _) (.cells #[bV a.kind, wV a.id, wV a.off] 95)).alloc (by simp) (.cells #[bV b.kind, wV b.id, wV b.off] 95)
  obtain ⟨k1, i1, o1⟩ := a
  obtain ⟨k2, i2, o2⟩ := b
  have hx : ∀ (a b : UInt32), a ≠ b → ((a.toNat : Int) == b.toNat) = false := fun a b h => by rw [beq_eq_false_iff_ne]; intro h2; exact h (UInt32.toNat_inj.1 (by omega))
  have hy : ∀ (a b : UInt8), a ≠ b → ((a.toNat : Int) == b.toNat) = false := fun a b h => by rw [beq_eq_false_iff_ne]; intro h2; exact h (UInt8.toNat_inj.1 (by omega))
  simp only [keyV, bV, wV] at *
  by_cases h1 : k1 = k2
  · subst h1
    by_cases h2 : i1 = i2
    · subst h2
      have hfin : lessK ⟨k1, i1, o1⟩ ⟨k1, i1, o2⟩ = decide (o1.toNat < o2.toNat) := by simp [lessK]
      rw [hfin]
      clear hfin
      go_enter Try.func98, Try.ntmps98
      go_wp2
      go_ret
      exact ⟨rfl, hB⟩
    · have hfin : lessK ⟨k1, i1, o1⟩ ⟨k1, i2, o2⟩ = decide (i1.toNat < i2.toNat) := by simp [lessK, h2]
      have hq := hx _ _ h2
      rw [hfin]
      clear hfin
      go_enter Try.func98, Try.ntmps98
      go_wp2
      go_ret
      exact ⟨rfl, hB⟩
  · have hfin : lessK ⟨k1, i1, o1⟩ ⟨k2, i2, o2⟩ = decide (k1.toNat < k2.toNat) := by simp [lessK, h1]
    have hq := hy _ _ h1
    rw [hfin]
    clear hfin
    go_enter Try.func98, Try.ntmps98
    go_wp2
    go_ret
    exact ⟨rfl, hB⟩

set_option maxRecDepth 100000 in
set_option maxHeartbeats 400000 in
theorem rmay_any (x : ItemL) (v : Value) (w : World) (hv : Bytes w 0 w.heap.size v x.val) :
    Calls Try.prog 97 #[itemV x v] w fun e w' => e = .returned (.bool (mayI x)) ∧ Below w.heap.size w w' := by
  obtain ⟨a, c, rfl, g1, g2, _, _⟩ := hv
  obtain ⟨⟨k, i, o⟩, r, l⟩ := x
  simp only [itemV, bV, wV] at *
  have hb := (Below.refl w.heap.size w).alloc (Nat.le_refl _) (.cells #[.int .u8 (k.toNat : Int), .int .u32 (i.toNat : Int), .int .u32 (o.toNat : Int), .int .i64 r, .slice a l.length c] 97)
  have hm : mayI ⟨⟨k, i, o⟩, r, l⟩ = decide ((r = 0 ∨ (8 ≤ r ∧ r ≤ 255)) ∧ (l.length : Int) ≤ 12) := by unfold mayI; congr 1; apply propext; simp only; omega
  rw [hm]
  clear hm
  by_cases h0 : r = 0
  · subst h0
    go_enter Try.func97, Try.ntmps97
    go_wp2
    go_ret
    exact ⟨retB (by rw [Bool.eq_iff_iff]; simp; try omega), hb⟩
  · have h0' : (r == 0) = false := by simp [h0]
    by_cases h8 : 8 ≤ r
    · by_cases h9 : r ≤ 255
      · go_enter Try.func97, Try.ntmps97
        go_wp2
        go_ret
        exact ⟨retB (by rw [Bool.eq_iff_iff]; simp; try omega), hb⟩
      · go_enter Try.func97, Try.ntmps97
        go_wp2
        go_ret
        exact ⟨retB (by rw [Bool.eq_iff_iff]; simp; try omega), hb⟩
    · go_enter Try.func97, Try.ntmps97
      go_wp2
      go_ret
      exact ⟨retB (by rw [Bool.eq_iff_iff]; simp; try omega), hb⟩
end Go.Proofs.Ytkfgegdnpinbdaa

namespace Go.Proofs.Ytkfgegdnpinbdaa
open Go.RowKit

theorem OwnB.step {base : Nat} {e : TypeId} {w w' : World} {v : Value} {l : List UInt8} (h : OwnB base e w v l) (hb : Below w.heap.size w w') : OwnB base e w' v l := by
  obtain ⟨h1, h2⟩ := h
  refine ⟨h1, ?_⟩
  rcases h2 with h2 | ⟨g, cap, cur, hv, hg, hh, r⟩
  · exact .inl h2
  · exact .inr ⟨g, cap, cur, hv, hg, (hb.block g (Array.getElem?_eq_some_iff.1 hh).1).trans hh, r⟩
theorem OwnB.le {base base' : Nat} {e : TypeId} {w : World} {v : Value} {l : List UInt8} (h : OwnB base e w v l) (hb : base' ≤ base) : OwnB base' e w v l :=
  ⟨h.1, h.2.elim Or.inl (fun ⟨g, cap, cur, hv, hg, r⟩ => Or.inr ⟨g, cap, cur, hv, Nat.le_trans hb hg, r⟩)⟩
theorem OwnB.one (w : World) (base : Nat) (e : TypeId) (h : base ≤ w.heap.size) (n : Int) (x : UInt8) (hx : Value.int .u8 n = bV x) : OwnB base e (w.alloc (.cells #[.int .u8 n] e)) (.slice (some ⟨w.heap.size, 0, none⟩) 1 1) [x] := by
  rw [hx]
  exact ⟨rfl, .inr ⟨w.heap.size, 1, _, rfl, h, World.alloc_heap_new w _, Nat.le_refl _, by unfold maxLen; omega, rfl, rfl⟩⟩
theorem one_new (w : World) (t : TypeId) (n : Int) (x : UInt8) (hx : Value.int .u8 n = bV x) : Bytes (w.alloc (.cells #[.int .u8 n] t)) w.heap.size (w.heap.size + 1) (.slice (some ⟨w.heap.size, 0, none⟩) 1 1) [x] := by
  rw [hx]
  exact Bytes.new w t [x] (by simp [maxLen]) (0, 0)
theorem one_block (w : World) (o : Obj) (W' : World) (h : Below (w.alloc o).heap.size (w.alloc o) W') : W'.heap[w.heap.size]? = some o :=
  (h.block w.heap.size (by simp)).trans (World.alloc_heap_new w o)
/-- The bytes of an item. -/
def itemB (x : ItemL) : List UInt8 := [x.key.kind] ++ fourL x.key.id.toNat ++ fourL x.key.off.toNat ++ twoL x.ref.toNat ++ [UInt8.ofNat x.val.length] ++ x.val
theorem itemB_length (x : ItemL) : (itemB x).length = 12 + x.val.length := by simp [itemB, fourL, twoL]; omega

set_option maxRecDepth 100000 in
set_option maxHeartbeats 1000000 in
theorem rbytes_any (x : ItemL) (v : Value) (w : World) (hv : Bytes w 0 w.heap.size v x.val) (h0 : 0 ≤ x.ref) (h1 : x.ref < 256) (hl : x.val.length ≤ 10000) :
    Calls Try.prog 127 #[itemV x v] w fun e w' => ∃ u, e = .returned u ∧ OwnB w.heap.size 5 w' u (itemB x) ∧ Below w.heap.size w w' := by
  have hB := (Below.refl w.heap.size w).alloc (Nat.le_refl _) (.cells #[bV x.key.kind, wV x.key.id, wV x.key.off, .int .i64 x.ref, v] 97)
  have hblk := one_block w (.cells #[bV x.key.kind, wV x.key.id, wV x.key.off, .int .i64 x.ref, v] 97)
  have hv0 := hv.step hB
  obtain ⟨W, hW⟩ : ∃ W, w.alloc (.cells #[bV x.key.kind, wV x.key.id, wV x.key.off, .int .i64 x.ref, v] 97) = W := ⟨_, rfl⟩
  have hfin : itemB x = [x.key.kind] ++ fourL x.key.id.toNat ++ fourL x.key.off.toNat ++ twoL x.ref.toNat ++ [UInt8.ofNat x.val.length] ++ x.val := rfl
  rw [hW] at hB hblk hv0
  have hz : W.heap.size = w.heap.size + 1 := by rw [← hW]; simp
  obtain ⟨a, c, rfl, g1, g2, -, -⟩ := hv
  obtain ⟨⟨k, i, o⟩, r, l⟩ := x
  obtain ⟨r, rfl⟩ := Int.eq_ofNat_of_zero_le h0
  simp only at *
  generalize itemB ⟨⟨k, i, o⟩, (r : Int), l⟩ = out at *
  simp only [itemV, bV, wV] at *
  have hc : ∀ W', Below W.heap.size W W' → W'.cell? ⟨w.heap.size, 0, none⟩ = some (.int .u8 k.toNat) ∧ W'.cell? ⟨w.heap.size, 1, none⟩ = some (.int .u32 i.toNat) ∧ W'.cell? ⟨w.heap.size, 2, none⟩ = some (.int .u32 o.toNat) ∧
      W'.cell? ⟨w.heap.size, 3, none⟩ = some (.int .i64 r) ∧ W'.cell? ⟨w.heap.size, 4, none⟩ = some (.slice a l.length c) := fun W' h =>
    ⟨blk_cell (hblk W' h) 0, blk_cell (hblk W' h) 1, blk_cell (hblk W' h) 2, blk_cell (hblk W' h) 3, blk_cell (hblk W' h) 4⟩
  have HC := Lib.hid (And.intro hc (And.intro hW (And.intro hz hfin)))
  have HV := Lib.hid hv0
  have HB := Lib.hid hB
  have hi := i.toNat_lt
  have ho := o.toNat_lt
  clear hc hW hfin hblk hz h0 hv0 hB
  obtain ⟨c0, c1, c2, c3, c4⟩ := HC.out.1 W (Below.refl _ _)
  have hB0 := (Below.refl W.heap.size W)
  go_enter Try.func127, Try.ntmps127
  go_upto_region 1 with (fail)
  rw [HC.out.2.1]
  go_upto_region 2 with (fail)
  have own1 := OwnB.one W W.heap.size 5 (Nat.le_refl _) k.toNat k rfl
  have hB1 : Below W.heap.size W (W.alloc (.cells #[.int .u8 (k.toNat : Int)] 5)) := hB0.alloc (Nat.le_refl _) _
  clear c0 c1 c2 c3 c4 hB0
  generalize W.alloc (.cells #[.int .u8 (k.toNat : Int)] 5) = w1 at *
  obtain ⟨-, c1, -, -, -⟩ := HC.out.1 w1 hB1
  go_wp2_with fail
  refine (rfour_own _ w1 (by omega)).mono ?_
  rintro e w2 ⟨v2, rfl, hown, hb2⟩
  have own2 := own1.step hb2
  have hB2 := hB1.trans (hb2.mono hB1.size)
  have src := hown.bytes.all0
  clear own1 hown hb2 hB1 c1
  obtain ⟨Li, hLi⟩ : ∃ x, fourL i.toNat = x := ⟨_, rfl⟩
  obtain ⟨Lo, hLo⟩ : ∃ x, fourL o.toNat = x := ⟨_, rfl⟩
  obtain ⟨Lr, hLr⟩ : ∃ x, twoL r = x := ⟨_, rfl⟩
  have HL := Lib.hid (And.intro hLi (And.intro hLo hLr))
  have HH := Lib.hid (And.intro (show Li.length = 4 by rw [← hLi]; rfl) (And.intro (show Lo.length = 4 by rw [← hLo]; rfl) (show Lr.length = 2 by rw [← hLr]; rfl)))
  rw [hLi] at src
  clear hLi hLo hLr
  obtain ⟨va, vc, rfl, -, -⟩ := src.form HH.out.1
  go_wp2_with (at_builtin; refine wpList_appB rfl _ _ 26 rfl W.heap.size 5 Try.underlying26 info_u8 _ [k] rfl own2 0 w2.heap.size _ Li rfl src (by have := HH.out.1; simp; omega) hB2.size ?_; intro v3 w3 own3 hb3; have hB3 := hB2.trans hb3; obtain ⟨-, -, c2, -, -⟩ := HC.out.1 w3 hB3; clear own2 src hb3 hB2)
  have hc4 := rfour_own o.toNat w3 (by omega)
  rw [HL.out.2.1] at hc4
  refine hc4.mono ?_
  clear hc4
  rintro e w4 ⟨v4, rfl, hown, hb4⟩
  have own4 := own3.step hb4
  have hB4 := hB3.trans (hb4.mono hB3.size)
  have src := hown.bytes.all0
  clear own3 hown hb4 hB3 c2
  obtain ⟨va, vc, rfl, -, -⟩ := src.form HH.out.2.1
  go_wp2_with (at_builtin; refine wpList_appB rfl _ _ 26 rfl W.heap.size 5 Try.underlying26 info_u8 _ ([k] ++ Li) rfl own4 0 w4.heap.size _ Lo rfl src (by have := HH.out; simp; omega) hB4.size ?_; intro v5 w5 own5 hb5; have hB5 := hB4.trans hb5; obtain ⟨-, -, -, c3, -⟩ := HC.out.1 w5 hB5; clear own4 src hb5 hB4)
  have hc6 := bytes_own r 2 w5 (by omega) (by omega)
  rw [bytesL_two, HL.out.2.2] at hc6
  refine hc6.mono ?_
  clear hc6
  rintro e w6 ⟨v6, rfl, hown, hb6⟩
  have own6 := own5.step hb6
  have hB6 := hB5.trans (hb6.mono hB5.size)
  have src := hown.bytes.all0
  clear own5 hown hb6 hB5 c3
  obtain ⟨va, vc, rfl, -, -⟩ := src.form HH.out.2.2
  go_upto_region 5 with (at_builtin; refine wpList_appB rfl _ _ 26 rfl W.heap.size 5 Try.underlying26 info_u8 _ ([k] ++ Li ++ Lo) rfl own6 0 w6.heap.size _ Lr rfl src (by have := HH.out; simp; omega) hB6.size ?_; intro v7 w7 own7 hb7; have hB7 := hB6.trans hb7; obtain ⟨-, -, -, -, c4⟩ := HC.out.1 w7 hB7; clear own6 src hb7 hB6)
  have hlen : Value.int .u8 ((l.length : Int) % 256) = bV (UInt8.ofNat l.length) := by simp [bV]
  have Hlen := Lib.hid hlen
  clear hlen
  go_upto_region 6 with (at_builtin; refine wpList_appB rfl _ _ 26 rfl W.heap.size 5 Try.underlying26 info_u8 _ ([k] ++ Li ++ Lo ++ Lr) rfl (own7.alloc _) w7.heap.size (w7.heap.size + 1) _ [UInt8.ofNat l.length] rfl (one_new w7 _ _ _ Hlen.out) (by have := HH.out; simp; omega) (by have := hB7.size; simp; omega) ?_; intro v8 w8 own8 hb8; have hB8 := (hB7.alloc hB7.size _).trans hb8; obtain ⟨-, -, -, -, c4⟩ := HC.out.1 w8 hB8; clear own7 hB7 hb8)
  have hv8 := HV.out.below hB8 (Nat.le_refl _)
  go_wp2_with (at_builtin; refine wpList_appB rfl _ _ 26 rfl W.heap.size 5 Try.underlying26 info_u8 _ ([k] ++ Li ++ Lo ++ Lr ++ [UInt8.ofNat l.length]) rfl own8 0 W.heap.size _ l rfl hv8 (by have := HH.out; simp; omega) hB8.size ?_; intro v9 w9 own9 hb9)
  go_ret
  refine ⟨_, rfl, ?_, HB.out.trans ((hB8.trans hb9).mono HB.out.size)⟩
  have hf := HC.out.2.2.2
  rw [HL.out.1, HL.out.2.1, Int.toNat_natCast, HL.out.2.2] at hf
  rw [hf]
  exact own9.le HB.out.size
end Go.Proofs.Ytkfgegdnpinbdaa

namespace Go.Proofs.Ytkfgegdnpinbdaa
open Go.RowKit

theorem may_ref {x : ItemL} (h : mayI x = true) : 0 ≤ x.ref ∧ x.ref < 256 ∧ x.val.length ≤ 12 := by
  unfold mayI at h
  simp only [decide_eq_true_eq] at h
  omega

set_option maxRecDepth 100000 in
set_option maxHeartbeats 400000 in
theorem rsame_any (x y : ItemL) (v u : Value) (w : World) (hv : Bytes w 0 w.heap.size v x.val) (hu : Bytes w 0 w.heap.size u y.val) :
    Calls Try.prog 87 #[itemV x v, itemV y u] w fun e w' => e = .returned (.bool (decide (x = y))) ∧ Below w.heap.size w w' := by
  have hb1 := (Below.refl w.heap.size w).alloc (Nat.le_refl _) (.cells #[bV x.key.kind, wV x.key.id, wV x.key.off, .int .i64 x.ref, v] 97)
  have hb2 := hb1.alloc (by simp) (.cells #[bV y.key.kind, wV y.key.id, wV y.key.off, .int .i64 y.ref, u] 97)
  have hv2 := hv.step hb2
  have hu2 := hu.step hb2
  have c1 := cv_of hv2
  have c2 := cv_of hu2
  have hk := fun w => eq_key x.key y.key w
  have hg : Try.prog.eqGuardType Try.prog.depth 95 = false := by kernel_rfl
  obtain ⟨a, c, rfl, g1, g2, _, _⟩ := hv
  obtain ⟨a', c', rfl, g1', g2', _, _⟩ := hu
  obtain ⟨kx, r, l⟩ := x
  obtain ⟨ky, s, m⟩ := y
  simp only at *
  clear hv2 hu2
  by_cases h1 : kx = ky
  · subst h1
    rw [decide_eq_true rfl] at hk
    by_cases h2 : r = s
    · subst h2
      have hfin : decide ((⟨kx, r, l⟩ : ItemL) = ⟨kx, r, m⟩) = decide (l = m) := by simp
      rw [hfin]
      clear hfin
      obtain ⟨k, i, o⟩ := kx
      simp only [itemV, keyV, bV, wV] at *
      go_enter Try.func87, Try.ntmps87
      go_wp2
      go_ret
      exact ⟨retB (by rw [Bool.eq_iff_iff]; simp), hb2⟩
    · have hfin : decide ((⟨kx, r, l⟩ : ItemL) = ⟨kx, s, m⟩) = false := by simp [h2]
      have h2' : (r == s) = false := by simp [h2]
      rw [hfin]
      clear hfin
      obtain ⟨k, i, o⟩ := kx
      simp only [itemV, keyV, bV, wV] at *
      go_enter Try.func87, Try.ntmps87
      go_wp2
      go_ret
      exact ⟨rfl, hb2⟩
  · have hfin : decide ((⟨kx, r, l⟩ : ItemL) = ⟨ky, s, m⟩) = false := by simp [h1]
    rw [decide_eq_false h1] at hk
    rw [hfin]
    clear hfin h1
    obtain ⟨k, i, o⟩ := kx
    obtain ⟨k', i', o'⟩ := ky
    simp only [itemV, keyV, bV, wV] at *
    go_enter Try.func87, Try.ntmps87
    go_wp2
    go_ret
    exact ⟨rfl, hb2⟩
end Go.Proofs.Ytkfgegdnpinbdaa

namespace Go.Proofs.Ytkfgegdnpinbdaa
open Go.RowKit

def okW (x : WrL) : Bool := decide (0 ≤ x.at_) && decide (x.at_ < 256) && x.data.length == 128
def mayD (d : DiskL) : Bool := d.blocks.length == 256 && decide (d.waits.length ≤ 4096) && d.blocks.all (fun b => b.length == 128) && d.waits.all okW

theorem get_l {α : Type} (l : List α) (d : α) (i : Nat) (h : i < l.length) : l[i]? = some (l.getD i d) := by simp [h]

set_option maxRecDepth 100000 in
set_option maxHeartbeats 1000000 in
/-- dev.Check. -/
theorem dcheck_any (b u : Value) (d : DiskL) (w : World) (h : DiskV w 0 w.heap.size b u d) :
    Calls Try.prog 51 #[.agg #[b, u]] w fun e w' => e = .returned (.int .i64 (if mayD d then 0 else 8)) ∧ Below w.heap.size w w' := by
  have hB := (Below.refl w.heap.size w).alloc (Nat.le_refl _) (.cells #[b, u] 25)
  have hb := h.1.step hB
  have hu := h.2.step hB
  have hq := World.alloc_heap_new w (.cells #[b, u] 25)
  obtain ⟨ab, cb, rfl, g1, g2, -, -⟩ := h.1
  obtain ⟨au, cu, rfl, g1', g2', -, -⟩ := h.2
  unfold maxLen at g2 g2'
  obtain ⟨bl, wl⟩ := d
  clear h
  simp only at *
  obtain ⟨W, hW⟩ : ∃ W, w.alloc (.cells #[.slice ab bl.length cb, .slice au wl.length cu] 25) = W := ⟨_, rfl⟩
  rw [hW] at hB hb hu hq
  have HM := Lib.hid (show mayD ⟨bl, wl⟩ = (bl.length == 256 && decide (wl.length ≤ 4096) && bl.all (fun b => b.length == 128) && wl.all okW) from rfl)
  generalize mayD ⟨bl, wl⟩ = md at *
  have HQ := Lib.hid (And.intro hq (And.intro hb (And.intro hu (And.intro hW hB))))
  clear hq hb hu hW hB
  go_enter Try.func51, Try.ntmps51
  go_upto_region 1 with (fail)
  rw [HQ.out.2.2.2.1]
  have c0 := blk_cell HQ.out.1 0
  have c1 := blk_cell HQ.out.1 1
  simp at c0 c1
  by_cases h1 : ¬ bl.length = 256
  · have i1 : ¬ (bl.length : Int) = 256 := by omega
    have hm : md = false := by rw [HM.out]; simp [h1]
    subst hm
    go_wp2
    go_ret
    exact ⟨rfl, HQ.out.2.2.2.2⟩
  have hbl : bl.length = 256 := by omega
  clear h1
  by_cases h2 : 4096 < wl.length
  · have i1 : (4096 : Int) < wl.length := by omega
    have hm : md = false := by rw [HM.out]; simp [hbl]; omega
    subst hm
    go_wp2
    go_ret
    exact ⟨rfl, HQ.out.2.2.2.2⟩
  have i2 : decide ((4096 : Int) < wl.length) = false := by simp; omega
  have HM2 := Lib.hid (show md = (bl.all (fun b => b.length == 128) && wl.all okW) by rw [HM.out, hbl]; simp [show wl.length ≤ 4096 by omega])
  clear HM
  have hb := HQ.out.2.1
  obtain ⟨bb, bo, cb', e', -, z1, z2, z3, hbe⟩ := hb.at_ (by omega)
  injection e' with ea _ ec
  subst ea ec
  have HBE := Lib.hid hbe
  unfold maxLen at z3
  clear hbe hb
  rw [hbl] at HQ g1 z2 c0 ⊢
  go_wp2_with fail
  go_loopw [20] (fun i wr => ∃ k : Nat, k ≤ 256 ∧ i = .int .i64 k ∧ wr = W ∧ ∀ j, j < k → (bl.getD j []).length = 128) (fun i _ => 256 - (intOf i).toNat)
  case atStart => exact ⟨0, Nat.zero_le _, rfl, rfl, fun j hj => absurd hj (Nat.not_lt_zero _)⟩
  case round =>
  obtain ⟨k, hk, rfl, rfl, hall⟩ := hrel
  by_cases hlt : k < 256
  · obtain ⟨v, hv, hvb⟩ := HBE.out k (bl.getD k []) (get_l _ _ _ (by omega))
    obtain ⟨av, cv, rfl, -, hcv⟩ := hvb.form rfl
    unfold maxLen at hcv
    have hv' : wr.cell? ⟨bb, bo + k, none⟩ = some (.slice av (bl.getD k []).length cv) := by simpa [rBytes] using hv
    obtain ⟨y, hy⟩ : ∃ y, bl.getD k [] = y := ⟨_, rfl⟩
    rw [hy] at hv'
    have HY := Lib.hid (And.intro hy hall)
    clear hv hvb hy hall
    by_cases h5 : y.length = 128
    · rw [h5] at hv'
      go_wp2
      go_roundw
      case rel => exact ⟨k + 1, by omega, by go_num, trivial, fun j hj => by
        by_cases e : j = k
        · subst e; rw [HY.out.1]; exact h5
        · exact HY.out.2 j (by omega)⟩
      case measure => simp [intOf]; omega
    · have i5 : ¬ (y.length : Int) = 128 := by omega
      have hm : md = false := by
        rw [HM2.out]
        have : bl.all (fun b => b.length == 128) = false := by
          rw [List.all_eq_false]
          refine ⟨y, ?_, by simp [h5]⟩
          rw [← HY.out.1]
          exact List.mem_of_getElem? (get_l _ _ _ (by omega))
        rw [this]; rfl
      subst hm
      go_wp2
      go_ret
      exact ⟨rfl, HQ.out.2.2.2.2⟩
  obtain rfl : k = 256 := by omega
  have hall2 : bl.all (fun b => b.length == 128) = true := by
    rw [List.all_eq_true]
    intro x hx
    obtain ⟨j, hj⟩ := List.mem_iff_getElem?.1 hx
    have hjl : j < bl.length := (List.getElem?_eq_some_iff.1 hj).1
    rw [get_l bl [] j hjl] at hj
    cases hj
    exact beq_iff_eq.2 (hall j (by omega))
  obtain ⟨V, hV⟩ : ∃ V, V = wr := ⟨_, rfl⟩
  subst hV
  have HM3 := Lib.hid (show md = wl.all okW by rw [HM2.out, hall2]; rfl)
  clear HM2 hall hall2 hlt hk HBE i2
  go_wp2_with fail
  go_loopw [31] (fun i wx => ∃ k : Nat, k ≤ wl.length ∧ i = .int .i64 k ∧ Below V.heap.size V wx ∧ ∀ j, j < k → okW (wl.getD j ⟨0, []⟩) = true) (fun i _ => wl.length - (intOf i).toNat)
  case atStart => exact ⟨0, Nat.zero_le _, rfl, Below.refl _ _, fun j hj => absurd hj (Nat.not_lt_zero _)⟩
  case round =>
  obtain ⟨k, hk, rfl, hB, hall⟩ := hrel
  by_cases hlt : k < wl.length
  · obtain ⟨wb, wo, wc, e', -, y1, y2, y3, hwe⟩ := (HQ.out.2.2.1.step hB).at_ (by omega)
    injection e' with ea _ ec
    subst ea ec
    unfold maxLen at y3
    obtain ⟨f0, f1, v, f2, f3⟩ := hwe k (wl.getD k ⟨0, []⟩) (get_l _ _ _ hlt)
    obtain ⟨av, cv, rfl, -, hcv⟩ := f3.form rfl
    unfold maxLen at hcv
    obtain ⟨y, hy⟩ : ∃ y, wl.getD k ⟨0, []⟩ = y := ⟨_, rfl⟩
    rw [hy] at f0 f1 f2
    have HY := Lib.hid (And.intro hy (And.intro hall hB))
    clear hwe f3 hy hall hB
    obtain ⟨at_, dt⟩ := y
    simp [rWrite] at f0 f2
    have hokw : okW ⟨at_, dt⟩ = (decide (0 ≤ at_) && decide (at_ < 256) && dt.length == 128) := rfl
    have hfin := Lib.hid (below_step HQ.out.2.2.2.2 HQ.out.2.2.2.2.size (HY.out.2.2.alloc HY.out.2.2.size (.cells #[.int .i64 at_, .slice av dt.length cv] 92)))
    have hbad : okW ⟨at_, dt⟩ = false → md = false := fun h => by
      rw [HM3.out, List.all_eq_false]
      refine ⟨⟨at_, dt⟩, ?_, by rw [h]; decide⟩
      rw [← HY.out.1]
      exact List.mem_of_getElem? (get_l _ _ _ hlt)
    have HBD := Lib.hid hbad
    clear hbad
    by_cases a1 : at_ < 0
    · have hm := HBD.out (by rw [hokw]; simp; omega)
      subst hm
      clear hokw
      go_wp2
      go_ret
      exact ⟨rfl, hfin.out⟩
    have d1 : decide (at_ < 0) = false := by simp; omega
    by_cases a2 : 256 ≤ at_
    · have hm := HBD.out (by rw [hokw]; simp; omega)
      subst hm
      clear hokw
      go_wp2
      go_ret
      exact ⟨rfl, hfin.out⟩
    have d2 : decide (256 ≤ at_) = false := by simp; omega
    by_cases a3 : dt.length = 128
    · have HOK := Lib.hid (show okW ⟨at_, dt⟩ = true by rw [hokw]; simp [a3]; omega)
      clear hokw
      go_wp2
      go_roundw
      case rel => exact ⟨k + 1, by omega, by go_num, HY.out.2.2.alloc HY.out.2.2.size _, fun j hj => by
        by_cases e : j = k
        · subst e; rw [HY.out.1]; exact HOK.out
        · exact HY.out.2.1 j (by omega)⟩
      case measure => simp [intOf]; omega
    · have i5 : ¬ (dt.length : Int) = 128 := by omega
      have hm := HBD.out (by rw [hokw]; simp [a3])
      subst hm
      clear hokw
      go_wp2
      go_ret
      exact ⟨rfl, hfin.out⟩
  obtain rfl : k = wl.length := by omega
  have hm : md = true := by
    rw [HM3.out, List.all_eq_true]
    intro x hx
    obtain ⟨j, hj⟩ := List.mem_iff_getElem?.1 hx
    have hjl : j < wl.length := (List.getElem?_eq_some_iff.1 hj).1
    rw [get_l wl ⟨0, []⟩ j hjl] at hj
    cases hj
    exact hall j hjl
  subst hm
  have c1' := (hB.cell (p := ⟨w.heap.size, 1, none⟩) (Array.getElem?_eq_some_iff.1 HQ.out.1).1).trans c1
  have hfin := below_step HQ.out.2.2.2.2 HQ.out.2.2.2.2.size hB
  clear hall hB
  go_wp2
  go_ret
  exact ⟨rfl, hfin⟩

end Go.Proofs.Ytkfgegdnpinbdaa

namespace Go.Proofs.Ytkfgegdnpinbdaa
open Go.RowKit

def errA (d : DiskL) (p : Int) : Int := if mayD d then (if p < 0 ∨ 256 ≤ p then 2 else 0) else 8

set_option maxRecDepth 100000 in
set_option maxHeartbeats 1000000 in
/-- dev.asked. -/
theorem dasked_any (b u : Value) (d : DiskL) (p : Int) (w : World) (h : DiskV w 0 w.heap.size b u d) :
    Calls Try.prog 78 #[.agg #[b, u], .int .i64 p] w fun e w' => e = .returned (.int .i64 (errA d p)) ∧ Below w.heap.size w w' := by
  have hB := (Below.refl w.heap.size w).alloc (Nat.le_refl _) (.cells #[b, u] 25)
  have hb := h.1.step hB
  have hu := h.2.step hB
  have hq := World.alloc_heap_new w (.cells #[b, u] 25)
  have hck := fun V hh => dcheck_any b u d V hh
  obtain ⟨ab, cb, rfl, g1, g2, -, -⟩ := h.1
  obtain ⟨au, cu, rfl, g1', g2', -, -⟩ := h.2
  unfold maxLen at g2 g2'
  clear h
  obtain ⟨W, hW⟩ : ∃ W, w.alloc (.cells #[.slice ab d.blocks.length cb, .slice au d.waits.length cu] 25) = W := ⟨_, rfl⟩
  rw [hW] at hB hb hu hq
  have hE : (mayD d = true ∧ (if mayD d then (0 : Int) else 8) = 0 ∧ errA d p = (if p < 0 ∨ 256 ≤ p then 2 else 0)) ∨ ((if mayD d then (0 : Int) else 8) = 8 ∧ errA d p = 8) := by
    unfold errA
    cases mayD d
    · exact .inr ⟨rfl, rfl⟩
    · exact .inl ⟨rfl, rfl, rfl⟩
  generalize (if mayD d then (0 : Int) else 8) = er at *
  generalize errA d p = ea at *
  have HE := Lib.hid hE
  have HC := Lib.hid hck
  have HQ := Lib.hid (And.intro hq (And.intro (And.intro hb hu) (And.intro hW hB)))
  clear hq hb hu hW hB hE hck
  go_enter Try.func78, Try.ntmps78
  go_upto_region 1 with (fail)
  rw [HQ.out.2.2.1]
  have c0 := blk_cell HQ.out.1 0
  have c1 := blk_cell HQ.out.1 1
  simp at c0 c1
  go_wp2_with fail
  refine (HC.out W HQ.out.2.1).mono ?_
  rintro e w1 ⟨rfl, hst⟩
  have hfin := below_step HQ.out.2.2.2 HQ.out.2.2.2.size hst
  clear c0 c1
  rcases HE.out with ⟨-, rfl, hx⟩ | ⟨rfl, rfl⟩
  · by_cases h1 : p < 0
    · have hm : ea = 2 := by rw [hx]; simp [h1]
      subst hm
      clear hx HE
      go_wp2
      go_ret
      exact ⟨rfl, hfin⟩
    have d1 : decide (p < 0) = false := by simp; omega
    by_cases h2 : 256 ≤ p
    · have hm : ea = 2 := by rw [hx]; simp [h2]
      subst hm
      clear hx HE
      go_wp2
      go_ret
      exact ⟨rfl, hfin⟩
    · have d2 : decide (256 ≤ p) = false := by simp; omega
      have hm : ea = 0 := by rw [hx]; simp [h1]; omega
      subst hm
      clear hx HE
      go_wp2
      go_ret
      exact ⟨rfl, hfin⟩
  · go_wp2
    go_ret
    exact ⟨rfl, hfin⟩

end Go.Proofs.Ytkfgegdnpinbdaa

namespace Go.Proofs.Ytkfgegdnpinbdaa
open Go.RowKit

/-- Block g alone may have turned. -/
def OnlyAt (g : Nat) (w w' : World) : Prop := Below g w w' ∧ w'.heap.size = w.heap.size ∧ ∀ k, k ≠ g → w'.heap[k]? = w.heap[k]?
theorem OnlyAt.refl (g : Nat) (w : World) : OnlyAt g w w := ⟨Below.refl _ _, rfl, fun _ _ => rfl⟩

theorem wpList_copyF {P : Program} {w : World} {ops : Array Oper} {rest : List Oper} {o : Oper} {a : Act} {Q : Exit → Act → World → Prop} (hgd : o.guard = none) (d s : Operand) (dT sT : TypeId)
    (ho : o.op = .call { callee := .builtin .copy, args := #[d, s], argTypes := #[dT, sT] }) (e : TypeId) (hu : P.underlying dT = some (.slice e))
    (hi : (P.info? e).map (fun i => (i.zero, i.size, i.bytes)) = some (some (.int .u8 0), 1, 1)) (g off dLen dCap : Nat) (hd : a.eval d = .slice (some ⟨g, off, none⟩) dLen dCap)
    (L : List UInt8) (hrow : RowB w g e L) (lo hi' : Nat) (sv : Value) (bs : List UInt8) (hs : a.eval s = sv) (hr : Bytes w lo hi' sv bs) (hfit : bs.length ≤ dLen) (hfit2 : off + bs.length ≤ L.length)
    (h : ∀ w', RowB w' g e (splice L off bs) → OnlyAt g w w' → wpList P ops Q rest (a.put o.dst (goInt ((bs.length : Nat) : Int))) w') : wpList P ops Q (o :: rest) a w := by
  obtain ⟨i0, hi0, hz0, hz1, hz2⟩ := info_parts hi
  obtain ⟨sp, sc, rfl, h1, h2, h3, h4⟩ := hr
  have hmin : Nat.min bs.length dLen = bs.length := Nat.min_eq_left hfit
  have hsz : (P.info? e).map (·.size) = some 1 := by rw [hi0]; simp [hz1]
  by_cases h0 : bs.length = 0
  · obtain rfl : bs = [] := List.eq_nil_of_length_eq_zero h0
    refine wpList_copy_nothing hgd d s dT sT ho e hu hsz _ _ _ _ _ _ hd hs hmin ?_
    exact h w (by simpa [splice] using hrow) (OnlyAt.refl _ _)
  · obtain ⟨b, o2, rfl, _, _, hc⟩ := h3 (by omega)
    refine wpList_copy_own hgd d s dT sT ho e hu hsz g off dLen dCap _ _ _ hd hs (L.map bV).toArray e hrow (bs.map bV) (by rw [List.length_map, hmin]) ?_ (by simpa using hfit2) ?_ ?_
    · intro j v hj
      have e2 : (⟨b, o2, none⟩ : Addr).add j = ⟨b, o2 + j, none⟩ := by unfold Addr.add; split <;> simp_all
      rw [List.getElem?_map] at hj
      cases hx : bs[j]? with
      | none => rw [hx] at hj; cases hj
      | some x =>
        rw [hx] at hj
        cases hj
        rw [e2]
        exact hc j x hx
    · intro u hu
      obtain ⟨y, _, rfl⟩ := List.mem_map.1 hu
      rfl
    · rw [List.length_map]
      refine h _ ?_ ⟨below_setRow (Below.refl _ _) (Nat.le_refl _) _, by simp [World.setRow], fun k hk => setRow_other w g k _ (by omega)⟩
      unfold RowB
      rw [setRow_heap w g (L.map bV).toArray _ e (0, 0) hrow]
      simp [splice, List.map_take, List.map_drop]
end Go.Proofs.Ytkfgegdnpinbdaa

namespace Go.Proofs.Ytkfgegdnpinbdaa
open Go.RowKit

theorem cut_run (b off n c i j : Nat) (I J : Int) (hI : I = i) (hJ : J = j) (hij : i ≤ j) (hjc : j ≤ c) (hcm : c ≤ maxLen) : ∃ A : Addr,
    (∀ w, (Instr.sliceAt 26 (.slice (some ⟨b, off, none⟩) n c) (some (.int .i64 I)) (some (.int .i64 J)) none).run Try.prog w = .ok (.slice (some A) (j - i) (c - i)) w) ∧
    ∀ W lo hi l, Bytes W lo hi (.slice (some ⟨b, off, none⟩) n c) l → j ≤ l.length → Bytes W lo hi (.slice (some A) (j - i) (c - i)) ((l.drop i).take (j - i)) := by
  subst hI hJ
  by_cases h : c = i
  · refine ⟨⟨b, off, none⟩, fun w => ?_, fun W lo hi l hb hj => ?_⟩
    · simp [go_sem]
      rw [if_pos hjc, if_pos hij, if_pos h]
    · have e : j - i = 0 := by omega
      rw [e]
      obtain ⟨a, c', e1, h1, h2, h3, h4⟩ := hb
      cases e1
      exact ⟨some ⟨b, off, none⟩, c - i, by simp, by simp, by omega, fun hp => by simp at hp, fun h => by cases h⟩
  · refine ⟨⟨b, off + i, none⟩, fun w => ?_, fun W lo hi l hb hj => ?_⟩
    · simp [go_sem]
      rw [if_pos hjc, if_pos hij, if_neg h]
    · exact hb.cut i (j - i) (c - i) (by omega) (by omega) (by omega)
end Go.Proofs.Ytkfgegdnpinbdaa

