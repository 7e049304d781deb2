/- The contracts of the reference of layer 1. -/
import Derived.Test.YtldidclnfkmonaaCode
namespace Go.Proofs.Ytldidclnfkmonaa
open Go.RowKit

theorem info_u8 : (Try.prog.info? 5).map (fun i => (i.zero, i.size, i.bytes)) = some (some (.int .u8 0), 1, 1) := by kernel_rfl

/-- A number's bytes, so many, the lowest first. -/
def bytesL (n : Nat) : Nat → List UInt8
  | 0 => []
  | k + 1 => bytesL n k ++ [UInt8.ofNat (n / 256 ^ k)]
theorem bytesL_length (n : Nat) : ∀ k, (bytesL n k).length = k
  | 0 => rfl
  | k + 1 => by simp [bytesL, bytesL_length n k]

theorem bytes_one (w : World) (n : Int) (q : Nat) (h : n = (q % 256 : Nat)) (t : TypeId) :
    Bytes (w.alloc (.cells #[.int .u8 n] t)) w.heap.size (w.heap.size + 1) (.slice (some ⟨w.heap.size, 0, none⟩) 1 1) [UInt8.ofNat q] := by
  rw [bV_ofNat n q h]
  exact Bytes.new w t [UInt8.ofNat q] (by simp [maxLen]) (0, 0)

theorem ret1 {a b : Value} (h : a = b) : Ending.returned a = .returned b := by rw [h]

set_option maxHeartbeats 1000000 in
theorem bytes_own (n many : Nat) (w : World) (hm : many ≤ 1000) (hn : n ≤ 9000000000000000000) :
    Calls Try.prog 82 #[.int .i64 n, .int .i64 many] w fun e w' => ∃ v, e = .returned v ∧ OwnB w.heap.size 5 w' v (bytesL n many) ∧ Below w.heap.size w w' := by
  go_enter Try.func82, Try.ntmps82
  go_wp2
  go_loopw [0, 5, 6] (fun m v i wr => ∃ k : Nat, k ≤ many ∧ i = .int .i64 k ∧ m = .int .i64 (n / 256 ^ k : Nat) ∧ OwnB w.heap.size 5 wr v (bytesL n k) ∧ Below w.heap.size w wr) (fun _ _ i _ => many - (intOf i).toNat)
  case atStart => exact ⟨0, Nat.zero_le _, rfl, by simp, OwnB.nil_ _ _ _, Below.refl _ _⟩
  case round =>
    obtain ⟨k, hk, rfl, rfl, hown, hB⟩ := hrel
    by_cases hlt : k < many
    · have hq : n / 256 ^ k ≤ n := Nat.div_le_self _ _
      have hs : n / 256 ^ (k + 1) = n / 256 ^ k / 256 := by rw [Nat.pow_succ, Nat.div_div_eq_div_mul]
      have HS := Lib.hid hs
      have hlen := bytesL_length n k
      have HL := Lib.hid hlen
      have hsuc : bytesL n (k + 1) = bytesL n k ++ [UInt8.ofNat (n / 256 ^ k)] := rfl
      have HU := Lib.hid hsuc
      clear hs hlen hsuc
      generalize n / 256 ^ k = q at *
      generalize bytesL n k = l at *
      go_wp2_with (at_builtin; refine wpList_appB rfl _ _ 28 rfl w.heap.size 5 Try.underlying28 info_u8 _ l rfl (hown.alloc _) wr.heap.size (wr.heap.size + 1) _ [UInt8.ofNat q] rfl (bytes_one wr _ q (by omega) _) (by have := HL.out; simp; omega) (by have := hB.size; simp; omega) ?_; intro v' w1 hown' hB1)
      go_roundw
      case rel => exact ⟨k + 1, by omega, by go_num, by rw [HS.out]; go_num, by rw [HU.out]; exact hown', (hB.alloc hB.size _).trans hB1⟩
      case measure => simp [intOf]; omega
    · obtain rfl : k = many := by omega
      go_wp2
      go_ret
      exact ⟨_, rfl, hown, hB⟩
theorem bytes_any (n many : Nat) (w : World) (hm : many ≤ 1000) (hn : n ≤ 9000000000000000000) :
    Calls Try.prog 82 #[.int .i64 n, .int .i64 many] w fun e w' => ∃ v, e = .returned v ∧ MadeB w w' v (bytesL n many) := by
  refine (bytes_own n many w hm hn).mono ?_
  rintro e w' ⟨v, rfl, h1, h2⟩
  exact ⟨v, rfl, h1.made h2⟩

theorem numOf_drop (l : List UInt8) (m : Nat) (h : m < l.length) : numOf (l.drop m) = (l.getD m 0).toNat + 256 * numOf (l.drop (m + 1)) := by
  rw [List.drop_eq_getElem_cons h, numOf]
  simp [h]

set_option maxHeartbeats 1000000 in
theorem number_any (v : Value) (l : List UInt8) (w : World) (hI : Bytes w 0 w.heap.size v l) (hl : l.length ≤ 6) :
    Calls Try.prog 84 #[v] w fun e w' => e = .returned (.int .i64 (numOf l : Nat)) ∧ w = w' := by
  obtain ⟨a, c, rfl, g1, g2, g3, _⟩ := hI
  unfold maxLen at g2
  go_enter Try.func84, Try.ntmps84
  go_wp2
  go_loop [3, 4] (fun n i => ∃ k : Nat, k ≤ l.length ∧ i = .int .i64 ((k : Int) - 1) ∧ n = .int .i64 (numOf (l.drop k) : Nat)) (fun _ i => (intOf i + 1).toNat)
  case atStart => exact ⟨l.length, Nat.le_refl _, rfl, by simp [numOf]⟩
  case round =>
    obtain ⟨k, hk, rfl, rfl⟩ := hrel
    rcases Nat.eq_zero_or_pos k with rfl | hp
    · go_wp2
      go_ret
      exact ⟨by simp, rfl⟩
    · obtain ⟨m, rfl⟩ : ∃ m, k = m + 1 := ⟨k - 1, by omega⟩
      obtain ⟨b, off, rfl, _, hb, hc⟩ := g3 (by omega)
      have hml : m < l.length := by omega
      have hx := hc m (l.getD m 0) (by simp [hml])
      have hd := numOf_drop l m (by omega)
      have HD := Lib.hid hd
      have hbd := numOf_lt (l.drop (m + 1))
      have hbe : 256 ^ (l.drop (m + 1)).length ≤ 256 ^ 5 := Nat.pow_le_pow_right (by decide) (by simp; omega)
      have hbf : numOf (l.drop (m + 1)) < 1099511627776 := by simp only [show (256 : Nat) ^ 5 = 1099511627776 by decide] at hbe; omega
      have hxl := (l.getD m 0).toNat_lt
      clear hd hc hbd hbe
      generalize numOf (l.drop (m + 1)) = q at *
      generalize l.getD m 0 = x at *
      unfold bV at hx
      rw [show ((m + 1 : Nat) : Int) - 1 = (m : Int) by omega]
      go_wp2
      go_round
      case rel => exact ⟨m, by omega, rfl, by rw [HD.out]; congr 1; omega⟩
      case measure => simp [intOf]

theorem there_any (v : Value) (l : List UInt8) (at_ : Int) (many : Nat) (w : World) (hI : Bytes w 0 w.heap.size v l) (hm : many ≤ 4) :
    Calls Try.prog 83 #[v, .int .i64 at_, .int .i64 many] w fun e w' => e = .returned (.bool (decide (0 ≤ at_ ∧ at_.toNat + many ≤ l.length))) ∧ w = w' := by
  obtain ⟨a, c, rfl, g1, g2, g3, _⟩ := hI
  unfold maxLen at g2
  clear g3
  have hr : decide (0 ≤ at_ ∧ at_.toNat + many ≤ l.length) = decide (0 ≤ at_ ∧ at_ ≤ (l.length : Int) ∧ (many : Int) ≤ l.length - at_) := by congr 1; apply propext; omega
  rw [hr]
  clear hr
  by_cases h1 : 0 ≤ at_
  · by_cases h2 : at_ ≤ (l.length : Int)
    · by_cases h3 : (many : Int) ≤ (l.length : Int) - at_
      all_goals
        go_enter Try.func83, Try.ntmps83
        go_wp2
        go_ret
        exact ⟨by simp [*], rfl⟩
    · go_enter Try.func83, Try.ntmps83
      go_wp2
      go_ret
      exact ⟨by simp [*]; omega, rfl⟩
  · go_enter Try.func83, Try.ntmps83
    go_wp2
    go_ret
    exact ⟨by simp [*]; omega, rfl⟩

theorem bytesL_two (n : Nat) : bytesL n 2 = twoL n := by simp [bytesL, twoL]
theorem bytesL_four (n : Nat) : bytesL n 4 = fourL n := by simp [bytesL, fourL]

theorem rfour_own (n : Nat) (w : World) (h : n < 4294967296) :
    Calls Try.prog 81 #[.int .u32 n] w fun e w' => ∃ v, e = .returned v ∧ OwnB w.heap.size 5 w' v (fourL n) ∧ Below w.heap.size w w' := by
  have hc := bytes_own n 4 w (by omega) (by omega)
  rw [bytesL_four] at hc
  generalize fourL n = l at *
  go_enter Try.func81, Try.ntmps81
  go_wp2_with (go_at_call 82; refine hc.mono ?_; rintro e w' ⟨v, rfl, hb⟩)
  go_ret
  exact ⟨_, rfl, hb⟩
theorem rfour_any (n : Nat) (w : World) (h : n < 4294967296) :
    Calls Try.prog 81 #[.int .u32 n] w fun e w' => ∃ v, e = .returned v ∧ MadeB w w' v (fourL n) := by
  refine (rfour_own n w h).mono ?_
  rintro e w' ⟨v, rfl, h1, h2⟩
  exact ⟨v, rfl, h1.made h2⟩

set_option maxHeartbeats 1000000 in
theorem rgetTwo_any (v : Value) (l : List UInt8) (at_ : Int) (w : World) (hI : Bytes w 0 w.heap.size v l) :
    Calls Try.prog 65 #[v, .int .i64 at_] w fun e w' => e = .returned (.tuple #[.int .i64 (getN l at_ 2), .int .i64 (getE l at_ 2)]) ∧ w = w' := by
  have hth := there_any v l at_ 2 w hI (by omega)
  by_cases h : 0 ≤ at_ ∧ at_.toNat + 2 ≤ l.length
  · have hd : decide (0 ≤ at_ ∧ at_.toNat + 2 ≤ l.length) = true := by simpa using h
    rw [hd] at hth
    obtain ⟨k, rfl⟩ := Int.eq_ofNat_of_zero_le h.1
    simp at h
    obtain ⟨a, c, rfl, g1, g2, g3, _⟩ := id hI
    obtain ⟨b, off, rfl, _, hb, _⟩ := g3 (by omega)
    have hnum := number_any _ _ w (hI.cut k 2 (c - k) h (by omega) (by omega)) (by simp; omega)
    have hfin : getN l k 2 = numOf ((l.drop k).take 2) ∧ getE l k 2 = 0 := by simp only [getN, getE, Int.toNat_natCast]; rw [if_pos (by omega), if_pos (by omega)]; exact ⟨rfl, rfl⟩
    rw [hfin.1, hfin.2]
    clear hfin hd g3 hI
    generalize numOf ((l.drop k).take 2) = q at *
    unfold maxLen at g2
    go_enter Try.func65, Try.ntmps65
    go_wp2_with (first | (go_at_call 83; refine hth.mono ?_; rintro e w' ⟨rfl, rfl⟩) | (go_at_call 84; refine hnum.mono ?_; rintro e w' ⟨rfl, rfl⟩))
    go_ret2
    exact ⟨rfl, rfl⟩
  · have hd : decide (0 ≤ at_ ∧ at_.toNat + 2 ≤ l.length) = false := by simpa using h
    rw [hd] at hth
    have hfin : getN l at_ 2 = 0 ∧ getE l at_ 2 = 8 := by simp only [getN, getE]; rw [if_neg h, if_neg h]; exact ⟨rfl, rfl⟩
    rw [hfin.1, hfin.2]
    clear hfin hd hI h
    go_enter Try.func65, Try.ntmps65
    go_wp2_with (go_at_call 83; refine hth.mono ?_; rintro e w' ⟨rfl, rfl⟩)
    go_ret2
    exact ⟨rfl, rfl⟩

set_option maxHeartbeats 1000000 in
theorem rgetFour_any (v : Value) (l : List UInt8) (at_ : Int) (w : World) (hI : Bytes w 0 w.heap.size v l) :
    Calls Try.prog 64 #[v, .int .i64 at_] w fun e w' => e = .returned (.tuple #[.int .u32 (getN l at_ 4), .int .i64 (getE l at_ 4)]) ∧ w = w' := by
  have hth := there_any v l at_ 4 w hI (by omega)
  by_cases h : 0 ≤ at_ ∧ at_.toNat + 4 ≤ l.length
  · have hd : decide (0 ≤ at_ ∧ at_.toNat + 4 ≤ l.length) = true := by simpa using h
    rw [hd] at hth
    obtain ⟨k, rfl⟩ := Int.eq_ofNat_of_zero_le h.1
    simp at h
    obtain ⟨a, c, rfl, g1, g2, g3, _⟩ := id hI
    obtain ⟨b, off, rfl, _, hb, _⟩ := g3 (by omega)
    have hnum := number_any _ _ w (hI.cut k 4 (c - k) h (by omega) (by omega)) (by simp; omega)
    have hlt := getN_lt l k 4
    have hfin : getN l k 4 = numOf ((l.drop k).take 4) ∧ getE l k 4 = 0 := by simp only [getN, getE, Int.toNat_natCast]; rw [if_pos (by omega), if_pos (by omega)]; exact ⟨rfl, rfl⟩
    rw [hfin.1] at hlt
    rw [hfin.1, hfin.2]
    clear hfin hd g3 hI
    generalize numOf ((l.drop k).take 4) = q at *
    simp only [show (256 : Nat) ^ 4 = 4294967296 by decide] at hlt
    unfold maxLen at g2
    go_enter Try.func64, Try.ntmps64
    go_wp2_with (first | (go_at_call 83; refine hth.mono ?_; rintro e w' ⟨rfl, rfl⟩) | (go_at_call 84; refine hnum.mono ?_; rintro e w' ⟨rfl, rfl⟩))
    go_ret2
    exact ⟨rfl, rfl⟩
  · have hd : decide (0 ≤ at_ ∧ at_.toNat + 4 ≤ l.length) = false := by simpa using h
    rw [hd] at hth
    have hfin : getN l at_ 4 = 0 ∧ getE l at_ 4 = 8 := by simp only [getN, getE]; rw [if_neg h, if_neg h]; exact ⟨rfl, rfl⟩
    rw [hfin.1, hfin.2]
    clear hfin hd hI h
    go_enter Try.func64, Try.ntmps64
    go_wp2_with (go_at_call 83; refine hth.mono ?_; rintro e w' ⟨rfl, rfl⟩)
    go_ret2
    exact ⟨rfl, rfl⟩
end Go.Proofs.Ytldidclnfkmonaa
