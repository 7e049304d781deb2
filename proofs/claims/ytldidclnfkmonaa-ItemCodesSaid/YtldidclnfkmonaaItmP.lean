/- Plain laws on items and their bytes. No program. -/
import Derived.Test.YtldidclnfkmonaaKeyP
namespace Go.Proofs.Ytldidclnfkmonaa
open Go.RowKit

theorem u32_of_toNat (x : UInt32) : UInt32.ofNat x.toNat = x := by simp
theorem twelve (b : List UInt8) (h : 12 ≤ b.length) : ∃ x0 x1 x2 x3 x4 x5 x6 x7 x8 x9 x10 x11 r, b = x0 :: x1 :: x2 :: x3 :: x4 :: x5 :: x6 :: x7 :: x8 :: x9 :: x10 :: x11 :: r := by
  match b, h with
  | x0 :: x1 :: x2 :: x3 :: x4 :: x5 :: x6 :: x7 :: x8 :: x9 :: x10 :: x11 :: r, _ => exact ⟨x0, x1, x2, x3, x4, x5, x6, x7, x8, x9, x10, x11, r, rfl⟩
/-- The bytes of an item, whatever is behind, are read as that item. -/
theorem raw_item (x : ItemL) (h : mayI x = true) (bh : List UInt8) : lenOk (itemB x ++ bh) = true ∧ rawI (itemB x ++ bh) = x ∧ ((itemB x ++ bh).getD 11 0).toNat = x.val.length := by
  obtain ⟨h0, h1, h2⟩ := may_ref h
  obtain ⟨⟨k, i, o⟩, r, l⟩ := x
  obtain ⟨r, rfl⟩ := Int.eq_ofNat_of_zero_le h0
  simp only at h1 h2
  have hn : (UInt8.ofNat l.length).toNat = l.length := by rw [UInt8.toNat_ofNat']; omega
  have hb : itemB ⟨⟨k, i, o⟩, (r : Int), l⟩ ++ bh = k :: (fourL i.toNat ++ (fourL o.toNat ++ (twoL r ++ (UInt8.ofNat l.length :: (l ++ bh))))) := by
    simp [itemB]
  have h11 : (itemB ⟨⟨k, i, o⟩, (r : Int), l⟩ ++ bh).getD 11 0 = UInt8.ofNat l.length := by rw [hb]; simp [fourL, twoL]
  have hl : (itemB ⟨⟨k, i, o⟩, (r : Int), l⟩ ++ bh).length = 12 + l.length + bh.length := by rw [List.length_append, itemB_length]
  have g1 := (get_yes' (itemB ⟨⟨k, i, o⟩, (r : Int), l⟩ ++ bh) 1 4 (by omega)).1
  have g5 := (get_yes' (itemB ⟨⟨k, i, o⟩, (r : Int), l⟩ ++ bh) 5 4 (by omega)).1
  have g9 := (get_yes' (itemB ⟨⟨k, i, o⟩, (r : Int), l⟩ ++ bh) 9 2 (by omega)).1
  have e1 : ((itemB ⟨⟨k, i, o⟩, (r : Int), l⟩ ++ bh).drop 1).take 4 = fourL i.toNat := by rw [hb]; simp [fourL]
  have e5 : ((itemB ⟨⟨k, i, o⟩, (r : Int), l⟩ ++ bh).drop 5).take 4 = fourL o.toNat := by rw [hb]; simp [fourL]
  have e9 : ((itemB ⟨⟨k, i, o⟩, (r : Int), l⟩ ++ bh).drop 9).take 2 = twoL r := by rw [hb]; simp [fourL, twoL]
  have e12 : (itemB ⟨⟨k, i, o⟩, (r : Int), l⟩ ++ bh).drop 12 = l ++ bh := by rw [hb]; simp [fourL, twoL]
  have e0 : (itemB ⟨⟨k, i, o⟩, (r : Int), l⟩ ++ bh).getD 0 0 = k := by rw [hb]; simp
  have hi := i.toNat_lt
  have ho := o.toNat_lt
  rw [e1, numOf_fourL _ (by omega)] at g1
  rw [e5, numOf_fourL _ (by omega)] at g5
  rw [e9, numOf_twoL _ (by omega)] at g9
  refine ⟨?_, ?_, ?_⟩
  · unfold lenOk
    rw [h11, hn, hl]
    simp only [decide_eq_true_eq]
    omega
  · unfold rawI
    simp only [Int.cast_ofNat_Int] at g1 g5 g9
    rw [e0, g1, g5, g9, h11, hn, e12, u32_of_toNat, u32_of_toNat, List.take_left]
  · rw [h11, hn]
theorem read_item (x : ItemL) (h : mayI x = true) (bh : List UInt8) : readOk (itemB x ++ bh) = true ∧ readI (itemB x ++ bh) = x ∧ readN (itemB x ++ bh) = (itemB x).length := by
  obtain ⟨h1, h2, h3⟩ := raw_item x h bh
  have h4 : readOk (itemB x ++ bh) = true := by unfold readOk; rw [h1, h2, h]; rfl
  exact ⟨h4, by unfold readI; rw [if_pos h4, h2], by unfold readN; rw [if_pos h4, h3, itemB_length]⟩
/-- What is read has just these bytes. -/
theorem item_read (b : List UInt8) (h : readOk b = true) : mayI (readI b) = true ∧ itemB (readI b) = b.take (readN b) ∧ readN b ≤ b.length := by
  have h' := h
  unfold readOk at h'
  simp only [Bool.and_eq_true] at h'
  obtain ⟨h1, h2⟩ := h'
  have e1 : readI b = rawI b := by unfold readI; rw [if_pos h]
  have e2 : readN b = 12 + (b.getD 11 0).toNat := by unfold readN; rw [if_pos h]
  have h3 := h1
  unfold lenOk at h3
  simp only [decide_eq_true_eq] at h3
  obtain ⟨h4, h5⟩ := h3
  rw [e1, e2]
  refine ⟨h2, ?_, h5⟩
  have n1 := getN_lt b 1 4
  have n5 := getN_lt b 5 4
  have g1 := (get_yes' b 1 4 (by omega)).1
  have g5 := (get_yes' b 5 4 (by omega)).1
  have g9 := (get_yes' b 9 2 (by omega)).1
  have f1 := four_of b 1 (by omega)
  have f5 := four_of b 5 (by omega)
  have f9 := two_of b 9 (by omega)
  simp only [Int.cast_ofNat_Int] at g1 g5 g9
  rw [← g1] at f1
  rw [← g5] at f5
  rw [← g9] at f9
  have hv : ((b.drop 12).take (b.getD 11 0).toNat).length = (b.getD 11 0).toNat := by rw [List.length_take, List.length_drop]; omega
  have hi : (UInt32.ofNat (getN b 1 4)).toNat = getN b 1 4 := by rw [UInt32.toNat_ofNat']; omega
  have ho : (UInt32.ofNat (getN b 5 4)).toNat = getN b 5 4 := by rw [UInt32.toNat_ofNat']; omega
  unfold itemB rawI
  simp only
  rw [hi, ho, hv, Int.toNat_natCast, f1, f5, f9, List.take_add]
  congr 1
  obtain ⟨x0, x1, x2, x3, x4, x5, x6, x7, x8, x9, x10, x11, r, rfl⟩ := twelve b h4
  simp
theorem itemB_inj (x y : ItemL) (hx : mayI x = true) (hy : mayI y = true) (h : itemB x = itemB y) : x = y := by
  have h1 := (raw_item x hx []).2.1
  have h2 := (raw_item y hy []).2.1
  rw [h] at h1
  exact h1.symm.trans h2
theorem itemB_beq (x y : ItemL) (hx : mayI x = true) (hy : mayI y = true) : (itemB x == itemB y) = decide (x = y) := by
  rw [Bool.eq_iff_iff]
  simp only [beq_iff_eq, decide_eq_true_eq]
  exact ⟨itemB_inj x y hx hy, fun h => by rw [h]⟩
theorem itemB_pre (x y : ItemL) (hx : mayI x = true) (hy : mayI y = true) (hne : (itemB x).length ≠ (itemB y).length) (n : Nat) (hn : 12 ≤ n) : (itemB x).take n ≠ (itemB y).take n := by
  intro h
  have h1 := (raw_item x hx []).2.2
  have h2 := (raw_item y hy []).2.2
  rw [List.append_nil] at h1 h2
  have lx := itemB_length x
  have ly := itemB_length y
  have e : ∀ l : List UInt8, 12 ≤ l.length → (l.take n).getD 11 0 = l.getD 11 0 := fun l hl => by
    simp only [List.getD]
    rw [List.getElem?_take, if_pos (by omega)]
  have e1 := e (itemB x) (by omega)
  have e2 := e (itemB y) (by omega)
  rw [h] at e1
  have : x.val.length = y.val.length := by rw [← h1, ← h2, ← e1, ← e2]
  omega
end Go.Proofs.Ytldidclnfkmonaa
