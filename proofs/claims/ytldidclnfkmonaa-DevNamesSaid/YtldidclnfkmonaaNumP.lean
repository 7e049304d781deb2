/- Plain laws on numbers and their bytes. No program. -/
import Derived.Test.YtldidclnfkmonaaRefN
import Derived.Test.YtldidclnfkmonaaDat
namespace Go.Proofs.Ytldidclnfkmonaa
open Go.RowKit
theorem numOf_fourL (n : Nat) (h : n < 4294967296) : numOf (fourL n) = n := by
  simp [numOf, fourL, UInt8.toNat_ofNat']
  omega
theorem numOf_twoL (n : Nat) (h : n < 65536) : numOf (twoL n) = n := by
  simp [numOf, twoL, UInt8.toNat_ofNat']
  omega
theorem get_mid (a b c : List UInt8) : getN (a ++ b ++ c) (a.length : Int) b.length = numOf b ∧ getE (a ++ b ++ c) (a.length : Int) b.length = 0 := by
  have h : 0 ≤ (a.length : Int) ∧ (a.length : Int).toNat + b.length ≤ (a ++ b ++ c).length := by simp
  unfold getN getE
  rw [if_pos h, if_pos h]
  exact ⟨by simp, rfl⟩
theorem two_of (l : List UInt8) (k : Nat) (h : k + 2 ≤ l.length) : twoL (numOf ((l.drop k).take 2)) = (l.drop k).take 2 := by
  have hk : (l.drop k).length = l.length - k := by simp
  match (l.drop k), hk with
  | a :: b :: r, _ =>
    have ha := a.toNat_lt
    have hb := b.toNat_lt
    simp only [List.take_succ_cons, List.take_zero, numOf, twoL, List.cons.injEq, and_true]
    refine ⟨?_, ?_⟩ <;> (apply UInt8.toNat_inj.1; simp only [UInt8.toNat_ofNat']; omega)
  | [], hk => simp at hk; omega
  | [a], hk => simp at hk; omega
theorem four_of (l : List UInt8) (k : Nat) (h : k + 4 ≤ l.length) : fourL (numOf ((l.drop k).take 4)) = (l.drop k).take 4 := by
  have hk : (l.drop k).length = l.length - k := by simp
  match (l.drop k), hk with
  | a :: b :: c :: d :: r, _ =>
    have ha := a.toNat_lt
    have hb := b.toNat_lt
    have hc := c.toNat_lt
    have hd := d.toNat_lt
    simp only [List.take_succ_cons, List.take_zero, numOf, fourL, List.cons.injEq, and_true]
    refine ⟨?_, ?_, ?_, ?_⟩ <;> (apply UInt8.toNat_inj.1; simp only [UInt8.toNat_ofNat']; omega)
  | [], hk => simp at hk; omega
  | [a], hk => simp at hk; omega
  | [a, b], hk => simp at hk; omega
  | [a, b, c], hk => simp at hk; omega
theorem get_yes' (l : List UInt8) (k many : Nat) (h : k + many ≤ l.length) : getN l (k : Int) many = numOf ((l.drop k).take many) ∧ getE l (k : Int) many = 0 := by
  have h' : 0 ≤ (k : Int) ∧ (k : Int).toNat + many ≤ l.length := by omega
  unfold getN getE
  rw [if_pos h', if_pos h']
  simp
theorem get_no' (l : List UInt8) (at_ : Int) (many : Nat) (h : at_ < 0 ∨ (0 ≤ at_ ∧ (l.length : Int) - many < at_)) : getN l at_ many = 0 ∧ getE l at_ many = 8 := by
  have h' : ¬ (0 ≤ at_ ∧ at_.toNat + many ≤ l.length) := by omega
  unfold getN getE
  rw [if_neg h', if_neg h']
  exact ⟨rfl, rfl⟩
theorem numOf_inj : ∀ (l m : List UInt8), l.length = m.length → numOf l = numOf m → l = m
  | [], [], _, _ => rfl
  | x :: l, y :: m, hl, h => by
    have hx := x.toNat_lt
    have hy := y.toNat_lt
    simp only [numOf] at h
    have h1 : x.toNat = y.toNat := by omega
    have h2 : numOf l = numOf m := by omega
    rw [UInt8.toNat_inj.1 h1, numOf_inj l m (by simpa using hl) h2]
  | [], _ :: _, h, _ => by simp at h
  | _ :: _, [], h, _ => by simp at h
theorem getN_zero (l : List UInt8) (h : 4 ≤ l.length) : getN l 0 4 = numOf (l.take 4) := by
  have := (get_yes' l 0 4 (by omega)).1
  simpa using this
theorem xor_u8 (a b : UInt8) : bits .xor .u8 (a.toNat : Int) (b.toNat : Int) = ((a ^^^ b).toNat : Int) := by
  simp only [bits, IntKind.bits]
  rw [BitVec.ofInt_natCast, BitVec.ofInt_natCast]
  have ha := a.toNat_lt
  have hb := b.toNat_lt
  have hx : a.toNat ^^^ b.toNat < 2 ^ 8 := Nat.xor_lt_two_pow ha hb
  rw [IntKind.wrap_u8]
  have e : ((BitVec.ofNat 8 a.toNat ^^^ BitVec.ofNat 8 b.toNat).toNat) = (a ^^^ b).toNat := by
    rw [BitVec.toNat_xor, BitVec.toNat_ofNat, BitVec.toNat_ofNat, UInt8.toNat_xor, Nat.mod_eq_of_lt ha, Nat.mod_eq_of_lt hb]
  have h2 := (a ^^^ b).toNat_lt
  show (((BitVec.ofNat 8 a.toNat ^^^ BitVec.ofNat 8 b.toNat).toNat : Nat) : Int) % 256 = _
  rw [e]
  omega
/-- A list that is filled from the front. -/
def filled (l : List UInt8) (k : Nat) : List UInt8 := l.take k ++ List.replicate (l.length - k) 0
theorem filled_zero (l : List UInt8) : filled l 0 = List.replicate l.length 0 := by simp [filled]
theorem filled_all (l : List UInt8) : filled l l.length = l := by simp [filled]
theorem filled_length (l : List UInt8) (k : Nat) (h : k ≤ l.length) : (filled l k).length = l.length := by simp [filled]; omega
theorem filled_at (l : List UInt8) (k : Nat) (h : k < l.length) : (filled l k)[k]? = some 0 := by
  simp only [filled]
  have h2 : k - (l.take k).length < l.length - k := by simp; omega
  rw [List.getElem?_append_right (by simp; omega), List.getElem?_replicate, if_pos h2]
theorem filled_set (l : List UInt8) (k : Nat) (x : UInt8) (h : l[k]? = some x) : (filled l k).set k x = filled l (k + 1) := by
  have hk : k < l.length := (List.getElem?_eq_some_iff.1 h).1
  have hx : l[k] = x := (List.getElem?_eq_some_iff.1 h).2
  have hlen : (l.take k).length = k := by simp; omega
  simp only [filled]
  rw [List.set_append_right _ _ (by omega), hlen, Nat.sub_self, List.take_succ_eq_append_getElem hk, hx]
  obtain ⟨j, hj⟩ : ∃ j, l.length - k = j + 1 := ⟨l.length - k - 1, by omega⟩
  rw [hj, List.replicate_succ, List.set_cons_zero, show l.length - (k + 1) = j by omega]
  simp

end Go.Proofs.Ytldidclnfkmonaa
