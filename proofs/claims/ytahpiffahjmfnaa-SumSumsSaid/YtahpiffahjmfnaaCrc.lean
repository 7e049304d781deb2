/- The sum of bytes as the chapter has it, over BitVec 32: plain Lean, no program. -/
import Derived.Test.YtahpiffahjmfnaaMem
namespace Go.Proofs.Ytahpiffahjmfnaa

def half (s : BitVec 32) : BitVec 32 := (s >>> 1) ^^^ (if s.getLsbD 0 then 0xedb88320#32 else 0#32)
def halves : Nat → BitVec 32 → BitVec 32
  | 0, s => s
  | n + 1, s => half (halves n s)
theorem halves_add (s : BitVec 32) (n : Nat) : ∀ m, halves (n + m) s = halves m (halves n s)
  | 0 => rfl
  | m + 1 => by rw [← Nat.add_assoc, halves, halves_add s n m, halves]

/-! ### by exclusive or -/
theorem half_xor (a b : BitVec 32) : half (a ^^^ b) = half a ^^^ half b := by
  unfold half
  rw [BitVec.ushiftRight_xor_distrib, BitVec.getLsbD_xor]
  cases ha : a.getLsbD 0 <;> cases hb : b.getLsbD 0
  · simp
  · simp [BitVec.xor_assoc]
  · simp only [Bool.xor_false, if_true, if_false, Bool.false_eq_true, BitVec.xor_zero]
    ac_rfl
  · simp only [Bool.xor_true, Bool.not_true, if_true, if_false, Bool.false_eq_true, BitVec.xor_zero]
    have e : (a >>> 1 ^^^ 3988292384#32) ^^^ (b >>> 1 ^^^ 3988292384#32) = a >>> 1 ^^^ b >>> 1 ^^^ (3988292384#32 ^^^ 3988292384#32) := by ac_rfl
    rw [e]; simp
theorem halves_xor (a b : BitVec 32) : ∀ n, halves n (a ^^^ b) = halves n a ^^^ halves n b
  | 0 => rfl
  | n + 1 => by rw [halves, halves_xor a b n, half_xor]; rfl
theorem halves_zero : ∀ n, halves n 0#32 = 0#32
  | 0 => rfl
  | n + 1 => by rw [halves, halves_zero n]; rfl

theorem half_top (s : BitVec 32) : (half s).getLsbD 31 = s.getLsbD 0 := by
  unfold half
  rw [BitVec.getLsbD_xor, BitVec.getLsbD_ushiftRight]
  cases h : s.getLsbD 0 <;> simp [BitVec.getLsbD_of_ge]
theorem half_eq_zero {s : BitVec 32} (h : half s = 0#32) : s = 0#32 := by
  have h0 : s.getLsbD 0 = false := by rw [← half_top, h]; rfl
  have h1 : s >>> 1 = 0#32 := by
    unfold half at h
    rw [h0] at h
    simpa using h
  apply BitVec.eq_of_getLsbD_eq
  intro i hi
  cases i with
  | zero => rw [h0]; rfl
  | succ i =>
    have := congrArg (fun x => x.getLsbD i) h1
    simp only [BitVec.getLsbD_ushiftRight] at this
    rw [Nat.add_comm]
    simpa using this
theorem halves_eq_zero {s : BitVec 32} : ∀ n, halves n s = 0#32 → s = 0#32
  | 0, h => h
  | n + 1, h => halves_eq_zero n (half_eq_zero h)
theorem halves_inj {a b : BitVec 32} {n : Nat} (h : halves n a = halves n b) : a = b := by
  have h1 : halves n (a ^^^ b) = 0#32 := by rw [halves_xor, h]; simp
  have h2 := halves_eq_zero n h1
  have h3 : a ^^^ b ^^^ b = b := by rw [h2]; simp
  rwa [BitVec.xor_assoc, BitVec.xor_self, BitVec.xor_zero] at h3

/-- What is even is only moved. -/
theorem halves_even (s : BitVec 32) : ∀ n, (∀ i, i < n → s.getLsbD i = false) → halves n s = s >>> n
  | 0, _ => by simp [halves]
  | n + 1, h => by
    rw [halves, halves_even s n (fun i hi => h i (by omega)), half]
    have h0 : (s >>> n).getLsbD 0 = false := by rw [BitVec.getLsbD_ushiftRight]; simpa using h n (by omega)
    rw [h0]
    simp [BitVec.shiftRight_add]
/-- A table of four bits serves. -/
theorem halves_four (s : BitVec 32) : halves 4 s = (s >>> 4) ^^^ halves 4 (s &&& 15#32) := by
  have e : s = (s &&& 0xfffffff0#32) ^^^ (s &&& 15#32) := by
    apply BitVec.eq_of_getLsbD_eq
    intro i hi
    rw [BitVec.getLsbD_xor, BitVec.getLsbD_and, BitVec.getLsbD_and]
    have hk : ∀ k : Fin 32, ((0xfffffff0#32).getLsbD k.val ^^ (15#32).getLsbD k.val) = true := by decide
    have := hk ⟨i, hi⟩
    cases h1 : (0xfffffff0#32).getLsbD i <;> cases h2 : (15#32).getLsbD i <;> simp_all
  have h1 : halves 4 (s &&& 0xfffffff0#32) = (s &&& 0xfffffff0#32) >>> 4 := by
    apply halves_even
    intro i hi
    rw [BitVec.getLsbD_and]
    have : (0xfffffff0#32).getLsbD i = false := by
      match i, hi with
      | 0, _ => decide
      | 1, _ => decide
      | 2, _ => decide
      | 3, _ => decide
    rw [this]; simp
  have h2 : (s &&& 0xfffffff0#32) >>> 4 = s >>> 4 := by
    apply BitVec.eq_of_getLsbD_eq
    intro i hi
    rw [BitVec.getLsbD_ushiftRight, BitVec.getLsbD_ushiftRight, BitVec.getLsbD_and]
    by_cases h : 4 + i < 32
    · have : (0xfffffff0#32).getLsbD (4 + i) = true := by
        have hk : ∀ k : Fin 28, (0xfffffff0#32).getLsbD (4 + k.val) = true := by decide
        exact hk ⟨i, by omega⟩
      rw [this]; simp
    · rw [BitVec.getLsbD_of_ge s (4 + i) (by omega)]; simp
  conv => lhs; rw [e, halves_xor, h1, h2]

/-! ### bytes -/
def b32 (x : UInt8) : BitVec 32 := BitVec.ofNat 32 x.toNat
def stepB (s : BitVec 32) (x : UInt8) : BitVec 32 := halves 8 (s ^^^ b32 x)
def crcS (s : BitVec 32) (l : List UInt8) : BitVec 32 := l.foldl stepB s
def crc (l : List UInt8) : BitVec 32 := ~~~ (crcS (BitVec.allOnes 32) l)
theorem crcS_nil (s : BitVec 32) : crcS s [] = s := rfl
theorem crcS_cons (s : BitVec 32) (x : UInt8) (l : List UInt8) : crcS s (x :: l) = crcS (stepB s x) l := rfl
theorem crcS_append (s : BitVec 32) (a b : List UInt8) : crcS s (a ++ b) = crcS (crcS s a) b := by simp [crcS]
theorem stepB_four (s : BitVec 32) (x : UInt8) : stepB s x = halves 4 (halves 4 (s ^^^ b32 x)) := halves_add _ 4 4
theorem b32_xor (a b : UInt8) : b32 (a ^^^ b) = b32 a ^^^ b32 b := by
  apply BitVec.eq_of_toNat_eq
  have ha := a.toNat_lt
  have hb := b.toNat_lt
  simp only [b32, BitVec.toNat_ofNat, BitVec.toNat_xor, UInt8.toNat_xor]
  have hx : a.toNat ^^^ b.toNat < 2 ^ 8 := Nat.xor_lt_two_pow ha hb
  rw [Nat.mod_eq_of_lt (by omega), Nat.mod_eq_of_lt (by omega), Nat.mod_eq_of_lt (by omega)]

/-- Three texts of one length. -/
def xor3 : List UInt8 → List UInt8 → List UInt8 → List UInt8
  | a :: l, b :: m, c :: n => (a ^^^ b ^^^ c) :: xor3 l m n
  | _, _, _ => []
theorem crcS_xor3 : ∀ (l m n : List UInt8) (s t u : BitVec 32), l.length = m.length → l.length = n.length →
    crcS (s ^^^ t ^^^ u) (xor3 l m n) = crcS s l ^^^ crcS t m ^^^ crcS u n
  | [], [], [], s, t, u, _, _ => rfl
  | a :: l, b :: m, c :: n, s, t, u, h1, h2 => by
    simp only [xor3, crcS_cons]
    have e : stepB (s ^^^ t ^^^ u) (a ^^^ b ^^^ c) = stepB s a ^^^ stepB t b ^^^ stepB u c := by
      unfold stepB
      rw [b32_xor, b32_xor, ← halves_xor, ← halves_xor]
      congr 1
      ac_rfl
    rw [e]
    exact crcS_xor3 l m n _ _ _ (by simpa using h1) (by simpa using h2)
  | [], _ :: _, _, _, _, _, h, _ => by simp at h
  | _ :: _, [], _, _, _, _, h, _ => by simp at h
  | [], [], _ :: _, _, _, _, _, h => by simp at h
  | _ :: _, _ :: _, [], _, _, _, _, h => by simp at h
theorem crc_xor3 (l m n : List UInt8) (h1 : l.length = m.length) (h2 : l.length = n.length) : crc (xor3 l m n) = crc l ^^^ crc m ^^^ crc n := by
  unfold crc
  have := crcS_xor3 l m n (BitVec.allOnes 32) (BitVec.allOnes 32) (BitVec.allOnes 32) h1 h2
  rw [show (BitVec.allOnes 32 ^^^ BitVec.allOnes 32 ^^^ BitVec.allOnes 32) = BitVec.allOnes 32 by decide] at this
  rw [this]
  simp only [← BitVec.xor_allOnes]
  have e : ∀ x y z o : BitVec 32, (x ^^^ o) ^^^ (y ^^^ o) ^^^ (z ^^^ o) = x ^^^ y ^^^ z ^^^ o := by
    intro x y z o
    have : (x ^^^ o) ^^^ (y ^^^ o) ^^^ (z ^^^ o) = x ^^^ y ^^^ z ^^^ o ^^^ (o ^^^ o) := by ac_rfl
    rw [this]; simp
  rw [e]

/-! ### a difference stays -/
theorem crcS_inj (l : List UInt8) : ∀ s t : BitVec 32, crcS s l = crcS t l → s = t := by
  induction l with
  | nil => exact fun s t h => h
  | cons x l ih =>
    intro s t h
    have h1 := halves_inj (ih _ _ h)
    have h2 : s ^^^ b32 x ^^^ b32 x = t ^^^ b32 x ^^^ b32 x := by rw [h1]
    simpa [BitVec.xor_assoc] using h2

/-- Some bytes as bits, the lowest first. -/
def leB : List UInt8 → BitVec 32
  | [] => 0#32
  | x :: w => b32 x ^^^ (leB w <<< 8)
theorem b32_bit (x : UInt8) (i : Nat) : (b32 x).getLsbD i = (decide (i < 32) && x.toNat.testBit i) := by simp [b32, BitVec.getLsbD_ofNat]
theorem u8_bit (x : UInt8) (i : Nat) (h : 8 ≤ i) : x.toNat.testBit i = false := by
  apply Nat.testBit_lt_two_pow
  exact Nat.lt_of_lt_of_le x.toNat_lt (Nat.pow_le_pow_right (by decide) h)
theorem leB_high : ∀ (w : List UInt8) (i : Nat), 8 * w.length ≤ i → (leB w).getLsbD i = false
  | [], i, _ => by simp [leB]
  | x :: w, i, h => by
    simp only [List.length_cons] at h
    rw [leB, BitVec.getLsbD_xor, b32_bit, u8_bit x i (by omega), BitVec.getLsbD_shiftLeft, leB_high w (i - 8) (by omega)]
    simp
theorem leB_inj : ∀ (w v : List UInt8), w.length = v.length → w.length ≤ 4 → leB w = leB v → w = v
  | [], [], _, _, _ => rfl
  | x :: w, y :: v, hl, h4, h => by
    simp only [List.length_cons] at hl h4
    have hb : ∀ i, (leB (x :: w)).getLsbD i = (leB (y :: v)).getLsbD i := fun i => by rw [h]
    have hxy : x = y := by
      apply UInt8.toNat_inj.1
      apply Nat.eq_of_testBit_eq
      intro i
      by_cases hi : i < 8
      · have := hb i
        simp only [leB, BitVec.getLsbD_xor, b32_bit, BitVec.getLsbD_shiftLeft, hi] at this
        simpa [show i < 32 by omega] using this
      · rw [u8_bit x i (by omega), u8_bit y i (by omega)]
    have hwv : leB w = leB v := by
      apply BitVec.eq_of_getLsbD_eq
      intro i hi
      by_cases hi2 : i < 24
      · have := hb (i + 8)
        simp only [leB, BitVec.getLsbD_xor, b32_bit, u8_bit _ (i + 8) (Nat.le_add_left _ _), BitVec.getLsbD_shiftLeft] at this
        simpa [show i + 8 < 32 by omega, show ¬ (i + 8 < 8) by omega] using this
      · rw [leB_high w i (by omega), leB_high v i (by omega)]
    rw [hxy, leB_inj w v (by omega) (by omega) hwv]
  | [], _ :: _, h, _, _ => by simp at h
  | _ :: _, [], h, _, _ => by simp at h
theorem crcS_le : ∀ (w : List UInt8) (s : BitVec 32), w.length ≤ 4 → crcS s w = halves (8 * w.length) (s ^^^ leB w)
  | [], s, _ => by simp [crcS_nil, leB, halves]
  | x :: w, s, h => by
    simp only [List.length_cons] at h
    rw [crcS_cons, crcS_le w _ (by omega), stepB, leB, List.length_cons, show 8 * (w.length + 1) = 8 + 8 * w.length by omega, halves_add]
    congr 1
    have e : halves 8 (leB w <<< 8) = leB w := by
      rw [halves_even _ 8 (fun i hi => by simp [hi])]
      apply BitVec.eq_of_getLsbD_eq
      intro i hi
      rw [BitVec.getLsbD_ushiftRight, BitVec.getLsbD_shiftLeft]
      by_cases hi2 : i < 24
      · simp [show 8 + i < 32 by omega]
      · rw [leB_high w i (by omega)]
        simp
        intro h; omega
    rw [← BitVec.xor_assoc, halves_xor _ (leB w <<< 8), e]
theorem crc_window (p w v r : List UInt8) (hl : w.length = v.length) (h4 : w.length ≤ 4) (hne : w ≠ v) : crc (p ++ w ++ r) ≠ crc (p ++ v ++ r) := by
  intro h
  unfold crc at h
  have h1 := congrArg (fun x => ~~~ x) h
  simp only [BitVec.not_not] at h1
  rw [crcS_append, crcS_append, crcS_append _ (p ++ v), crcS_append _ p v] at h1
  have h2 := crcS_inj r _ _ h1
  rw [crcS_le w _ h4, crcS_le v _ (by omega), hl] at h2
  have h3 := halves_inj h2
  have h5 : leB w = leB v := by
    have := congrArg (fun x => crcS (BitVec.allOnes 32) p ^^^ x) h3
    simpa [← BitVec.xor_assoc] using this
  exact hne (leB_inj w v hl h4 h5)

/-! ### the model's numbers -/
open Go in
theorem xor_u32 (a b : BitVec 32) : bits .xor .u32 (a.toNat : Int) (b.toNat : Int) = ((a ^^^ b).toNat : Int) := by
  simp only [bits, IntKind.bits]
  rw [BitVec.ofInt_natCast, BitVec.ofInt_natCast, BitVec.ofNat_toNat, BitVec.ofNat_toNat]
  simp only [BitVec.setWidth_eq]
  rw [IntKind.wrap_u32]
  have := (a ^^^ b).isLt
  show ((a ^^^ b).toNat : Int) % 4294967296 = _
  omega
open Go in
theorem and_u32 (a b : BitVec 32) : bits .and .u32 (a.toNat : Int) (b.toNat : Int) = ((a &&& b).toNat : Int) := by
  simp only [bits, IntKind.bits]
  rw [BitVec.ofInt_natCast, BitVec.ofInt_natCast, BitVec.ofNat_toNat, BitVec.ofNat_toNat]
  simp only [BitVec.setWidth_eq]
  rw [IntKind.wrap_u32]
  have := (a &&& b).isLt
  show ((a &&& b).toNat : Int) % 4294967296 = _
  omega
theorem b32_nat (x : UInt8) : (b32 x).toNat = x.toNat := by
  have := x.toNat_lt
  simp only [b32, BitVec.toNat_ofNat]
  omega
theorem shr_nat (a : BitVec 32) (n : Nat) : (a >>> n).toNat = a.toNat / 2 ^ n := by rw [BitVec.toNat_ushiftRight, Nat.shiftRight_eq_div_pow]
theorem not_nat (a : BitVec 32) : ((~~~ a).toNat : Int) = 4294967295 - (a.toNat : Int) := by
  have := a.isLt
  rw [BitVec.toNat_not]
  omega
end Go.Proofs.Ytahpiffahjmfnaa
