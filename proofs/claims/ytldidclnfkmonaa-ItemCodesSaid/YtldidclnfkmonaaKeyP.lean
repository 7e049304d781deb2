/- Plain laws on keys and items: their order, their bytes. No program. -/
import Derived.Test.YtldidclnfkmonaaRefI4
namespace Go.Proofs.Ytldidclnfkmonaa
open Go.RowKit

def keyNum (k : KeyL) : Nat := k.kind.toNat * 18446744073709551616 + k.id.toNat * 4294967296 + k.off.toNat
theorem keyNum_inj {a b : KeyL} (h : keyNum a = keyNum b) : a = b := by
  obtain ⟨k1, i1, o1⟩ := a
  obtain ⟨k2, i2, o2⟩ := b
  have h1 := i1.toNat_lt
  have h2 := i2.toNat_lt
  have h3 := o1.toNat_lt
  have h4 := o2.toNat_lt
  simp only [keyNum] at h
  have e1 : k1 = k2 := UInt8.toNat_inj.1 (by omega)
  have e2 : i1 = i2 := UInt32.toNat_inj.1 (by omega)
  have e3 : o1 = o2 := UInt32.toNat_inj.1 (by omega)
  rw [e1, e2, e3]
theorem lessK_num (a b : KeyL) : lessK a b = decide (keyNum a < keyNum b) := by
  obtain ⟨k1, i1, o1⟩ := a
  obtain ⟨k2, i2, o2⟩ := b
  have h1 := i1.toNat_lt
  have h2 := i2.toNat_lt
  have h3 := o1.toNat_lt
  have h4 := o2.toNat_lt
  unfold lessK
  simp only [keyNum, ← UInt8.toNat_inj, ← UInt32.toNat_inj]
  split
  · split
    · congr 1; apply propext; omega
    · congr 1; apply propext; omega
  · congr 1; apply propext; omega
theorem lessK_self (a : KeyL) : lessK a a = false := by rw [lessK_num]; simp
theorem lessK_ne {a b : KeyL} (h : a ≠ b) : (lessK a b = true ∧ lessK b a = false) ∨ (lessK a b = false ∧ lessK b a = true) := by
  rw [lessK_num, lessK_num]
  have : keyNum a ≠ keyNum b := fun e => h (keyNum_inj e)
  simp only [decide_eq_true_eq, decide_eq_false_iff_not]
  omega
theorem lessK_trans {a b c : KeyL} (h : lessK a b = true) (k : lessK b c = true) : lessK a c = true := by
  rw [lessK_num] at *
  simp only [decide_eq_true_eq] at *
  omega
theorem lessK_asymm {a b : KeyL} (h : lessK a b = true) : lessK b a = false := by
  rw [lessK_num] at *
  simp only [decide_eq_true_eq, decide_eq_false_iff_not] at *
  omega
end Go.Proofs.Ytldidclnfkmonaa
