/- The plain laws of counts. -/
import Derived.Test.YtfdogefoodljaaaCnt
namespace Go.Proofs.Ytfdogefoodljaaa

theorem u8_inj {x y : UInt8} (h : x.toNat = y.toNat) : x = y := UInt8.toNat_inj.1 h
theorem u8_up {x : UInt8} (h : x ≠ 255) : (x + 1).toNat = x.toNat + 1 := by
  have h1 : x.toNat ≠ 255 := fun e => h (u8_inj e)
  have h2 := UInt8.toNat_lt x
  rw [UInt8.toNat_add, show (1 : UInt8).toNat = 1 from rfl]
  omega
theorem u8_down {x : UInt8} (h : x ≠ 0) : (x + 255).toNat = x.toNat - 1 := by
  have h1 : x.toNat ≠ 0 := fun e => h (u8_inj e)
  have h2 := UInt8.toNat_lt x
  rw [UInt8.toNat_add, show (255 : UInt8).toNat = 255 from rfl]
  omega
theorem u8_up0 {x : UInt8} (h : x ≠ 255) : x + 1 ≠ 0 := fun e => by
  have := u8_up h
  rw [e, show (0 : UInt8).toNat = 0 from rfl] at this
  omega
theorem u8_down0 {x : UInt8} (h : x ≠ 0) : x + 255 ≠ 255 := fun e => by
  have := u8_down h
  have h2 := UInt8.toNat_lt x
  rw [e, show (255 : UInt8).toNat = 255 from rfl] at this
  omega
theorem u8_both (x : UInt8) : x + 1 + 255 = x := by
  apply u8_inj
  have h2 := UInt8.toNat_lt x
  rw [UInt8.toNat_add, UInt8.toNat_add, show (1 : UInt8).toNat = 1 from rfl, show (255 : UInt8).toNat = 255 from rfl]
  omega
theorem u8_both' (x : UInt8) : x + 255 + 1 = x := by
  apply u8_inj
  have h2 := UInt8.toNat_lt x
  rw [UInt8.toNat_add, UInt8.toNat_add, show (1 : UInt8).toNat = 1 from rfl, show (255 : UInt8).toNat = 255 from rfl]
  omega

theorem errT_zero {l : List UInt8} {p : Int} {e : UInt8} : errT l p e = 0 ↔ mayT l = true ∧ 8 ≤ p ∧ p < 256 ∧ l.getD p.toNat 0 ≠ e := by
  unfold errT
  split
  · rename_i h
    split
    · rename_i h1
      constructor
      · intro h2; cases h2
      · rintro ⟨_, h2, h3, _⟩; omega
    · rename_i h1
      split
      · rename_i h2
        constructor
        · intro h3; cases h3
        · rintro ⟨_, _, _, h3⟩; exact absurd h2 h3
      · rename_i h2
        exact ⟨fun _ => ⟨h, by omega, by omega, h2⟩, fun _ => rfl⟩
  · rename_i h
    constructor
    · intro h2; cases h2
    · rintro ⟨h2, _⟩; exact absurd h2 h

theorem getD_set_self (l : List UInt8) (i : Nat) (x : UInt8) (h : i < l.length) : (l.set i x).getD i 0 = x := by simp [h]
theorem getD_set_ne (l : List UInt8) (i j : Nat) (x : UInt8) (h : i ≠ j) : (l.set i x).getD j 0 = l.getD j 0 := by simp [List.getElem?_set_ne h]
theorem set_getD (l : List UInt8) (i : Nat) (h : i < l.length) : l.set i (l.getD i 0) = l := by simp [h]

theorem down_up {l : List UInt8} {p : Int} (h : errT l p 255 = 0) : errT (outT l p 1 255) p 0 = 0 ∧ outT (outT l p 1 255) p 255 0 = l := by
  obtain ⟨h1, h2, h3, h4⟩ := errT_zero.1 h
  have hl := mayT_len h1
  have e1 : outT l p 1 255 = l.set p.toNat (l.getD p.toNat 0 + 1) := by unfold outT; rw [if_pos h]
  have g1 : (l.set p.toNat (l.getD p.toNat 0 + 1)).getD p.toNat 0 = l.getD p.toNat 0 + 1 := getD_set_self _ _ _ (by omega)
  have hz : errT (outT l p 1 255) p 0 = 0 := by
    rw [e1]
    refine errT_zero.2 ⟨by rw [mayT_set _ _ _ (by omega)]; exact h1, h2, h3, ?_⟩
    rw [g1]
    exact u8_up0 h4
  refine ⟨hz, ?_⟩
  unfold outT at hz ⊢
  rw [if_pos h] at hz ⊢
  rw [if_pos hz, g1, List.set_set, u8_both, set_getD _ _ (by omega)]

/-- Counts of two blocks are turned in either order. -/
theorem apart {l : List UInt8} {p q : Int} (h : errT l p 255 = 0) (k : errT l q 0 = 0) :
    errT (outT l p 1 255) q 0 = 0 ∧ errT (outT l q 255 0) p 255 = 0 ∧ outT (outT l p 1 255) q 255 0 = outT (outT l q 255 0) p 1 255 ∧ (p = q → outT (outT l p 1 255) q 255 0 = l) := by
  by_cases e : p = q
  · subst e
    obtain ⟨h1, h2, h3, h4⟩ := errT_zero.1 h
    obtain ⟨_, _, _, k4⟩ := errT_zero.1 k
    have hl := mayT_len h1
    obtain ⟨d1, d2⟩ := down_up h
    have e1 : outT l p 255 0 = l.set p.toNat (l.getD p.toNat 0 + 255) := by unfold outT; rw [if_pos k]
    have g1 : (l.set p.toNat (l.getD p.toNat 0 + 255)).getD p.toNat 0 = l.getD p.toNat 0 + 255 := getD_set_self _ _ _ (by omega)
    have hz : errT (outT l p 255 0) p 255 = 0 := by
      rw [e1]
      refine errT_zero.2 ⟨by rw [mayT_set _ _ _ (by omega)]; exact h1, h2, h3, ?_⟩
      rw [g1]
      exact u8_down0 k4
    refine ⟨d1, hz, ?_, fun _ => d2⟩
    rw [d2]
    unfold outT at hz ⊢
    rw [if_pos k] at hz ⊢
    rw [if_pos hz, g1, List.set_set, u8_both', set_getD _ _ (by omega)]
  · obtain ⟨h1, h2, h3, h4⟩ := errT_zero.1 h
    obtain ⟨_, k2, k3, k4⟩ := errT_zero.1 k
    have hl := mayT_len h1
    have hne : p.toNat ≠ q.toNat := by omega
    have e1 : outT l p 1 255 = l.set p.toNat (l.getD p.toNat 0 + 1) := by unfold outT; rw [if_pos h]
    have e2 : outT l q 255 0 = l.set q.toNat (l.getD q.toNat 0 + 255) := by unfold outT; rw [if_pos k]
    have z1 : errT (outT l p 1 255) q 0 = 0 := by
      rw [e1]
      refine errT_zero.2 ⟨by rw [mayT_set _ _ _ (by omega)]; exact h1, k2, k3, ?_⟩
      rw [getD_set_ne _ _ _ _ hne]
      exact k4
    have z2 : errT (outT l q 255 0) p 255 = 0 := by
      rw [e2]
      refine errT_zero.2 ⟨by rw [mayT_set _ _ _ (by omega)]; exact h1, h2, h3, ?_⟩
      rw [getD_set_ne _ _ _ _ (Ne.symm hne)]
      exact h4
    refine ⟨z1, z2, ?_, fun h => absurd h e⟩
    rw [e1] at z1 ⊢
    rw [e2] at z2 ⊢
    unfold outT
    rw [if_pos z1, if_pos z2, getD_set_ne _ _ _ _ hne, getD_set_ne _ _ _ _ (Ne.symm hne), List.set_comm _ _ hne]

end Go.Proofs.Ytfdogefoodljaaa
