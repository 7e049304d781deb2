/- Plain laws on sealed blocks: of which up to four bytes side by side are turned opens no more. No program. -/
import Derived.Test.YtahpiffahjmfnaaRefS2
import Derived.Test.YtahpiffahjmfnaaLawA4
import Derived.Test.YtahpiffahjmfnaaDat
namespace Go.Proofs.Ytahpiffahjmfnaa
open Go.RowKit

theorem numOf_inj : ∀ (l m : List UInt8), l.length = m.length → numOf l = numOf m → l = m
  | [], [], _, _ => rfl
  | x :: l, y :: m, hl, h => by
    have hx := x.toNat_lt
    have hy := y.toNat_lt
    simp only [numOf] at h
    have h1 : x.toNat = y.toNat := by omega
    have h2 : numOf l = numOf m := by omega
    rw [UInt8.toNat_inj.1 h1, numOf_inj l m (by simpa using hl) h2]
  | [], _ :: _, h, _ => by simp at h
  | _ :: _, [], h, _ => by simp at h
theorem getN_zero (l : List UInt8) (h : 4 ≤ l.length) : getN l 0 4 = numOf (l.take 4) := by
  have := (get_yes' l 0 4 (by omega)).1
  simpa using this
theorem split4 (l : List UInt8) (k : Nat) (h4 : 4 ≤ k) : l.drop 4 = (l.drop 4).take (k - 4) ++ (l.drop k).take 4 ++ l.drop (k + 4) := by
  have e1 : (l.drop 4).drop (k - 4) = l.drop k := by rw [List.drop_drop]; congr 1; omega
  have e2 : (l.drop k).drop 4 = l.drop (k + 4) := by rw [List.drop_drop]
  rw [List.append_assoc, ← e2, List.take_append_drop, ← e1, List.take_append_drop]
theorem turned_bad (S T : List UInt8) (hS : S.length = 128) (hT : T.length = 128) (ho : opensL S = true) (hne : S ≠ T) (k : Nat) (hk : k ≤ 124) (hk2 : k = 0 ∨ 4 ≤ k)
    (same : ∀ i, (i < k ∨ k + 4 ≤ i) → S[i]? = T[i]?) : ¬ opensL T = true := by
  intro hT2
  simp only [opensL, beq_iff_eq, getN_zero S (by omega), getN_zero T (by omega)] at ho hT2
  rcases hk2 with rfl | hk4
  · have hd : S.drop 4 = T.drop 4 := by
      apply List.ext_getElem?
      intro i
      rw [List.getElem?_drop, List.getElem?_drop]
      exact same _ (.inr (by omega))
    rw [hd] at ho
    have ht := numOf_inj _ _ (by simp [hS, hT]) (ho.trans hT2.symm)
    exact hne (by rw [← List.take_append_drop 4 S, ← List.take_append_drop 4 T, ht, hd])
  · have ht : S.take 4 = T.take 4 := by
      apply List.ext_getElem?
      intro i
      rw [List.getElem?_take, List.getElem?_take]
      split
      · exact same _ (.inl (by omega))
      · rfl
    rw [ht] at ho
    have hc : crc (S.drop 4) = crc (T.drop 4) := BitVec.eq_of_toNat_eq (ho.symm.trans hT2)
    have hp : (S.drop 4).take (k - 4) = (T.drop 4).take (k - 4) := by
      apply List.ext_getElem?
      intro i
      rw [List.getElem?_take, List.getElem?_take]
      split
      · rw [List.getElem?_drop, List.getElem?_drop]; exact same _ (.inl (by omega))
      · rfl
    have hr : S.drop (k + 4) = T.drop (k + 4) := by
      apply List.ext_getElem?
      intro i
      rw [List.getElem?_drop, List.getElem?_drop]
      exact same _ (.inr (by omega))
    by_cases hw : (S.drop k).take 4 = (T.drop k).take 4
    · refine hne ?_
      rw [← List.take_append_drop 4 S, ← List.take_append_drop 4 T, ht, split4 S k hk4, split4 T k hk4, hp, hw, hr]
    · rw [split4 S k hk4, split4 T k hk4, hp, hr] at hc
      exact crc_window _ _ _ _ (by simp [hS, hT]) (by simp; omega) hw hc

theorem sealL_take (b : List UInt8) : (sealL b).take 4 = fourL (crc (padL b)).toNat := by simp [sealL, fourL]
theorem sealL_drop (b : List UInt8) : (sealL b).drop 4 = padL b := by simp [sealL, fourL]
theorem seal_opens (b : List UInt8) (h : b.length ≤ 124) : opensL (sealL b) = true := by
  have hl := sealL_length b h
  simp only [opensL, beq_iff_eq, getN_zero (sealL b) (by omega), sealL_take, sealL_drop]
  have := numOf_fourL (crc (padL b)).toNat (by have := (crc (padL b)).isLt; omega)
  exact this
theorem open_seal (b : List UInt8) (h : b.length ≤ 124) : openE (sealL b) = 0 ∧ openL (sealL b) = padL b := by
  have h1 : openE (sealL b) = 0 := by
    unfold openE
    rw [if_pos (sealL_length b h), if_pos (seal_opens b h)]
  exact ⟨h1, by unfold openL; rw [if_pos h1, sealL_drop]⟩
theorem padL_take (b : List UInt8) : (padL b).take b.length = b := by simp [padL]
theorem padL_at (b : List UInt8) (i : Nat) (h : b.length ≤ i) (h2 : i < 124) : (padL b)[i]? = some 0 := by
  simp only [padL]
  rw [List.getElem?_append_right h, List.getElem?_replicate, if_pos (by omega)]
theorem openE_turned (T : List UInt8) (hT : T.length = 128) (h : ¬ opensL T = true) : openE T = 8 ∧ openL T = [] := by
  have h1 : openE T = 8 := by
    unfold openE
    rw [if_pos hT, if_neg h]
  exact ⟨h1, by unfold openL; rw [if_neg (by rw [h1]; decide)]⟩
/-- One byte is turned. -/
theorem turned_one (b : List UInt8) (h : b.length ≤ 124) (k : Nat) (x : UInt8) (hk : k < 128) (hx : (sealL b)[k]? ≠ some x) : openE ((sealL b).set k x) = 8 ∧ openL ((sealL b).set k x) = [] := by
  have hl := sealL_length b h
  refine openE_turned _ (by simp [hl]) ?_
  have hne : sealL b ≠ (sealL b).set k x := by
    intro he
    apply hx
    rw [he, List.getElem?_set_self (by omega)]
  by_cases h4 : k < 4
  · refine turned_bad _ _ hl (by simp [hl]) (seal_opens b h) hne 0 (by omega) (.inl rfl) (fun i hi => ?_)
    rw [List.getElem?_set_ne (by omega)]
  · refine turned_bad _ _ hl (by simp [hl]) (seal_opens b h) hne (min k 124) (by omega) (.inr (by omega)) (fun i hi => ?_)
    rw [List.getElem?_set_ne (by omega)]

/-- A byte of a slice is stored. -/
theorem Bytes.set {w : World} {lo hi b off n c : Nat} {l : List UInt8} (h : Bytes w lo hi (.slice (some ⟨b, off, none⟩) n c) l) (i : Nat) (x : UInt8) (hi' : i < l.length) :
    Bytes (w.setCell ⟨b, off + i, none⟩ (bV x)) lo hi (.slice (some ⟨b, off, none⟩) n c) (l.set i x) := by
  obtain ⟨a, c', e, h1, h2, h3, h4⟩ := h
  cases e
  refine ⟨_, _, by rw [List.length_set], by rw [List.length_set]; exact h1, h2, fun hp => ?_, h4⟩
  obtain ⟨b', off', ea, hlo, hhi, hc⟩ := h3 (by rw [List.length_set] at hp; exact hp)
  cases ea
  refine ⟨_, _, rfl, hlo, hhi, fun j y hy => ?_⟩
  by_cases e : i = j
  · subst e
    rw [List.getElem?_set_self hi'] at hy
    cases hy
    exact World.cell?_setCell_same' _ _ _ (by rw [hc i l[i] (by simp [hi'])]; rfl)
  · rw [List.getElem?_set_ne e] at hy
    rw [World.cell?_setCell_other _ _ _ _ (by intro h; injection h; omega)]
    exact hc j y hy
theorem Thawed.set {w : World} {v : Value} (h : Thawed w v) (p : Addr) (u : Value) : Thawed (w.setCell p u) v := fun b off n c e i hi => by rw [World.frozen?_setCell]; exact h b off n c e i hi
end Go.Proofs.Ytahpiffahjmfnaa
