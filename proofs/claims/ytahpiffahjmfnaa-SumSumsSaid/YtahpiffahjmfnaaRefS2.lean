/- Sealed, Seal, Open of the reference. -/
import Derived.Test.YtahpiffahjmfnaaRefS
namespace Go.Proofs.Ytahpiffahjmfnaa
open Go.RowKit
theorem bytes_zero (w : World) (t : TypeId) :
    Bytes (w.alloc (.cells #[.int .u8 0] t)) w.heap.size (w.heap.size + 1) (.slice (some ⟨w.heap.size, 0, none⟩) 1 1) [0] :=
  Bytes.new w t [0] (by simp [maxLen]) (0, 0)
def lenOf : Value → Nat
  | .slice _ n _ => n
  | _ => 0

set_option maxHeartbeats 1000000 in
theorem rsealed_any (v : Value) (l : List UInt8) (w : World) (hI : Bytes w 0 w.heap.size v l) (hl : l.length ≤ 124) : Calls Try.prog 37 #[v] w fun e w' => ∃ u, e = .returned u ∧ MadeB w w' u (sealL l) := by
  obtain ⟨a, c, rfl, g1, g2, g3, _⟩ := id hI
  unfold maxLen at g2
  go_enter Try.func37, Try.ntmps37
  go_wp2_with (at_builtin; refine wpList_appB rfl _ _ 22 rfl w.heap.size 5 Try.underlying22 info_u8 _ [] rfl (OwnB.nil_ _ _ _) _ _ _ l rfl hI (by simp; omega) (Nat.le_refl _) ?_; intro v1 w1 hown1 hB1)
  rw [List.nil_append] at hown1
  go_loopw [3] (fun v wr => ∃ k : Nat, l.length + k ≤ 124 ∧ OwnB w.heap.size 5 wr v (l ++ List.replicate k 0) ∧ Below w.heap.size w wr) (fun v _ => 124 - lenOf v)
  case atStart => exact ⟨0, by omega, by simpa using hown1, hB1⟩
  case round =>
    obtain ⟨k, hk, hown, hB⟩ := hrel
    have hlen : (l ++ List.replicate k (0 : UInt8)).length = l.length + k := by simp
    obtain ⟨b1, c1, rfl, q1, q2, _, _⟩ := hown.bytes
    unfold maxLen at q2
    have hs : l ++ List.replicate (k + 1) (0 : UInt8) = (l ++ List.replicate k 0) ++ [0] := by rw [List.replicate_succ', ← List.append_assoc]
    have HS := Lib.hid hs
    by_cases hlt : l.length + k < 124
    · clear hs
      generalize l ++ List.replicate k (0 : UInt8) = r at *
      have hr : (r.length : Int) < 124 := by omega
      have HL := Lib.hid hlen
      clear hlen
      go_wp2_with (at_builtin; refine wpList_appB rfl _ _ 22 rfl w.heap.size 5 Try.underlying22 info_u8 _ r rfl (hown.alloc _) wr.heap.size (wr.heap.size + 1) _ [0] rfl (bytes_zero wr _) (by have := HL.out; simp; omega) (by have := hB.size; simp; omega) ?_; intro v' w1 hown' hB1)
      go_roundw
      case rel => exact ⟨k + 1, by omega, by rw [HS.out]; exact hown', (hB.alloc hB.size _).trans hB1⟩
      case measure => 
        obtain ⟨b2, c2, rfl, _, _, _, _⟩ := hown'.bytes
        have := HL.out
        simp [lenOf]; omega
    · have hkk : k = 124 - l.length := by omega
      have hp : l ++ List.replicate k (0 : UInt8) = padL l := by rw [hkk]; rfl
      rw [hp] at hown hlen q1 ⊢
      have hof := rof_any _ _ _ (hown.bytes.all0)
      have hx := (crc (padL l)).isLt
      have hfin : fourL (crc (padL l)).toNat ++ padL l = sealL l := rfl
      have HX := Lib.hid (And.intro hfin (And.intro hof hlen))
      clear hfin hof hs hp hown1
      unfold u32v at HX
      generalize crc (padL l) = C at *
      generalize C.toNat = cn at *
      have hr : ¬ ((padL l).length : Int) < 124 := by omega
      have HL := Lib.hid hlen
      generalize padL l = pl at *
      clear hlen hkk
      go_wp2_with fail
      refine HX.out.2.1.mono ?_
      rintro e w2 ⟨rfl, hb2⟩
      go_wp2_with fail
      refine (rfour_own _ _ (by omega)).mono ?_
      rintro e w3 ⟨v4, rfl, hown4, hb3⟩
      obtain ⟨b4, c4, rfl, _, _, _, _⟩ := id hown4.bytes
      have hpl := ((hown.bytes.all0).step hb2).step hb3
      have h4 : (fourL cn).length = 4 := rfl
      have HB := Lib.hid (And.intro (below_step (below_step hB hB.size hb2) (below_step hB hB.size hb2).size hb3) (below_step hB hB.size hb2).size)
      rw [h4] at *
      go_wp2_with (at_builtin; refine wpList_appB rfl _ _ 22 rfl w2.heap.size 5 Try.underlying22 info_u8 _ (fourL cn) rfl hown4 _ _ _ pl rfl hpl (by have := HL.out; simp [fourL]; omega) hb3.size ?_; intro u5 w5 hown5 hB5)
      go_ret
      rw [HX.out.1] at hown5
      have hm := hown5.made (hb3.trans hB5)
      exact ⟨_, rfl, (hown5.bytes.more HB.out.2 (Nat.le_refl _)), hm.thawed, HB.out.1.trans (hB5.mono HB.out.2)⟩

theorem rseal_yes (v : Value) (l : List UInt8) (w : World) (hI : Bytes w 0 w.heap.size v l) (hl : l.length ≤ 124) :
    Calls Try.prog 27 #[v] w fun e w' => ∃ u, e = .returned (.tuple #[u, .int .i64 0]) ∧ MadeB w w' u (sealL l) := by
  have hs := rsealed_any v l w hI hl
  obtain ⟨a, c, rfl, g1, g2, _, _⟩ := id hI
  clear hI
  generalize sealL l = sl at *
  go_enter Try.func27, Try.ntmps27
  go_wp2_with fail
  refine hs.mono ?_
  rintro e w1 ⟨u, rfl, hm⟩
  go_wp2
  go_ret2
  exact ⟨u, rfl, hm⟩
theorem rseal_no (v : Value) (l : List UInt8) (w : World) (hI : Bytes w 0 w.heap.size v l) (hl : ¬ l.length ≤ 124) :
    Calls Try.prog 27 #[v] w fun e w' => e = .returned (.tuple #[.slice none 0 0, .int .i64 3]) ∧ w = w' := by
  obtain ⟨a, c, rfl, g1, g2, _, _⟩ := id hI
  clear hI
  go_enter Try.func27, Try.ntmps27
  go_wp2
  go_ret2
  exact ⟨rfl, rfl⟩

set_option maxHeartbeats 1000000 in
theorem ropen_any (v : Value) (l : List UInt8) (w : World) (hI : Bytes w 0 w.heap.size v l) :
    Calls Try.prog 28 #[v] w fun e w' => ∃ u, e = .returned (.tuple #[u, .int .i64 (openE l)]) ∧ MadeB w w' u (openL l) := by
  by_cases hl : l.length = 128
  · obtain ⟨b, off, c, rfl, g0, g1, g2, g3, g4⟩ := hI.at_ (by omega)
    clear g4
    rw [hl] at g2 hI ⊢
    unfold maxLen at g3
    have hcut := hI.cut 4 124 (c - 4) (by omega) (by omega) (by unfold maxLen; omega)
    rw [List.take_of_length_le (by simp; omega)] at hcut
    have hdl : (l.drop 4).length = 124 := by simp; omega
    have hget := rgetFour_any _ l 0 w hI
    have hE0 : getE l 0 4 = 0 := if_pos (by simp; omega)
    have hgl := getN_lt l 0 4
    rw [hE0] at hget
    have hof := rof_any _ _ _ hcut
    have hrel : opensL l = true ↔ (getN l 0 4 : Int) = ((crc (l.drop 4)).toNat : Int) := by simp only [opensL, beq_iff_eq]; omega
    unfold openL openE
    rw [if_pos hl]
    have hlt := (crc (l.drop 4)).isLt
    clear hE0 hI
    unfold u32v at hof
    generalize crc (l.drop 4) = C at *
    generalize C.toNat = cn at *
    generalize getN l 0 4 = gn at *
    generalize l.drop 4 = d at *
    have HH := Lib.hid (And.intro hcut hdl)
    clear hcut hdl
    by_cases ho : opensL l = true
    · rw [hrel] at ho
      rw [if_pos (hrel.2 ho), if_pos rfl]
      obtain rfl : gn = cn := by omega
      clear hrel ho
      go_enter Try.func28, Try.ntmps28
      go_wp2_with fail
      refine hget.mono ?_
      rintro e w1 ⟨rfl, rfl⟩
      go_wp2_with fail
      refine hof.mono ?_
      rintro e w2 ⟨rfl, hb2⟩
      go_wp2_with (at_builtin; refine wpList_appB rfl _ _ 22 rfl w.heap.size 5 Try.underlying22 info_u8 _ [] rfl (OwnB.nil_ _ _ _) _ _ _ d rfl (HH.out.1.step hb2) (by have := HH.out.2; simp; omega) hb2.size ?_; intro u5 w5 hown5 hB5)
      go_ret2
      exact ⟨_, rfl, hown5.made (hb2.trans hB5)⟩
    · have hne : ¬ ((gn : Int) = (cn : Int)) := fun h => ho (hrel.2 h)
      rw [if_neg ho, if_neg (by decide)]
      clear hrel ho
      go_enter Try.func28, Try.ntmps28
      go_wp2_with fail
      refine hget.mono ?_
      rintro e w1 ⟨rfl, rfl⟩
      go_wp2_with fail
      refine hof.mono ?_
      rintro e w2 ⟨rfl, hb2⟩
      go_wp2
      go_ret2
      exact ⟨_, rfl, MadeB.nil_ hb2⟩
  · have e1 : openE l = 3 := by simp [openE, hl]
    have e2 : openL l = [] := by simp [openL, e1]
    rw [e1, e2]
    obtain ⟨a, c, rfl, g1, g2, _, _⟩ := id hI
    clear hI e1 e2
    go_enter Try.func28, Try.ntmps28
    go_wp2
    go_ret2
    exact ⟨_, rfl, MadeB.nil_ (Below.refl _ _)⟩
end Go.Proofs.Ytahpiffahjmfnaa
