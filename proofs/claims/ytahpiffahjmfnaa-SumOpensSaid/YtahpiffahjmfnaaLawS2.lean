/- The walk of the statement SumOpens. -/
import Derived.Test.YtahpiffahjmfnaaRefS2
import Derived.Test.YtahpiffahjmfnaaLawS1
import Derived.Test.YtahpiffahjmfnaaLawA4
namespace Go.Proofs.Ytahpiffahjmfnaa
open Go.RowKit

theorem openE_zero (l : List UInt8) (h : openE l = 0) : l.length = 128 ∧ opensL l = true := by
  unfold openE at h
  split at h
  · split at h
    · exact ⟨by assumption, by assumption⟩
    · cases h
  · cases h
theorem openE_ok (l : List UInt8) (h1 : l.length = 128) (h2 : opensL l = true) : openE l = 0 := by
  unfold openE
  rw [if_pos h1, if_pos h2]
theorem openE_bad (l : List UInt8) (h1 : l.length = 128) (h2 : ¬ opensL l = true) : openE l = 8 := by
  unfold openE
  rw [if_pos h1, if_neg h2]
theorem openE_text (l : List UInt8) (h1 : ¬ l.length = 128) : openE l = 3 := by
  unfold openE
  rw [if_neg h1]
theorem openL_ok (l : List UInt8) (h : openE l = 0) : openL l = l.drop 4 := by
  unfold openL
  rw [if_pos h]
theorem openL_no (l : List UInt8) (h : ¬ openE l = 0) : openL l = [] := by
  unfold openL
  rw [if_neg h]
theorem padL_full (l : List UInt8) (h : l.length = 124) : padL l = l := by simp [padL, h]
theorem seal_open (l : List UInt8) (h : openE l = 0) : sealL (openL l) = l := by
  obtain ⟨h1, h2⟩ := openE_zero l h
  rw [openL_ok l h]
  unfold sealL
  rw [padL_full _ (by simp; omega)]
  have hn : getN l 0 4 = (crc (l.drop 4)).toNat := by simpa [opensL] using h2
  have hg := (get_yes' l 0 4 (by omega)).1
  rw [← hn]
  have h4 := four_of l 0 (by omega)
  rw [show getN l 0 4 = numOf ((l.drop 0).take 4) from hg, h4]
  simp

set_option maxHeartbeats 400000 in
theorem sumOpens_walk (v : Value) (l : List UInt8) (w : World) (hv : Bytes w 0 w.heap.size v l) :
    Calls Try.prog 12 #[v] w fun e w' => e = .returned (.bool true) ∧ Below w.heap.size w w' := by
  have hopen := fun w1 h => open_any v l w1 h
  obtain ⟨a, c, rfl, g1, g2, _, _⟩ := id hv
  unfold maxLen at g2
  by_cases hl : 10000 < l.length
  · clear hopen
    go_enter Try.func12, Try.ntmps12
    go_wp2_with fail
    refine (alive2 _).mono ?_
    rintro e w1 ⟨rfl, hb1⟩
    go_wp2
    go_ret
    exact ⟨rfl, hb1⟩
  by_cases ho : openE l = 0
  · obtain ⟨h1, h2⟩ := openE_zero l ho
    have hso := seal_open l ho
    have hlo : (openL l).length = 124 := by rw [openL_ok l ho]; simp; omega
    have Hso := Lib.hid (And.intro hso (And.intro hlo h1))
    clear hso hlo h1 h2
    rw [ho] at hopen
    generalize openL l = o at *
    have Ho := Lib.hid hopen
    clear ho hopen
    go_enter Try.func12, Try.ntmps12
    go_wp2_with fail
    refine (alive2 _).mono ?_
    rintro e w1 ⟨rfl, hb1⟩
    go_wp2_with fail
    refine (Ho.out w1 (hv.step hb1)).mono ?_
    rintro e w2 ⟨u, rfl, hm⟩
    have hB := below_step hb1 hb1.size hm.below
    have hu := hm.bytes.all0
    go_wp2_with fail
    refine (seal_yes u o w2 hu (by have := Hso.out.2.1; omega)).mono ?_
    rintro e w3 ⟨p, rfl, hm3⟩
    have hB3 := below_step hB hB.size hm3.below
    have hp := hm3.bytes.all0
    rw [Hso.out.1] at hp
    have c1 := cvt_of hp
    have c2 := cvt_of (hv.step hB3)
    go_wp2
    go_ret
    exact ⟨rfl, hB3⟩
  · have hno := openL_no l ho
    have hne : ¬ openE l = 0 := ho
    have hE : (openE l = 3 ∧ l.length ≠ 128) ∨ (openE l = 8 ∧ l.length = 128) := by
      by_cases h : l.length = 128
      · exact .inr ⟨openE_bad l h (fun hh => ho (openE_ok l h hh)), h⟩
      · exact .inl ⟨openE_text l h, h⟩
    rw [hno] at hopen
    clear hno ho hne
    rcases hE with ⟨hE, hl3⟩ | ⟨hE, hl3⟩
    all_goals
      rw [hE] at hopen
      have Ho := Lib.hid hopen
      clear hE hopen
      first
        | (have hb : ((l.length : Int) != 128) = true := by rw [bne_iff_ne]; omega)
        | (have hb : ((l.length : Int) != 128) = false := by simp; omega)
      have H3 := Lib.hid hl3
      clear hl3
      go_enter Try.func12, Try.ntmps12
      go_wp2_with fail
      refine (alive2 _).mono ?_
      rintro e w1 ⟨rfl, hb1⟩
      go_wp2_with fail
      refine (Ho.out w1 (hv.step hb1)).mono ?_
      rintro e w2 ⟨u, rfl, hm⟩
      have hB := below_step hb1 hb1.size hm.below
      obtain ⟨ua, uc, rfl, _, _, _, _⟩ := hm.bytes
      go_wp2
      go_ret
      exact ⟨rfl, hB⟩
end Go.Proofs.Ytahpiffahjmfnaa
