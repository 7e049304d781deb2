/- The walk of the statement CountTurns. -/
import Derived.Test.YtfdogefoodljaaaLawC1
namespace Go.Proofs.Ytfdogefoodljaaa
open Go.RowKit

theorem get_some (l : List UInt8) (i : Nat) (h : i < l.length) : l[i]? = some (l.getD i 0) := by simp [h]

set_option maxRecDepth 100000 in
set_option maxHeartbeats 1000000 in
theorem countTurns_walk (v : Value) (l : List UInt8) (p : Int) (w : World) (hv : Bytes w 0 w.heap.size v l) (_wp : (Lit.int .i64 p).wf = true) :
    Calls Try.prog 3 #[v, .int .i64 p] w fun e w' => e = .returned (.bool true) ∧ Below w.heap.size w w' := by
  have hu := fun W h => cup_any v l p W h
  have hd := fun U W h => cdown_any U (outT l p 1 255) p W h
  obtain ⟨a, c, hve, g1, g2⟩ := hv.form rfl
  subst hve
  unfold maxLen at g2
  go_enter Try.func3, Try.ntmps3
  go_wp2_with fail
  refine (alive7 _).mono ?_
  rintro e w1 ⟨rfl, hb1⟩
  replace hv := hv.step hb1
  by_cases h0 : 10000 < l.length
  · have i1 : (10000 : Int) < l.length := by omega
    go_wp2
    go_ret
    exact ⟨rfl, hb1⟩
  have i1 : ¬ (10000 : Int) < l.length := by omega
  go_wp2_with fail
  refine (hu w1 hv).mono ?_
  rintro e w2 ⟨u, rfl, hm⟩
  have hB2 := below_step hb1 hb1.size hm.below
  by_cases he : errT l p 255 = 0
  · obtain ⟨h1, h2, h3, h4⟩ := errT_zero.1 he
    have hl := mayT_len h1
    obtain ⟨q, rfl⟩ : ∃ q : Nat, p = q := ⟨p.toNat, by omega⟩
    obtain ⟨hd1, hd2⟩ := down_up he
    have hA : outT l q 1 255 = l.set q (l.getD q 0 + 1) := by unfold outT; rw [if_pos he]; rfl
    have hy : (l.getD q 0 + 1).toNat = (l.getD q 0).toNat + 1 := u8_up h4
    have hAl : (outT l q 1 255).length = 256 := by rw [hA, List.length_set, hl]
    have hAq : (outT l q 1 255)[q]? = some (l.getD q 0 + 1) := by rw [hA, List.getElem?_set_self (by omega)]
    have hlq : l[q]? = some (l.getD q 0) := get_some _ _ (by omega)
    have hAn : ∀ k, k ≠ q → (outT l q 1 255)[k]? = l[k]? := fun k hk => by rw [hA, List.getElem?_set_ne (Ne.symm hk)]
    rw [hd1, hd2] at hd
    rw [he]
    clear hu he hd1 hd2 hA h1
    generalize outT l q 1 255 = A at *
    generalize l.getD q 0 + 1 = y at *
    generalize l.getD q 0 = z at *
    clear h4
    have HD := Lib.hid (And.intro hd (And.intro hAq (And.intro hlq hAn)))
    clear hd hAq hlq hAn
    obtain ⟨b, off, c2, rfl, -, -, -, hc2, -⟩ := hm.bytes.at_n hAl (by omega)
    replace hv := hv.step hm.below
    obtain ⟨b', off', c', e', -, -, -, hc', -⟩ := hv.at_n hl (by omega)
    rw [hl] at e' hv g1 ⊢
    injection e' with ea _ ec
    subst ea ec
    unfold maxLen at hc2 hc'
    have hu2 := hm.bytes.all0
    have x1 := hu2.cellAt q y HD.out.2.1
    have x2 := hv.cellAt q z HD.out.2.2.1
    simp only [bV] at x1 x2
    have HV := Lib.hid (And.intro hu2 hv)
    have i3 : (8 : Int) ≤ q := by omega
    have i4 : ¬ (q : Int) < 8 := by omega
    have i5 : ¬ (255 : Int) < q := by omega
    have i6 : ((y.toNat : Nat) : Int) = z.toNat + 1 := by omega
    have i7 := UInt8.toNat_lt z
    have i8 := UInt8.toNat_lt y
    clear hm hu2 hv
    have i9 : ((z.toNat : Int) + 1) % 18446744073709551616 = (z.toNat : Int) + 1 := by omega
    have d1 : decide ((q : Int) < 8) = false := by simp; omega
    have d2 : decide ((255 : Int) < q) = false := by simp; omega
    have d3 : ((y.toNat : Int) != (z.toNat : Int) + 1) = false := by simp; omega
    have d4 : ((y.toNat : Int) == (z.toNat : Int) + 1) = true := by simp; omega
    clear i8 i6 i4 i5
    go_wp2_with fail
    go_quiet (fail)
    clear x1 x2 i7 i9 hy
    go_wp2
    have hB0 := below_drewN hB2 nq
    have hDr := below_drewN (Below.refl w2.heap.size w2) nq
    have HW := Lib.hid (And.intro hB0 hDr)
    clear hB0 hDr
    go_loopw [8] (fun i wr => ∃ k : Nat, k ≤ 256 ∧ i = .int .i64 k ∧ Below w2.heap.size w2 wr) (fun i _ => 256 - (intOf i).toNat)
    case atStart => exact ⟨0, Nat.zero_le _, rfl, HW.out.2⟩
    case round =>
      obtain ⟨k, hk, rfl, hbr⟩ := hrel
      have HR := Lib.hid hbr
      clear hbr
      by_cases hlt : k < 256
      · have j1 : (k : Int) < 256 := by omega
        by_cases hq : k = q
        · subst hq
          go_wp2_with fail
          go_quiet (fail)
          go_wp2
          go_roundw
          case rel => exact ⟨k + 1, by omega, by go_num, below_drewN HR.out _⟩
          case measure => simp [intOf]; omega
        · have j2 : ¬ (k : Int) = q := by omega
          have j3 : ((k : Int) == q) = false := by simp; omega
          have j4 : ((k : Int) != q) = true := by simp; omega
          have h5 := HD.out.2.2.2 k hq
          have y1 := (HV.out.1.below HR.out (Nat.le_refl _)).cellAt k (l.getD k 0) (by rw [h5]; exact get_some _ _ (by omega))
          have y2 := (HV.out.2.below HR.out (Nat.le_refl _)).cellAt k (l.getD k 0) (get_some _ _ (by omega))
          simp only [bV] at y1 y2
          generalize l.getD k 0 = t at *
          clear h5
          go_wp2_with fail
          go_quiet (fail)
          go_wp2
          go_roundw
          case rel => exact ⟨k + 1, by omega, by go_num, below_drewN HR.out _⟩
          case measure => simp [intOf]; omega
      · have hk2 : k = 256 := by omega
        subst hk2
        have hu3 := HV.out.1.step HR.out
        have hv3 := HV.out.2.step HR.out
        go_wp2_with fail
        refine (HD.out.1 _ _ hu3).mono ?_
        rintro e w5 ⟨u5, rfl, hm5⟩
        have hB6 := below_step (below_step hB2 hB2.size HR.out) (by have := hB2.size; have := HR.out.size; omega) hm5.below
        have e1 := cv_of hm5.bytes
        have e2 := cv_of (hv3.step hm5.below)
        clear hu3 hv3
        go_wp2
        go_ret
        exact ⟨rfl, hB6⟩
  · have hz : outT l p 1 255 = [] := by unfold outT; rw [if_neg he]
    rw [hz] at hm
    obtain ⟨a2, c2, rfl, -, -⟩ := hm.bytes.form rfl
    generalize errT l p 255 = er at *
    clear hu hd hm hz
    go_wp2
    go_ret
    exact ⟨rfl, hB2⟩

end Go.Proofs.Ytfdogefoodljaaa
