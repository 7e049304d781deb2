/- The contracts of the reference of layer 2. -/
import Derived.Test.YtahpiffahjmfnaaSeal
namespace Go.Proofs.Ytahpiffahjmfnaa
open Go.RowKit

theorem half_odd (s : BitVec 32) (h : (s.toNat : Int) % 2 = 1) : bits BinOp.xor IntKind.u32 ((s.toNat : Int) / 2) 3988292384 = ((half s).toNat : Int) := by
  have := half_nat s
  have e : bits BinOp.and IntKind.u32 (s.toNat : Int) 1 = 1 := by
    rw [show (1 : Int) = ((1#32).toNat : Int) by decide, and_u32, BitVec.toNat_and, show (1#32).toNat = 1 from rfl, Nat.and_one_is_mod]
    omega
  rw [e] at this
  exact this
theorem half_evn (s : BitVec 32) (h : ¬ (s.toNat : Int) % 2 = 1) : (s.toNat : Int) / 2 = ((half s).toNat : Int) := by
  have hb : s.getLsbD 0 = false := by
    simp only [BitVec.getLsbD, Nat.testBit_zero]
    simp; omega
  unfold half
  rw [hb]
  simp only [Bool.false_eq_true, if_false, BitVec.xor_zero, shr_nat]
  omega

set_option maxHeartbeats 1000000 in
theorem halved_any (s : BitVec 32) (many : Nat) (w : World) (hm : many ≤ 1000) : Calls Try.prog 38 #[u32v s, .int .i64 many] w fun e w' => e = .returned (u32v (halves many s)) ∧ w = w' := by
  unfold u32v
  go_enter Try.func38, Try.ntmps38
  go_wp2
  go_loop [0, 5] (fun v k => ∃ j : Nat, j ≤ many ∧ k = .int .i64 j ∧ v = u32v (halves j s)) (fun _ k => many - (intOf k).toNat)
  case atStart => exact ⟨0, Nat.zero_le _, rfl, rfl⟩
  case round =>
    obtain ⟨j, hj, rfl, hs⟩ := hrel
    unfold u32v at hs
    subst hs
    by_cases hlt : j < many
    · have hb := (halves j s).isLt
      have hf : half (halves j s) = halves (j + 1) s := rfl
      have HF := Lib.hid hf
      clear hf
      generalize halves j s = q at *
      by_cases ho : (q.toNat : Int) % 2 = 1
      · go_wp2
        go_round
        case rel => exact ⟨j + 1, by omega, by go_num, by rw [← HF.out, u32v, ← half_odd q ho]⟩
        case measure => simp [intOf]; omega
      · go_wp2
        go_round
        case rel => exact ⟨j + 1, by omega, by go_num, by rw [← HF.out, u32v, ← half_evn q ho]⟩
        case measure => simp [intOf]; omega
    · obtain rfl : j = many := by omega
      go_wp2
      go_ret
      exact ⟨rfl, rfl⟩
theorem rem15 (s : BitVec 32) : ∃ i : Nat, i < 16 ∧ (s.toNat : Int) % 16 = (i : Int) ∧ halves 4 (BitVec.ofNat 32 i) = halves 4 (s &&& 15#32) := by
  obtain ⟨i, h1, h2, h3⟩ := and15 s
  refine ⟨i, h1, ?_, h3⟩
  rw [show (15 : Int) = ((15#32).toNat : Int) by decide, and_u32, BitVec.toNat_and, show (15#32).toNat = 2 ^ 4 - 1 from rfl, Nat.and_two_pow_sub_one_eq_mod] at h2
  omega

set_option maxHeartbeats 2000000 in
theorem rof_any (v : Value) (l : List UInt8) (w : World) (hI : Bytes w 0 w.heap.size v l) : Calls Try.prog 29 #[v] w fun e w' => e = .returned (u32v (crc l)) ∧ Below w.heap.size w w' := by
  obtain ⟨a, c, rfl, g1, g2, g3, _⟩ := id hI
  unfold maxLen at g2
  go_enter Try.func29, Try.ntmps29
  go_wp2
  go_loopw [4] (fun k wr => ∃ n : Nat, n ≤ 16 ∧ k = .int .i64 n ∧ wr = w.alloc (.cells (tabV n) 51)) (fun k _ => 16 - (intOf k).toNat)
  case atStart => exact ⟨0, by omega, rfl, by rw [tabV_zero]⟩
  case round =>
    obtain ⟨n, hn, rfl, rfl⟩ := hrel
    by_cases h : n < 16
    · have hcell : (tabV n)[n]? = some (.int .u32 0) := by simp [tabV, h]
      have htab := fun v hv => tabV_set n h v hv
      have hH := halved_any (BitVec.ofNat 32 n) 4 (w.alloc (.cells (tabV n) 51)) (by omega)
      rw [show u32v (BitVec.ofNat 32 n) = .int .u32 n by rw [u32v, BitVec.toNat_ofNat, Nat.mod_eq_of_lt (by omega)]] at hH
      unfold u32v at hH
      have HH := Lib.hid hH
      have HT := Lib.hid htab
      have hn' : (n : Int) < 16 := by omega
      clear htab hH
      go_wp2_with (go_at_call 38; refine HH.out.mono ?_; rintro e w' ⟨rfl, rfl⟩)
      go_roundw
      case rel => exact ⟨n + 1, by omega, by go_num, by rw [← HT.out _ rfl]; rfl⟩
      case measure => simp [intOf]; omega
    · obtain rfl : n = 16 := by omega
      rw [tabV_lit]
      go_wp2
      rw [← tabV_lit]
      have hI2 := hI.step ((Below.refl w.heap.size w).alloc (Nat.le_refl _) (.cells (tabV 16) 51))
      have hBW := (Below.refl w.heap.size w).alloc (Nat.le_refl _) (.cells (tabV 16) 51)
      have htab : ∀ i : Nat, i < 16 → (w.alloc (.cells (tabV 16) 51)).cell? ⟨w.heap.size, i, none⟩ = some (u32v (halves 4 (BitVec.ofNat 32 i))) := fun i hi => by rw [World.cell?_alloc_new]; exact tabV_at i hi
      generalize w.alloc (.cells (tabV 16) 51) = W at *
      have HB := Lib.hid hBW
      clear hI g3 hBW
      generalize w.heap.size = tb at htab ⊢
      have HT := Lib.hid htab
      have HI := Lib.hid hI2
      clear htab hI2
      go_loop [5, 6] (fun s i => ∃ k : Nat, k ≤ l.length ∧ i = .int .i64 k ∧ s = u32v (crcS (BitVec.allOnes 32) (l.take k))) (fun _ i => l.length - (intOf i).toNat)
      case atStart => exact ⟨0, Nat.zero_le _, rfl, rfl⟩
      case round =>
        obtain ⟨k, hk, rfl, hs⟩ := hrel
        unfold u32v at hs
        subst hs
        by_cases hlt : k < l.length
        · obtain ⟨b, off, c', he, _, hb, _, _, hc⟩ := HI.out.at_ (by omega)
          cases he
          have hx := hc k l[k] (by simp [hlt])
          have hsn : crcS (BitVec.allOnes 32) (l.take (k + 1)) = stepB (crcS (BitVec.allOnes 32) (l.take k)) l[k] := by rw [List.take_succ_eq_append_getElem hlt, crcS_append]; rfl
          have HS := Lib.hid hsn
          clear hsn hc
          generalize crcS (BitVec.allOnes 32) (l.take k) = s at *
          generalize l[k] = x at *
          unfold bV at hx
          have hxl : (x.toNat : Int) < 256 := by have := x.toNat_lt; omega
          have e1 : bits BinOp.xor IntKind.u32 (s.toNat : Int) (x.toNat : Int) = ((s ^^^ b32 x).toNat : Int) := by rw [← b32_nat, xor_u32]
          have hs1 : stepB s x = halves 4 (halves 4 (s ^^^ b32 x)) := stepB_four s x
          have HS1 := Lib.hid hs1
          clear hs1
          generalize s ^^^ b32 x = s1 at *
          obtain ⟨i1, hi1, e2, e3⟩ := rem15 s1
          have t1 := HT.out i1 hi1
          have e4 := four_nat s1
          rw [← e3] at e4
          generalize halves 4 (BitVec.ofNat 32 i1) = y1 at *
          generalize halves 4 s1 = s2 at *
          obtain ⟨i2, hi2, e5, e6⟩ := rem15 s2
          have t2 := HT.out i2 hi2
          have e7 := four_nat s2
          rw [← e6] at e7
          generalize halves 4 (BitVec.ofNat 32 i2) = y2 at *
          generalize halves 4 s2 = s3 at *
          unfold u32v at t1 t2
          have b1 := s1.isLt
          have b2 := s2.isLt
          clear e3 e6
          go_wp2
          go_round
          case rel => exact ⟨k + 1, by omega, by go_num, by rw [HS.out, HS1.out]; rfl⟩
          case measure => simp [intOf]; omega
        · obtain rfl : k = l.length := by omega
          rw [List.take_length]
          have hfin : u32v (crc l) = .int .u32 (bits BinOp.xor IntKind.u32 ((crcS (BitVec.allOnes 32) l).toNat : Int) 4294967295) := by
            rw [show (4294967295 : Int) = ((BitVec.allOnes 32).toNat : Int) by decide, xor_u32, BitVec.xor_allOnes]
            rfl
          have HFin := Lib.hid hfin
          have hbd := (crcS (BitVec.allOnes 32) l).isLt
          clear hfin
          generalize crcS (BitVec.allOnes 32) l = s at *
          go_wp2
          go_ret
          exact ⟨by rw [HFin.out]; rfl, HB.out⟩
end Go.Proofs.Ytahpiffahjmfnaa
