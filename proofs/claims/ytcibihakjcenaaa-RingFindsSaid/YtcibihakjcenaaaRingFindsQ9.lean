/- RingFinds: the words and contracts, part 9. -/
import Derived.Test.YtcibihakjcenaaaRingFindsQ1
import Derived.Test.YtcibihakjcenaaaRingFindsQ2
import Derived.Test.YtcibihakjcenaaaRingFindsQ3
import Derived.Test.YtcibihakjcenaaaRingFindsQ4
import Derived.Test.YtcibihakjcenaaaRingFindsQ5
import Derived.Test.YtcibihakjcenaaaRingFindsQ6
import Derived.Test.YtcibihakjcenaaaRingFindsQ7
import Derived.Test.YtcibihakjcenaaaRingFindsQ8
import Derived.WalkKit
import Derived.WalkLawsBesides
import Derived.WalkSpells
import Derived.Lib.Hide
import Derived.Laws.Rows
import Derived.Laws.AppendOwnNone
import Derived.Maps.AppendAt
import Derived.RangeFuncNested
import Derived.RangeFuncBound
import Derived.RangeFuncCalls
import Derived.RangeFuncLeaves
import Derived.RangeFuncBox
import Derived.Shelf.Abstract
import Derived.Shelf.RegionOpen
import Derived.OwnWalkIn
import Derived.TacticsInMore
import Derived.LoopNIn
import Derived.LoopIn
import Derived.KernelRfl
import Derived.Lib.AppendZerosOnto
import Derived.Lib.SliceRun
import Derived.Lib.Walk
import Derived.Deep.LoopGhost
import Derived.Laws.CopyOwn
import Derived.ProofKit
import Derived.Deep.Slices
import Derived.WideShapes
import Derived.OrdersHeld
import Derived.Deep.QuietTactic
import Derived.BigQuiet
import Derived.StillTailTactics
import Derived.OpenShut
import Derived.Deep.DeepCutAuto
import Derived.Laws.CopyRow
import Derived.Laws.MakeOwn
import Derived.Deep.RegionHeld
namespace Go.Proofs.Ytcibihakjcenaaa
open Go.RowKit

def u32v (s : BitVec 32) : Value := .int .u32 (s.toNat : Int)
def tabV (k : Nat) : Array Value := ((List.range 16).map fun i => if i < k then u32v (halves 4 (BitVec.ofNat 32 i)) else .int .u32 0).toArray
theorem tabV_set (n : Nat) (h : n < 16) (v : Value) (hv : v = u32v (halves 4 (BitVec.ofNat 32 n))) : (tabV n).setIfInBounds n v = tabV (n + 1) := by
  subst hv
  apply Array.ext_getElem?
  intro i
  rw [Array.getElem?_setIfInBounds]
  by_cases hi : n = i
  · subst hi
    simp [tabV, h]
  · rw [if_neg hi]
    have : (i < n + 1) = (i < n) := by apply propext; omega
    by_cases h16 : i < 16
    · simp [tabV, h16, this]
    · simp [tabV, h16]
theorem tabV_at (i : Nat) (h : i < 16) : (tabV 16)[i]? = some (u32v (halves 4 (BitVec.ofNat 32 i))) := by simp [tabV, h]
theorem tabV_zero : tabV 0 = #[.int .u32 0, .int .u32 0, .int .u32 0, .int .u32 0, .int .u32 0, .int .u32 0, .int .u32 0, .int .u32 0, .int .u32 0, .int .u32 0, .int .u32 0, .int .u32 0, .int .u32 0, .int .u32 0, .int .u32 0, .int .u32 0] := rfl
theorem tabV_lit : tabV 16 = #[.int .u32 0, .int .u32 498536548, .int .u32 997073096, .int .u32 651767980, .int .u32 1994146192, .int .u32 1802195444, .int .u32 1303535960, .int .u32 1342533948, .int .u32 3988292384, .int .u32 4027552580, .int .u32 3604390888, .int .u32 3412177804, .int .u32 2607071920, .int .u32 2262029012, .int .u32 2685067896, .int .u32 3183342108] := by kernel_rfl
theorem half_nat (s : BitVec 32) : bits BinOp.xor IntKind.u32 ((s.toNat : Int) / 2) (3988292384 * bits BinOp.and IntKind.u32 (s.toNat : Int) 1 % 4294967296) = ((half s).toNat : Int) := by
  have h1 : ((s.toNat : Int) / (2 : Int)) = ((s >>> 1).toNat : Int) := by rw [shr_nat]; omega
  have h2 := and_u32 s 1#32
  have h3 : (s &&& 1#32) = if s.getLsbD 0 then 1#32 else 0#32 := by
    apply BitVec.eq_of_getLsbD_eq
    intro i hi
    cases i with
    | zero => cases h : s.getLsbD 0 <;> simp [h, -BitVec.getLsbD_eq_getElem]
    | succ i => cases h : s.getLsbD 0 <;> simp [BitVec.getLsbD_one]
  have h4 : (3988292384 * bits BinOp.and IntKind.u32 (s.toNat : Int) 1 % 4294967296) = ((if s.getLsbD 0 then 0xedb88320#32 else 0#32 : BitVec 32).toNat : Int) := by
    rw [show (1 : Int) = ((1#32).toNat : Int) by decide, h2, h3]
    cases s.getLsbD 0 <;> decide
  rw [h1, h4, xor_u32]
  rfl

set_option maxHeartbeats 1000000 in
theorem fold_any (w : World) : Calls Try.prog 135 #[] w fun e w' => e = .returned (.agg (tabV 16)) ∧ Below w.heap.size w w' := by
  go_enter Try.func135, Try.ntmps135
  go_wp2
  go_loopw [3] (fun k wr => ∃ n : Nat, n ≤ 16 ∧ k = .int .i64 n ∧ wr = w.alloc (.cells (tabV n) 184)) (fun k _ => 16 - (intOf k).toNat)
  case atStart => exact ⟨0, by omega, rfl, by rw [tabV_zero]⟩
  case round =>
    obtain ⟨n, hn, rfl, rfl⟩ := hrel
    by_cases h : n < 16
    · have hcell : (tabV n)[n]? = some (.int .u32 0) := by simp [tabV, h]
      have htab := fun v hv => tabV_set n h v hv
      have HT := Lib.hid htab
      clear htab
      go_wp2
      go_loop [2, 8] (fun s k => ∃ j : Nat, j ≤ 4 ∧ k = .int .i64 j ∧ s = u32v (halves j (BitVec.ofNat 32 n))) (fun _ k => 4 - (intOf k).toNat)
      case atStart => exact ⟨0, by omega, rfl, by rw [halves, u32v, BitVec.toNat_ofNat, Nat.mod_eq_of_lt (by omega)]⟩
      case round =>
        obtain ⟨j, hj, rfl, hs⟩ := hrel
        unfold u32v at hs
        subst hs
        have hb := (halves j (BitVec.ofNat 32 n)).isLt
        have hf : j < 4 → half (halves j (BitVec.ofNat 32 n)) = halves (j + 1) (BitVec.ofNat 32 n) := fun _ => rfl
        have HF := Lib.hid hf
        have he : j = 4 → halves j (BitVec.ofNat 32 n) = halves 4 (BitVec.ofNat 32 n) := fun h => by rw [h]
        have HE := Lib.hid he
        clear hf he
        generalize halves j (BitVec.ofNat 32 n) = s at *
        by_cases h4 : j < 4
        · go_wp2
          go_round
          case rel => exact ⟨j + 1, by omega, by go_num, by rw [half_nat, HF.out h4]; rfl⟩
          case measure => simp [intOf]; omega
        · go_wp2
          go_roundw
          case rel => exact ⟨n + 1, by omega, by go_num, by rw [HT.out _ (by rw [HE.out (by omega)]; rfl)]⟩
          case measure => simp [intOf]; omega
    · obtain rfl : n = 16 := by omega
      rw [tabV_lit]
      go_wp2
      exact bodyPost_ret (v := .agg #[.int .u32 0, .int .u32 498536548, .int .u32 997073096, .int .u32 651767980, .int .u32 1994146192, .int .u32 1802195444, .int .u32 1303535960, .int .u32 1342533948, .int .u32 3988292384, .int .u32 4027552580, .int .u32 3604390888, .int .u32 3412177804, .int .u32 2607071920, .int .u32 2262029012, .int .u32 2685067896, .int .u32 3183342108]) (by simp [results, Try.results135, go_sem]) rfl ⟨by rw [tabV_lit], (Below.refl _ _).alloc (Nat.le_refl _) _⟩

theorem four_nat (s : BitVec 32) : bits BinOp.xor IntKind.u32 ((s.toNat : Int) / (16 : Int)) ((halves 4 (s &&& 15#32)).toNat : Int) = ((halves 4 s).toNat : Int) := by
  have h1 : ((s.toNat : Int) / (16 : Int)) = ((s >>> 4).toNat : Int) := by rw [shr_nat]; omega
  rw [h1, xor_u32, ← halves_four]
theorem and15 (s : BitVec 32) : ∃ i : Nat, i < 16 ∧ bits BinOp.and IntKind.u32 (s.toNat : Int) 15 = (i : Int) ∧ halves 4 (BitVec.ofNat 32 i) = halves 4 (s &&& 15#32) := by
  have h := and_u32 s 15#32
  refine ⟨(s &&& 15#32).toNat, ?_, h, by rw [BitVec.ofNat_toNat]; simp⟩
  rw [BitVec.toNat_and]
  exact Nat.lt_of_le_of_lt Nat.and_le_right (by decide)

set_option maxHeartbeats 1000000 in
theorem of_any (v : Value) (l : List UInt8) (w : World) (hI : Bytes w 0 w.heap.size v l) : Calls Try.prog 101 #[v] w fun e w' => e = .returned (u32v (crc l)) ∧ Below w.heap.size w w' := by
  obtain ⟨a, c, rfl, g1, g2, g3, _⟩ := id hI
  unfold maxLen at g2
  have hfold := fold_any
  have HF := Lib.hid hfold
  clear hfold
  go_enter Try.func101, Try.ntmps101
  go_wp2_with fail
  refine (HF.out _).mono ?_
  rw [tabV_lit]
  rintro e w1 ⟨rfl, hB⟩
  have hI1 := hI.step hB
  clear g3 hI HF
  go_wp2
  rw [← tabV_lit]
  have hI2 := hI1.step ((Below.refl w1.heap.size w1).alloc (Nat.le_refl _) (.cells (tabV 16) 184))
  obtain ⟨W, hW⟩ : ∃ W, w1.alloc (.cells (tabV 16) 184) = W := ⟨_, rfl⟩
  have htab : ∀ i : Nat, i < 16 → W.cell? ⟨w1.heap.size, i, none⟩ = some (u32v (halves 4 (BitVec.ofNat 32 i))) := fun i hi => by rw [← hW, World.cell?_alloc_new]; exact tabV_at i hi
  have hBW : Below w.heap.size w W := by rw [← hW]; exact hB.alloc hB.size _
  rw [hW] at hI2 ⊢
  generalize w1.heap.size = tb at *
  have HT := Lib.hid htab
  have HI := Lib.hid hI2
  clear hI1 hB hW htab hI2
  go_loop [4, 10] (fun s i => ∃ k : Nat, k ≤ l.length ∧ i = .int .i64 k ∧ s = u32v (crcS (BitVec.allOnes 32) (l.take k))) (fun _ i => l.length - (intOf i).toNat)
  case atStart => exact ⟨0, Nat.zero_le _, rfl, rfl⟩
  case round =>
    obtain ⟨k, hk, rfl, hs⟩ := hrel
    unfold u32v at hs
    subst hs
    by_cases hlt : k < l.length
    · obtain ⟨b, off, c', he, _, hb, _, _, hc⟩ := HI.out.at_ (by omega)
      cases he
      have hx := hc k l[k] (by simp [hlt])
      have hsn : crcS (BitVec.allOnes 32) (l.take (k + 1)) = stepB (crcS (BitVec.allOnes 32) (l.take k)) l[k] := by rw [List.take_succ_eq_append_getElem hlt, crcS_append]; rfl
      have HS := Lib.hid hsn
      clear hsn hc
      generalize crcS (BitVec.allOnes 32) (l.take k) = s at *
      generalize l[k] = x at *
      unfold bV at hx
      have hxl : (x.toNat : Int) < 256 := by have := x.toNat_lt; omega
      have e1 : bits BinOp.xor IntKind.u32 (s.toNat : Int) (x.toNat : Int) = ((s ^^^ b32 x).toNat : Int) := by rw [← b32_nat, xor_u32]
      have hs1 : stepB s x = halves 4 (halves 4 (s ^^^ b32 x)) := stepB_four s x
      have HS1 := Lib.hid hs1
      clear hs1
      generalize s ^^^ b32 x = s1 at *
      obtain ⟨i1, hi1, e2, e3⟩ := and15 s1
      have t1 := HT.out i1 hi1
      have e4 := four_nat s1
      rw [← e3] at e4
      generalize halves 4 (BitVec.ofNat 32 i1) = y1 at *
      generalize halves 4 s1 = s2 at *
      obtain ⟨i2, hi2, e5, e6⟩ := and15 s2
      have t2 := HT.out i2 hi2
      have e7 := four_nat s2
      rw [← e6] at e7
      generalize halves 4 (BitVec.ofNat 32 i2) = y2 at *
      generalize halves 4 s2 = s3 at *
      unfold u32v at t1 t2
      have b1 := s1.isLt
      have b2 := s2.isLt
      clear e3 e6
      go_wp2
      go_round
      case rel => exact ⟨k + 1, by omega, by go_num, by rw [HS.out, HS1.out]; rfl⟩
      case measure => simp [intOf]; omega
    · obtain rfl : k = l.length := by omega
      rw [List.take_length]
      have hfin : u32v (crc l) = .int .u32 (bits BinOp.xor IntKind.u32 IntKind.u32.max ((crcS (BitVec.allOnes 32) l).toNat : Int)) := by
        rw [show IntKind.u32.max = ((BitVec.allOnes 32).toNat : Int) by decide, xor_u32, BitVec.allOnes_xor]
        rfl
      have HFin := Lib.hid hfin
      have hbd := (crcS (BitVec.allOnes 32) l).isLt
      clear hfin
      generalize crcS (BitVec.allOnes 32) l = s at *
      go_wp2
      go_ret
      exact ⟨by rw [HFin.out]; rfl, hBW⟩
end Go.Proofs.Ytcibihakjcenaaa

namespace Go.Proofs.Ytcibihakjcenaaa
open Go.RowKit

set_option maxHeartbeats 1000000 in
/-- slices.Clone. -/
theorem clone_any (v : Value) (l : List UInt8) (w : World) (hI : Bytes w 0 w.heap.size v l) (hl : l.length ≤ 1000000) :
    Calls Try.prog 106 #[v] w fun e w' => ∃ u, e = .returned u ∧ MadeB w w' u l := by
  obtain ⟨a, c, rfl, g1, g2, g3, g4⟩ := id hI
  have hnil := fun (w : World) (a : Option Addr) (n c n' c' : Nat) => Lib.run_eql_slice_nil (P := Try.prog) w 26 5 a n c n' c' Try.underlying26
  cases a with
  | none =>
    have hc := g4 rfl
    subst hc
    have h0 : l = [] := List.eq_nil_of_length_eq_zero (by omega)
    subst h0
    go_enter Try.func106, Try.ntmps106
    go_wp2
    go_ret
    exact ⟨_, rfl, MadeB.nil_ (Below.refl _ _)⟩
  | some ad =>
    clear g3 g4
    have hown : OwnB w.heap.size 5 (w.alloc (.cells #[] 5)) (.slice (some ⟨w.heap.size, 0, none⟩) 0 0) [] := ⟨by simp, .inr ⟨w.heap.size, 0, #[], rfl, Nat.le_refl _, World.alloc_heap_new w _, Nat.le_refl _, Nat.zero_le _, rfl, rfl⟩⟩
    have hb0 := (Below.refl w.heap.size w).alloc (Nat.le_refl _) (.cells #[] 5)
    have hI1 := hI.step hb0
    go_enter Try.func106, Try.ntmps106
    go_wp2_with (at_builtin; refine wpList_appB rfl _ _ 26 rfl w.heap.size 5 Try.underlying26 info_u8 _ [] rfl hown _ _ _ l rfl hI1 (by simp; omega) (by simp) ?_; intro u w1 hown1 hB1)
    go_ret
    exact ⟨_, rfl, hown1.made (hb0.trans hB1)⟩

end Go.Proofs.Ytcibihakjcenaaa

namespace Go.Proofs.Ytcibihakjcenaaa
open Go.RowKit

/-- The last 124 bytes of a sealed block, and the block. -/
def padL (l : List UInt8) : List UInt8 := l ++ List.replicate (124 - l.length) 0
def sealL (l : List UInt8) : List UInt8 := fourL (crc (padL l)).toNat ++ padL l
theorem padL_length (l : List UInt8) (h : l.length ≤ 124) : (padL l).length = 124 := by simp [padL]; omega
theorem fourL_length (n : Nat) : (fourL n).length = 4 := rfl
theorem splice_pad (l : List UInt8) (h : l.length ≤ 124) : splice (List.replicate 124 (0 : UInt8)) 0 (l.take (min l.length 124)) = padL l := by
  rw [Nat.min_eq_left h, List.take_length]
  simp only [splice, padL, List.take_zero, List.nil_append, Nat.zero_add, List.drop_replicate]

set_option maxHeartbeats 1000000 in
theorem seal_yes (v : Value) (l : List UInt8) (w : World) (hI : Bytes w 0 w.heap.size v l) (hl : l.length ≤ 124) :
    Calls Try.prog 56 #[v] w fun e w' => ∃ u, e = .returned (.tuple #[u, .int .i64 0]) ∧ MadeB w w' u (sealL l) := by
  obtain ⟨a, c, rfl, g1, g2, _, _⟩ := id hI
  go_enter Try.func56, Try.ntmps56
  go_wp2_with (first
    | (refine wpList_makeB rfl (.const (.int .i64 124)) (.const (.int .i64 124)) 26 rfl 5 Try.underlying26 info_u8 124 rfl rfl (by omega) ?_; intro w1 hrow hb1)
    | (refine wpList_copyB rfl (.tmp 9) (.tmp 10) 26 26 rfl 5 Try.underlying26 info_u8 w.heap.size 0 124 124 rfl (List.replicate 124 0) hrow _ _ _ l rfl (hI.step hb1) (by rw [List.length_replicate]; omega) w.heap.size (Nat.le_refl _) ?_; intro w2 hrow2 hb2))
  rw [splice_pad l hl] at hrow2
  have hB2 := hb1.trans hb2
  have hp := padL_length l hl
  have hbp : Bytes w2 0 w2.heap.size (.slice (some ⟨w.heap.size, 0, none⟩) 124 124) (padL l) := by
    have := hrow2.bytes (by unfold maxLen; omega)
    rw [hp] at this
    exact this.more (Nat.zero_le _) hrow2.lt
  have hc := of_any _ _ _ hbp
  have hpl := fun k h => concat_any k h
  clear hpl hrow hb1 hb2
  have HL := Lib.hid hp
  have HR := Lib.hid hrow2
  have Hc := Lib.hid hc
  clear hp hrow2 hc
  refine Hc.out.mono ?_
  rintro e w3 ⟨rfl, hb3⟩
  have hlt := (crc (padL l)).isLt
  have hbp3 := hbp.step hb3
  have hB3 := hB2.trans (hb3.mono hB2.size)
  go_wp2_with fail
  refine (four_any _ _ (by omega)).mono ?_
  rintro e w4 ⟨v4, rfl, hm4⟩
  have hbp4 := hbp3.step hm4.below
  have hB4 := hB3.trans (hm4.below.mono hB3.size)
  have hb4 := hm4.bytes.all0
  have HP := Lib.hid (And.intro hbp4 hb4)
  obtain ⟨a4, c4, rfl, _, _, _, _⟩ := id hb4
  clear hbp hbp3 hbp4 hm4 hb4 hb3 hB2 hB3 hI
  have hlast : ∀ t, Calls Try.prog 54 #[.slice (some ⟨w4.heap.size, 0, none⟩) 2 2] (w4.alloc (.cells #[.slice a4 4 c4, .slice (some ⟨w.heap.size, 0, none⟩) 124 124] t))
      fun e w' => ∃ u, e = .returned u ∧ MadeB (w4.alloc (.cells #[.slice a4 4 c4, .slice (some ⟨w.heap.size, 0, none⟩) 124 124] t)) w' u (sealL l) := fun t => by
    have hb := (Below.refl w4.heap.size w4).alloc (Nat.le_refl _) (.cells #[.slice a4 4 c4, .slice (some ⟨w.heap.size, 0, none⟩) 124 124] t)
    have h := concat_any [(.slice a4 4 c4, fourL (crc (padL l)).toNat), (.slice (some ⟨w.heap.size, 0, none⟩) 124 124, padL l)] w4.heap.size 0 2 (w4.alloc (.cells #[.slice a4 4 c4, .slice (some ⟨w.heap.size, 0, none⟩) 124 124] t)) (by simp)
      (fun i p hp => by
        rw [Nat.zero_add, World.cell?_alloc_new]
        match i, hp with
        | 0, hp => cases hp; rfl
        | 1, hp => cases hp; rfl)
      (fun p hp => by
        simp only [List.mem_cons, List.not_mem_nil, or_false] at hp
        rcases hp with rfl | rfl
        · exact HP.out.2.step hb
        · exact HP.out.1.step hb)
      (by simp) (by omega) (by have := HL.out; simp [catL, this, fourL])
    rw [show catL [(.slice a4 4 c4, fourL (crc (padL l)).toNat), (.slice (some ⟨w.heap.size, 0, none⟩) 124 124, padL l)] = sealL l by simp [catL, sealL]] at h
    exact h
  have hl4 : (fourL (crc (padL l)).toNat).length = 4 := rfl
  rw [hl4] at *
  clear hl4
  have HP' := Lib.hid hB4
  go_wp2_with fail
  refine (hlast _).mono ?_
  rintro e w5 ⟨u, rfl, hm5⟩
  go_wp2
  go_ret2
  have hb := (Below.refl w4.heap.size w4).alloc (Nat.le_refl _) (.cells #[.slice a4 4 c4, .slice (some ⟨w.heap.size, 0, none⟩) 124 124] 26)
  exact ⟨u, rfl, hm5.bytes.more (Nat.le_trans hB4.size hb.size) (Nat.le_refl _), hm5.thawed, below_step hB4 hB4.size (below_step hb hb.size hm5.below)⟩

/-- Does a block open? -/
def opensL (l : List UInt8) : Bool := getN l 0 4 == (crc (l.drop 4)).toNat
def openE (l : List UInt8) : Int := if l.length = 128 then (if opensL l then 0 else 8) else 3
def openL (l : List UInt8) : List UInt8 := if openE l = 0 then l.drop 4 else []

set_option maxHeartbeats 1000000 in
theorem open_any (v : Value) (l : List UInt8) (w : World) (hI : Bytes w 0 w.heap.size v l) :
    Calls Try.prog 59 #[v] w fun e w' => ∃ u, e = .returned (.tuple #[u, .int .i64 (openE l)]) ∧ MadeB w w' u (openL l) := by
  by_cases hl : l.length = 128
  · obtain ⟨b, off, c, rfl, g0, g1, g2, g3, g4⟩ := hI.at_ (by omega)
    clear g4
    rw [hl] at g2 hI ⊢
    unfold maxLen at g3
    have hcut := hI.cut 4 124 (c - 4) (by omega) (by omega) (by unfold maxLen; omega)
    rw [List.take_of_length_le (by simp; omega)] at hcut
    have hdl : (l.drop 4).length = 124 := by simp; omega
    have hget := getFour_any _ l 0 w hI
    have hE0 : getE l 0 4 = 0 := if_pos (by simp; omega)
    have hgl := getN_lt l 0 4
    rw [hE0] at hget
    have hc := of_any _ _ _ hcut
    have hcl := fun w1 h => clone_any _ _ w1 (hcut.step (w' := w1) h) (by omega)
    have hof := fun w1 h => of_any _ _ w1 (hcut.step (w' := w1) h)
    have hrel : opensL l = true ↔ (getN l 0 4 : Int) = ((crc (l.drop 4)).toNat : Int) := by simp only [opensL, beq_iff_eq]; omega
    unfold openL openE
    rw [if_pos hl]
    have hlt := (crc (l.drop 4)).isLt
    clear hcut hc hE0 hI
    unfold u32v at hof
    generalize crc (l.drop 4) = C at *
    generalize C.toNat = cn at *
    generalize getN l 0 4 = gn at *
    generalize l.drop 4 = d at *
    have HH := Lib.hid (And.intro hcl hof)
    clear hcl hof
    by_cases ho : opensL l = true
    · rw [hrel] at ho
      rw [if_pos (hrel.2 ho), if_pos rfl]
      obtain rfl : gn = cn := by omega
      clear hrel ho hdl
      go_enter Try.func59, Try.ntmps59
      go_wp2_with fail
      refine hget.mono ?_
      rintro e w1 ⟨rfl, hb1⟩
      go_wp2_with fail
      refine (HH.out.2 w1 hb1).mono ?_
      rintro e w2 ⟨rfl, hb2⟩
      have hb12 := below_step hb1 hb1.size hb2
      go_wp2_with fail
      refine (HH.out.1 w2 hb12).mono ?_
      rintro e w3 ⟨u, rfl, hm⟩
      go_wp2
      go_ret2
      exact ⟨u, rfl, hm.bytes.more hb12.size (Nat.le_refl _), hm.thawed, below_step hb12 hb12.size hm.below⟩
    · have hne : ¬ ((gn : Int) = (cn : Int)) := fun h => ho (hrel.2 h)
      rw [if_neg ho, if_neg (by decide)]
      clear hrel ho hdl
      go_enter Try.func59, Try.ntmps59
      go_wp2_with fail
      refine hget.mono ?_
      rintro e w1 ⟨rfl, hb1⟩
      go_wp2_with fail
      refine (HH.out.2 w1 hb1).mono ?_
      rintro e w2 ⟨rfl, hb2⟩
      go_wp2
      go_ret2
      exact ⟨_, rfl, MadeB.nil_ (below_step hb1 hb1.size hb2)⟩
  · have e1 : openE l = 3 := by simp [openE, hl]
    have e2 : openL l = [] := by simp [openL, e1]
    rw [e1, e2]
    obtain ⟨a, c, rfl, g1, g2, _, _⟩ := id hI
    clear hI e1 e2
    go_enter Try.func59, Try.ntmps59
    go_wp2
    go_ret2
    exact ⟨_, rfl, MadeB.nil_ (Below.refl _ _)⟩
end Go.Proofs.Ytcibihakjcenaaa

namespace Go.Proofs.Ytcibihakjcenaaa
open Go.RowKit

theorem errA_may {d : DiskL} (p : Int) (h : mayD d = true) : errA d p = if p < 0 ∨ 256 ≤ p then 2 else 0 := by
  unfold errA
  rw [if_pos h]
end Go.Proofs.Ytcibihakjcenaaa

namespace Go.Proofs.Ytcibihakjcenaaa
open Go.RowKit

/-- A disk, and where it lies. -/
structure DR (V : World) (lo hi : Nat) (b u : Value) (d : DiskL) : Prop where
  v : DiskV V lo hi b u d
  hi : hi ≤ V.heap.size
theorem DR.step {V V' : World} {lo hi : Nat} {b u : Value} {d : DiskL} (h : DR V lo hi b u d) (hst : Below V.heap.size V V') : DR V' lo hi b u d := ⟨⟨h.v.1.below hst h.hi, h.v.2.below hst h.hi⟩, Nat.le_trans h.hi hst.size⟩
theorem DR.v0 {V : World} {lo hi : Nat} {b u : Value} {d : DiskL} (h : DR V lo hi b u d) : DiskV V 0 V.heap.size b u d := h.v.more (Nat.zero_le _) h.hi
theorem DR.of {V V' : World} {b u : Value} {d : DiskL} (h : MadeD V V' b u d) : DR V' V.heap.size V'.heap.size b u d := ⟨h.disk.v, Nat.le_refl _⟩
structure BR (V : World) (lo hi : Nat) (v : Value) (l : List UInt8) : Prop where
  v : Bytes V lo hi v l
  hi : hi ≤ V.heap.size
theorem BR.step {V V' : World} {lo hi : Nat} {v : Value} {l : List UInt8} (h : BR V lo hi v l) (hst : Below V.heap.size V V') : BR V' lo hi v l := ⟨h.v.below hst h.hi, Nat.le_trans h.hi hst.size⟩
theorem BR.v0 {V : World} {lo hi : Nat} {v : Value} {l : List UInt8} (h : BR V lo hi v l) : Bytes V 0 V.heap.size v l := h.v.more (Nat.zero_le _) h.hi

end Go.Proofs.Ytcibihakjcenaaa

namespace Go.Proofs.Ytcibihakjcenaaa
open Go.RowKit

set_option maxRecDepth 100000 in
set_option maxHeartbeats 1000000 in
/-- The reference's May. -/
theorem rmayd_any (b u : Value) (d : DiskL) (w : World) (h : DiskV w 0 w.heap.size b u d) :
    Calls Try.prog 91 #[.agg #[b, u]] w fun e w' => e = .returned (.bool (mayD d)) ∧ Below w.heap.size w w' := by
  have hB := (Below.refl w.heap.size w).alloc (Nat.le_refl _) (.cells #[b, u] 44)
  have hb := h.1.step hB
  have hu := h.2.step hB
  have hq := World.alloc_heap_new w (.cells #[b, u] 44)
  obtain ⟨ab, cb, rfl, g1, g2, -, -⟩ := h.1
  obtain ⟨au, cu, rfl, g1', g2', -, -⟩ := h.2
  unfold maxLen at g2 g2'
  obtain ⟨bl, wl⟩ := d
  clear h
  simp only at *
  obtain ⟨W, hW⟩ : ∃ W, w.alloc (.cells #[.slice ab bl.length cb, .slice au wl.length cu] 44) = W := ⟨_, rfl⟩
  rw [hW] at hB hb hu hq
  have HM := Lib.hid (show mayD ⟨bl, wl⟩ = (bl.length == 256 && decide (wl.length ≤ 4096) && bl.all (fun b => b.length == 128) && wl.all okW) from rfl)
  generalize mayD ⟨bl, wl⟩ = md at *
  have HQ := Lib.hid (And.intro hq (And.intro hb (And.intro hu (And.intro hW hB))))
  clear hq hb hu hW hB
  go_enter Try.func91, Try.ntmps91
  go_upto_region 1 with (fail)
  rw [HQ.out.2.2.2.1]
  have c0 := blk_cell HQ.out.1 0
  have c1 := blk_cell HQ.out.1 1
  simp at c0 c1
  by_cases h1 : ¬ bl.length = 256
  · have i1 : ¬ (bl.length : Int) = 256 := by omega
    have hm : md = false := by rw [HM.out]; simp [h1]
    subst hm
    go_wp2
    go_ret
    exact ⟨rfl, HQ.out.2.2.2.2⟩
  have hbl : bl.length = 256 := by omega
  clear h1
  by_cases h2 : 4096 < wl.length
  · have i1 : (4096 : Int) < wl.length := by omega
    have hm : md = false := by rw [HM.out]; simp [hbl]; omega
    subst hm
    go_wp2
    go_ret
    exact ⟨rfl, HQ.out.2.2.2.2⟩
  have i2 : decide ((4096 : Int) < wl.length) = false := by simp; omega
  have HM2 := Lib.hid (show md = (bl.all (fun b => b.length == 128) && wl.all okW) by rw [HM.out, hbl]; simp [show wl.length ≤ 4096 by omega])
  clear HM
  have hb := HQ.out.2.1
  obtain ⟨bb, bo, cb', e', -, z1, z2, z3, hbe⟩ := hb.at_ (by omega)
  injection e' with ea _ ec
  subst ea ec
  have HBE := Lib.hid hbe
  unfold maxLen at z3
  clear hbe hb
  rw [hbl] at HQ g1 z2 c0 ⊢
  go_wp2_with fail
  go_loopw [3] (fun i wr => ∃ k : Nat, k ≤ 256 ∧ i = .int .i64 k ∧ wr = W ∧ ∀ j, j < k → (bl.getD j []).length = 128) (fun i _ => 256 - (intOf i).toNat)
  case atStart => exact ⟨0, Nat.zero_le _, rfl, rfl, fun j hj => absurd hj (Nat.not_lt_zero _)⟩
  case round =>
  obtain ⟨k, hk, rfl, rfl, hall⟩ := hrel
  by_cases hlt : k < 256
  · obtain ⟨v, hv, hvb⟩ := HBE.out k (bl.getD k []) (get_l _ _ _ (by omega))
    obtain ⟨av, cv, rfl, -, hcv⟩ := hvb.form rfl
    unfold maxLen at hcv
    have hv' : wr.cell? ⟨bb, bo + k, none⟩ = some (.slice av (bl.getD k []).length cv) := by simpa [rBytes] using hv
    obtain ⟨y, hy⟩ : ∃ y, bl.getD k [] = y := ⟨_, rfl⟩
    rw [hy] at hv'
    have HY := Lib.hid (And.intro hy hall)
    clear hv hvb hy hall
    by_cases h5 : y.length = 128
    · rw [h5] at hv'
      go_wp2
      go_roundw
      case rel => exact ⟨k + 1, by omega, by go_num, trivial, fun j hj => by
        by_cases e : j = k
        · subst e; rw [HY.out.1]; exact h5
        · exact HY.out.2 j (by omega)⟩
      case measure => simp [intOf]; omega
    · have i5 : ¬ (y.length : Int) = 128 := by omega
      have hm : md = false := by
        rw [HM2.out]
        have : bl.all (fun b => b.length == 128) = false := by
          rw [List.all_eq_false]
          refine ⟨y, ?_, by simp [h5]⟩
          rw [← HY.out.1]
          exact List.mem_of_getElem? (get_l _ _ _ (by omega))
        rw [this]; rfl
      subst hm
      go_wp2
      go_ret
      exact ⟨rfl, HQ.out.2.2.2.2⟩
  obtain rfl : k = 256 := by omega
  have hall2 : bl.all (fun b => b.length == 128) = true := by
    rw [List.all_eq_true]
    intro x hx
    obtain ⟨j, hj⟩ := List.mem_iff_getElem?.1 hx
    have hjl : j < bl.length := (List.getElem?_eq_some_iff.1 hj).1
    rw [get_l bl [] j hjl] at hj
    cases hj
    exact beq_iff_eq.2 (hall j (by omega))
  obtain ⟨V, hV⟩ : ∃ V, V = wr := ⟨_, rfl⟩
  subst hV
  have HM3 := Lib.hid (show md = wl.all okW by rw [HM2.out, hall2]; rfl)
  clear HM2 hall hall2 hlt hk HBE i2
  go_wp2_with fail
  go_loopw [4] (fun i wx => ∃ k : Nat, k ≤ wl.length ∧ i = .int .i64 k ∧ wx = V ∧ ∀ j, j < k → okW (wl.getD j ⟨0, []⟩) = true) (fun i _ => wl.length - (intOf i).toNat)
  case atStart => exact ⟨0, Nat.zero_le _, rfl, rfl, fun j hj => absurd hj (Nat.not_lt_zero _)⟩
  case round =>
  obtain ⟨k, hk, rfl, rfl, hall⟩ := hrel
  by_cases hlt : k < wl.length
  · obtain ⟨wb, wo, wc, e', -, y1, y2, y3, hwe⟩ := HQ.out.2.2.1.at_ (by omega)
    injection e' with ea _ ec
    subst ea ec
    unfold maxLen at y3
    obtain ⟨f0, f1, v, f2, f3⟩ := hwe k (wl.getD k ⟨0, []⟩) (get_l _ _ _ hlt)
    obtain ⟨av, cv, rfl, -, hcv⟩ := f3.form rfl
    unfold maxLen at hcv
    obtain ⟨y, hy⟩ : ∃ y, wl.getD k ⟨0, []⟩ = y := ⟨_, rfl⟩
    rw [hy] at f0 f1 f2
    have HY := Lib.hid (And.intro hy hall)
    clear hwe f3 hy hall
    obtain ⟨at_, dt⟩ := y
    simp [rWrite] at f0 f2
    have hokw : okW ⟨at_, dt⟩ = (decide (0 ≤ at_) && decide (at_ < 256) && dt.length == 128) := rfl
    have hfin := Lib.hid HQ.out.2.2.2.2
    have hbad : okW ⟨at_, dt⟩ = false → md = false := fun h => by
      rw [HM3.out, List.all_eq_false]
      refine ⟨⟨at_, dt⟩, ?_, by rw [h]; decide⟩
      rw [← HY.out.1]
      exact List.mem_of_getElem? (get_l _ _ _ hlt)
    have HBD := Lib.hid hbad
    clear hbad
    by_cases a1 : at_ < 0
    · have hm := HBD.out (by rw [hokw]; simp; omega)
      subst hm
      clear hokw
      go_wp2
      go_ret
      exact ⟨rfl, hfin.out⟩
    have d1 : decide (at_ < 0) = false := by simp; omega
    by_cases a2 : 256 ≤ at_
    · have hm := HBD.out (by rw [hokw]; simp; omega)
      subst hm
      clear hokw
      go_wp2
      go_ret
      exact ⟨rfl, hfin.out⟩
    have d2 : decide (256 ≤ at_) = false := by simp; omega
    by_cases a3 : dt.length = 128
    · have HOK := Lib.hid (show okW ⟨at_, dt⟩ = true by rw [hokw]; simp [a3]; omega)
      clear hokw
      go_wp2
      go_roundw
      case rel => exact ⟨k + 1, by omega, by go_num, trivial, fun j hj => by
        by_cases e : j = k
        · subst e; rw [HY.out.1]; exact HOK.out
        · exact HY.out.2 j (by omega)⟩
      case measure => simp [intOf]; omega
    · have i5 : ¬ (dt.length : Int) = 128 := by omega
      have hm := HBD.out (by rw [hokw]; simp [a3])
      subst hm
      clear hokw
      go_wp2
      go_ret
      exact ⟨rfl, hfin.out⟩
  obtain rfl : k = wl.length := by omega
  have hm : md = true := by
    rw [HM3.out, List.all_eq_true]
    intro x hx
    obtain ⟨j, hj⟩ := List.mem_iff_getElem?.1 hx
    have hjl : j < wl.length := (List.getElem?_eq_some_iff.1 hj).1
    rw [get_l wl ⟨0, []⟩ j hjl] at hj
    cases hj
    exact hall j hjl
  subst hm
  have hfin := HQ.out.2.2.2.2
  clear hall
  go_wp2
  go_ret
  exact ⟨rfl, hfin⟩

end Go.Proofs.Ytcibihakjcenaaa

namespace Go.Proofs.Ytcibihakjcenaaa
open Go.RowKit

set_option maxRecDepth 100000 in
set_option maxHeartbeats 1000000 in
/-- The reference's Same. -/
theorem rdsame_any (b u b' u' : Value) (d d' : DiskL) (w : World) (h : DiskV w 0 w.heap.size b u d) (h' : DiskV w 0 w.heap.size b' u' d') :
    Calls Try.prog 47 #[.agg #[b, u], .agg #[b', u']] w fun e w' => e = .returned (.bool (decide (d = d'))) ∧ Below w.heap.size w w' := by
  have hB := ((Below.refl w.heap.size w).alloc (Nat.le_refl _) (.cells #[b, u] 44)).alloc (by simp) (.cells #[b', u'] 44)
  have hq := two_new w (.cells #[b, u] 44) (.cells #[b', u'] 44)
  have hD : DiskV _ 0 _ b u d := h.step hB
  have hD' : DiskV _ 0 _ b' u' d' := h'.step hB
  obtain ⟨ab, cb, rfl, g1, g2, -, -⟩ := h.1
  obtain ⟨au, cu, rfl, g3, g4, -, -⟩ := h.2
  obtain ⟨ab', cb', rfl, g1', g2', -, -⟩ := h'.1
  obtain ⟨au', cu', rfl, g3', g4', -, -⟩ := h'.2
  unfold maxLen at g2 g4 g2' g4'
  clear h h'
  obtain ⟨W, hW⟩ : ∃ W, (w.alloc (.cells #[.slice ab d.blocks.length cb, .slice au d.waits.length cu] 44)).alloc (.cells #[.slice ab' d'.blocks.length cb', .slice au' d'.waits.length cu'] 44) = W := ⟨_, rfl⟩
  rw [hW] at hB hq hD hD'
  obtain ⟨r, hr⟩ : ∃ r, decide (d = d') = r := ⟨_, rfl⟩
  rw [hr]
  have HR := Lib.hid hr
  have HF := Lib.hid (show (d.blocks = d'.blocks → d.waits = d'.waits → d = d') from fun h1 h2 => by cases d; cases d'; simp at h1 h2; rw [h1, h2])
  have HQ := Lib.hid (And.intro hq.1 (And.intro hq.2 (And.intro hD (And.intro hD' hB))))
  have hno : d ≠ d' → r = false := fun h => by rw [← HR.out]; exact decide_eq_false h
  have HNO := Lib.hid hno
  clear hr hq hD hD' hB hno
  have c0 := blk_cell HQ.out.1 0
  have c1 := blk_cell HQ.out.1 1
  have d0 := blk_cell HQ.out.2.1 0
  have d1 := blk_cell HQ.out.2.1 1
  simp at c0 c1 d0 d1
  go_enter Try.func47, Try.ntmps47
  by_cases hl1 : d.blocks.length = d'.blocks.length
  case neg =>
    obtain rfl := HNO.out (fun e => hl1 (by rw [e]))
    have i1 : ¬ (d.blocks.length : Int) = d'.blocks.length := by omega
    go_wp2
    go_ret
    exact ⟨rfl, HQ.out.2.2.2.2⟩
  have i1 : ((d.blocks.length : Int) != d'.blocks.length) = false := by simp; omega
  by_cases hl2 : d.waits.length = d'.waits.length
  case neg =>
    obtain rfl := HNO.out (fun e => hl2 (by rw [e]))
    have i2 : ¬ (d.waits.length : Int) = d'.waits.length := by omega
    have HL1 := Lib.hid hl1
    clear hl1
    go_wp2
    go_ret
    exact ⟨rfl, HQ.out.2.2.2.2⟩
  have i2 : ((d.waits.length : Int) != d'.waits.length) = false := by simp; omega
  have HL1 := Lib.hid hl1
  have HL2 := Lib.hid hl2
  have hle1 : d.blocks.length ≤ d'.blocks.length := by omega
  have hle2 : d.waits.length ≤ d'.waits.length := by omega
  clear hl1 hl2
  go_wp2_with fail
  go_loopw [5] (fun i wr => ∃ k : Nat, k ≤ d.blocks.length ∧ i = .int .i64 k ∧ Below W.heap.size W wr ∧ ∀ j, j < k → d.blocks.getD j [] = d'.blocks.getD j []) (fun i _ => d.blocks.length - (intOf i).toNat)
  case atStart => exact ⟨0, Nat.zero_le _, rfl, Below.refl _ _, fun j hj => absurd hj (Nat.not_lt_zero _)⟩
  case round =>
  obtain ⟨k, hk, rfl, hBr, hall⟩ := hrel
  have c0' := (hBr.cell (p := ⟨w.heap.size, 0, none⟩) (cell_lt' c0)).trans c0
  have c1' := (hBr.cell (p := ⟨w.heap.size, 1, none⟩) (cell_lt' c1)).trans c1
  have d0' := (hBr.cell (p := ⟨w.heap.size + 1, 0, none⟩) (cell_lt' d0)).trans d0
  have d1' := (hBr.cell (p := ⟨w.heap.size + 1, 1, none⟩) (cell_lt' d1)).trans d1
  by_cases hlt : k < d.blocks.length
  · obtain ⟨b1, o1, k1, e1, -, -, -, z1, hb1⟩ := (HQ.out.2.2.1.step hBr).1.at_ (by omega)
    injection e1 with ea _ ec
    subst ea ec
    obtain ⟨b2, o2, k2, e2, -, -, -, z2, hb2⟩ := (HQ.out.2.2.2.1.step hBr).1.at_ (by omega)
    injection e2 with ea _ ec
    subst ea ec
    have hkm : k < d'.blocks.length := by omega
    obtain ⟨x, hx, hxb⟩ := hb1 k (d.blocks.getD k []) (get_l _ _ _ hlt)
    obtain ⟨y, hy, hyb⟩ := hb2 k (d'.blocks.getD k []) (get_l _ _ _ hkm)
    have hx' : wr.cell? ⟨b1, o1 + k, none⟩ = some x := by simpa [rBytes] using hx
    have hy' : wr.cell? ⟨b2, o2 + k, none⟩ = some y := by simpa [rBytes] using hy
    obtain ⟨lx, hlx⟩ : ∃ l, d.blocks.getD k [] = l := ⟨_, rfl⟩
    obtain ⟨ly, hly⟩ : ∃ l, d'.blocks.getD k [] = l := ⟨_, rfl⟩
    rw [hlx] at hxb
    rw [hly] at hyb
    obtain ⟨ax, kx, rfl, -, -⟩ := hxb.form rfl
    obtain ⟨ay, ky, rfl, -, -⟩ := hyb.form rfl
    have v1 := fun nq => cv_of (w := wr.drewN nq) hxb
    have v2 := fun nq => cv_of (w := wr.drewN nq) hyb
    unfold maxLen at z1 z2
    have HP := Lib.hid (And.intro hall (And.intro hBr (And.intro hlx hly)))
    clear hall hBr hlx hly hx hy hxb hyb hb1 hb2 c0 c1 d0 d1
    go_upto_region 6 with (fail)
    go_cut [42] (fun s wx => s = .bool (lx != ly) ∧ Below wr.heap.size wr wx)
    case first =>
      go_quiet (fail)
      go_wp2
      go_meet
      exact ⟨rfl, below_dn _ _ _⟩
    case rest =>
    obtain ⟨rfl, hst⟩ := hcut
    have hBx := below_step HP.out.2.1 HP.out.2.1.size hst
    clear hst
    by_cases he : lx = ly
    · subst he
      have n1 : (lx != lx) = false := by simp
      rw [n1]
      clear n1
      go_wp2
      go_roundw
      case rel => exact ⟨k + 1, by omega, by go_num, hBx, fun j hj => by
        rcases Nat.lt_succ_iff_lt_or_eq.1 hj with hj | rfl
        · exact HP.out.1 j hj
        · rw [HP.out.2.2.1, HP.out.2.2.2]⟩
      case measure => simp [intOf]; omega
    · have n1 : (lx != ly) = true := by simp [he]
      rw [n1]
      obtain rfl := HNO.out (fun e => he (by rw [← HP.out.2.2.1, ← HP.out.2.2.2, e]))
      clear n1
      go_wp2
      go_ret
      exact ⟨rfl, below_step HQ.out.2.2.2.2 HQ.out.2.2.2.2.size hBx⟩
  obtain rfl : k = d.blocks.length := by omega
  have HBL := Lib.hid (ext_getD _ _ [] HL1.out hall)
  clear hall hk hlt c0 c1 d0 d1
  obtain ⟨V, hV⟩ : ∃ V, V = wr := ⟨_, rfl⟩
  subst hV
  have HBV := Lib.hid hBr
  clear hBr
  go_wp2_with fail
  go_loopw [6] (fun i wr => ∃ k : Nat, k ≤ d.waits.length ∧ i = .int .i64 k ∧ Below V.heap.size V wr ∧ ∀ j, j < k → d.waits.getD j ⟨0, []⟩ = d'.waits.getD j ⟨0, []⟩) (fun i _ => d.waits.length - (intOf i).toNat)
  case atStart => exact ⟨0, Nat.zero_le _, rfl, Below.refl _ _, fun j hj => absurd hj (Nat.not_lt_zero _)⟩
  case round =>
  obtain ⟨k, hk, rfl, hBr, hall⟩ := hrel
  replace c0' := (hBr.cell (p := ⟨w.heap.size, 0, none⟩) (cell_lt' c0')).trans c0'
  replace c1' := (hBr.cell (p := ⟨w.heap.size, 1, none⟩) (cell_lt' c1')).trans c1'
  replace d0' := (hBr.cell (p := ⟨w.heap.size + 1, 0, none⟩) (cell_lt' d0')).trans d0'
  replace d1' := (hBr.cell (p := ⟨w.heap.size + 1, 1, none⟩) (cell_lt' d1')).trans d1'
  by_cases hlt : k < d.waits.length
  · obtain ⟨b1, o1, k1, e1, -, -, -, z1, hb1⟩ := ((HQ.out.2.2.1.step HBV.out).step hBr).2.at_ (by omega)
    injection e1 with ea _ ec
    subst ea ec
    obtain ⟨b2, o2, k2, e2, -, -, -, z2, hb2⟩ := ((HQ.out.2.2.2.1.step HBV.out).step hBr).2.at_ (by omega)
    injection e2 with ea _ ec
    subst ea ec
    have hkm : k < d'.waits.length := by omega
    obtain ⟨f0, -, x, f1, hxb⟩ := hb1 k (d.waits.getD k ⟨0, []⟩) (get_l _ _ _ hlt)
    obtain ⟨f0', -, y, f1', hyb⟩ := hb2 k (d'.waits.getD k ⟨0, []⟩) (get_l _ _ _ hkm)
    obtain ⟨X, hX⟩ : ∃ X, d.waits.getD k ⟨0, []⟩ = X := ⟨_, rfl⟩
    obtain ⟨Y, hY⟩ : ∃ Y, d'.waits.getD k ⟨0, []⟩ = Y := ⟨_, rfl⟩
    rw [hX] at f0 hxb
    rw [hY] at f0' hyb
    obtain ⟨px, lx⟩ := X
    obtain ⟨py, ly⟩ := Y
    simp [rWrite] at f0 f1 f0' f1'
    simp only at hxb hyb
    obtain ⟨ax, kx, rfl, -, -⟩ := hxb.form rfl
    obtain ⟨ay, ky, rfl, -, -⟩ := hyb.form rfl
    have v1 := fun nq => cv_of (w := wr.drewN nq) hxb
    have v2 := fun nq => cv_of (w := wr.drewN nq) hyb
    unfold maxLen at z1 z2
    have HP := Lib.hid (And.intro hall (And.intro hBr (And.intro hX hY)))
    clear hall hBr hX hY hxb hyb hb1 hb2
    by_cases hpq : px = py
    case neg =>
      have n1 : (px != py) = true := by simp [hpq]
      have n2 : ¬ px = py := hpq
      obtain rfl := HNO.out (fun e => hpq (by
        have h1 := HP.out.2.2.1
        have h2 := HP.out.2.2.2
        rw [e, h2] at h1
        exact (congrArg WrL.at_ h1).symm))
      go_wp2_with fail
      go_quiet (fail)
      go_wp2
      go_ret
      exact ⟨rfl, (below_step (below_step HQ.out.2.2.2.2 HQ.out.2.2.2.2.size (below_step HBV.out HBV.out.size HP.out.2.1)) (Nat.le_trans HQ.out.2.2.2.2.size (Nat.le_trans HBV.out.size HP.out.2.1.size)) (below_dn _ _ _))⟩
    subst hpq
    have n1 : (px != px) = false := by simp
    go_upto_region 11 with (fail)
    go_cut [79] (fun s wx => s = .bool (lx != ly) ∧ Below wr.heap.size wr wx)
    case first =>
      go_quiet (fail)
      go_wp2
      go_meet
      exact ⟨rfl, below_dn _ _ _⟩
    case rest =>
    obtain ⟨rfl, hst⟩ := hcut
    have hBx := below_step HP.out.2.1 HP.out.2.1.size hst
    clear hst n1
    by_cases he : lx = ly
    · subst he
      have n1 : (lx != lx) = false := by simp
      rw [n1]
      clear n1
      go_wp2
      go_roundw
      case rel => exact ⟨k + 1, by omega, by go_num, hBx, fun j hj => by
        rcases Nat.lt_succ_iff_lt_or_eq.1 hj with hj | rfl
        · exact HP.out.1 j hj
        · rw [HP.out.2.2.1, HP.out.2.2.2]⟩
      case measure => simp [intOf]; omega
    · have n1 : (lx != ly) = true := by simp [he]
      rw [n1]
      obtain rfl := HNO.out (fun e => he (by
        have h1 := HP.out.2.2.1
        have h2 := HP.out.2.2.2
        rw [e, h2] at h1
        exact (congrArg WrL.data h1).symm))
      clear n1
      go_wp2
      go_ret
      exact ⟨rfl, below_step HQ.out.2.2.2.2 HQ.out.2.2.2.2.size (below_step HBV.out HBV.out.size hBx)⟩
  obtain rfl : k = d.waits.length := by omega
  obtain rfl : r = true := by
    rw [← HR.out]
    exact decide_eq_true (HF.out HBL.out (ext_getD _ _ ⟨0, []⟩ HL2.out hall))
  clear hall hk hlt
  go_wp2
  go_ret
  exact ⟨rfl, below_step HQ.out.2.2.2.2 HQ.out.2.2.2.2.size (below_step HBV.out HBV.out.size hBr)⟩

set_option maxRecDepth 100000 in
set_option maxHeartbeats 1000000 in
/-- The reference's Seen: of a disk that may be, at a place inside. -/
theorem rseen_any (b u : Value) (d : DiskL) (pn : Nat) (w : World) (h : DiskV w 0 w.heap.size b u d) (hp : pn < d.blocks.length) :
    Calls Try.prog 132 #[.agg #[b, u], .int .i64 pn] w fun e w' => ∃ v, e = .returned v ∧ Bytes w' 0 w'.heap.size v (seenD d pn) ∧ Below w.heap.size w w' := by
  have hst := (Below.refl w.heap.size w).alloc (Nat.le_refl _) (.cells #[b, u] 44)
  have hD := h.step hst
  have hq := World.alloc_heap_new w (.cells #[b, u] 44)
  obtain ⟨ab, cb, rfl, g1, g2, -, -⟩ := h.1
  obtain ⟨au, cu, rfl, g3, g4, -, -⟩ := h.2
  unfold maxLen at g2 g4
  clear h
  obtain ⟨W, hW⟩ : ∃ W, w.alloc (.cells #[.slice ab d.blocks.length cb, .slice au d.waits.length cu] 44) = W := ⟨_, rfl⟩
  rw [hW] at hst hD hq
  have c0 := blk_cell hq 0
  have c1 := blk_cell hq 1
  simp at c0 c1
  have HQ := Lib.hid (And.intro hD hst)
  clear hD hst hq
  go_enter Try.func132, Try.ntmps132
  go_wp2_with fail
  go_loopw [5] (fun i wr => ∃ k : Nat, k ≤ d.waits.length ∧ i = .int .i64 ((d.waits.length : Int) - 1 - k) ∧ wr = W ∧ ∀ j, d.waits.length ≤ j + k → j < d.waits.length → (d.waits.getD j ⟨0, []⟩).at_ ≠ pn) (fun i _ => (intOf i + 1).toNat)
  case atStart => exact ⟨0, Nat.zero_le _, by simp, rfl, fun j h1 h2 => by omega⟩
  case round =>
  obtain ⟨k, hk, rfl, rfl, hall⟩ := hrel
  by_cases hlt : k < d.waits.length
  · obtain ⟨m, hm, hmk⟩ : ∃ m : Nat, m < d.waits.length ∧ m + 1 + k = d.waits.length := ⟨d.waits.length - 1 - k, by omega, by omega⟩
    rw [show ((d.waits.length : Int) - 1 - (k : Int)) = (m : Int) by omega]
    obtain ⟨b1, o1, k1, e1, -, -, -, z1, hb1⟩ := HQ.out.1.2.at_ (by omega)
    injection e1 with ea _ ec
    subst ea ec
    obtain ⟨f0, -, x, f1, hxb⟩ := hb1 m (d.waits.getD m ⟨0, []⟩) (get_l _ _ _ hm)
    obtain ⟨X, hX⟩ : ∃ X, d.waits.getD m ⟨0, []⟩ = X := ⟨_, rfl⟩
    rw [hX] at f0 hxb
    obtain ⟨px, lx⟩ := X
    simp [rWrite] at f0 f1
    simp only at hxb
    unfold maxLen at z1
    have HP := Lib.hid (And.intro hall (And.intro hX (And.intro hxb hmk)))
    clear hall hX hxb hb1 hmk
    by_cases hpq : px = (pn : Int)
    · have n1 : (px == (pn : Int)) = true := by simp [hpq]
      go_wp2
      go_ret
      refine ⟨x, rfl, ?_, HQ.out.2⟩
      have hs : seenD d pn = lx := by
        unfold seenD
        rw [lastW_at d.waits pn m hm (by rw [HP.out.2.1]; exact hpq) (fun j h1 h2 => HP.out.1 j (by have := HP.out.2.2.2; omega) h2), HP.out.2.1]
      rw [hs]
      exact HP.out.2.2.1
    · have n1 : (px == (pn : Int)) = false := by simp [hpq]
      go_wp2
      go_roundw
      case rel => exact ⟨k + 1, by omega, by have := HP.out.2.2.2; congr 1; omega, trivial, fun j h1 h2 => by
        have hmk := HP.out.2.2.2
        rcases Nat.lt_or_ge m j with h | h
        · exact HP.out.1 j (by omega) h2
        · obtain rfl : j = m := by omega
          rw [HP.out.2.1]
          exact hpq⟩
      case measure => simp [intOf]
  obtain rfl : k = d.waits.length := by omega
  have hs : seenD d pn = d.blocks.getD pn [] := by
    unfold seenD
    rw [lastW_none d.waits pn (fun x hx => by
      obtain ⟨j, hj⟩ := List.mem_iff_getElem?.1 hx
      have hjl := (List.getElem?_eq_some_iff.1 hj).1
      have := hall j (by omega) hjl
      rw [List.getD_eq_getElem?_getD, hj] at this
      exact this)]
    rfl
  have HS := Lib.hid hs
  clear hs hall
  obtain ⟨b1, o1, k1, e1, -, -, -, z1, hb1⟩ := HQ.out.1.1.at_ (by omega)
  injection e1 with ea _ ec
  subst ea ec
  obtain ⟨x, hx, hxb⟩ := hb1 pn (d.blocks.getD pn []) (get_l _ _ _ hp)
  have hx' : wr.cell? ⟨b1, o1 + pn, none⟩ = some x := by simpa [rBytes] using hx
  unfold maxLen at z1
  have HX := Lib.hid hxb
  clear hb1 hx hxb
  go_wp2
  go_ret
  exact ⟨x, rfl, by rw [HS.out]; exact HX.out, HQ.out.2⟩

end Go.Proofs.Ytcibihakjcenaaa

