/- NodeUnlike: the words and contracts, part 12. -/
import Derived.Test.YtfdogefoodljaaaNodeUnlikeQ1
import Derived.Test.YtfdogefoodljaaaNodeUnlikeQ2
import Derived.Test.YtfdogefoodljaaaNodeUnlikeQ3
import Derived.Test.YtfdogefoodljaaaNodeUnlikeQ6
import Derived.Test.YtfdogefoodljaaaNodeUnlikeQ11
import Derived.WalkKit
import Derived.WalkLawsBesides
import Derived.WalkSpells
import Derived.Lib.Hide
import Derived.Laws.Rows
import Derived.Laws.AppendOwnNone
import Derived.Maps.AppendAt
import Derived.RangeFuncNested
import Derived.RangeFuncBound
import Derived.RangeFuncCalls
import Derived.RangeFuncLeaves
import Derived.RangeFuncBox
import Derived.Shelf.Abstract
import Derived.Shelf.RegionOpen
import Derived.OwnWalkIn
import Derived.TacticsInMore
import Derived.LoopNIn
import Derived.LoopIn
import Derived.KernelRfl
import Derived.Lib.AppendZerosOnto
import Derived.Lib.SliceRun
import Derived.Lib.Walk
import Derived.Deep.LoopGhost
import Derived.Laws.CopyOwn
namespace Go.Proofs.Ytfdogefoodljaaa
open Go.RowKit

def u32v (s : BitVec 32) : Value := .int .u32 (s.toNat : Int)
def tabV (k : Nat) : Array Value := ((List.range 16).map fun i => if i < k then u32v (halves 4 (BitVec.ofNat 32 i)) else .int .u32 0).toArray
theorem tabV_set (n : Nat) (h : n < 16) (v : Value) (hv : v = u32v (halves 4 (BitVec.ofNat 32 n))) : (tabV n).setIfInBounds n v = tabV (n + 1) := by
  subst hv
  apply Array.ext_getElem?
  intro i
  rw [Array.getElem?_setIfInBounds]
  by_cases hi : n = i
  · subst hi
    simp [tabV, h]
  · rw [if_neg hi]
    have : (i < n + 1) = (i < n) := by apply propext; omega
    by_cases h16 : i < 16
    · simp [tabV, h16, this]
    · simp [tabV, h16]
theorem tabV_at (i : Nat) (h : i < 16) : (tabV 16)[i]? = some (u32v (halves 4 (BitVec.ofNat 32 i))) := by simp [tabV, h]
theorem tabV_zero : tabV 0 = #[.int .u32 0, .int .u32 0, .int .u32 0, .int .u32 0, .int .u32 0, .int .u32 0, .int .u32 0, .int .u32 0, .int .u32 0, .int .u32 0, .int .u32 0, .int .u32 0, .int .u32 0, .int .u32 0, .int .u32 0, .int .u32 0] := rfl
theorem tabV_lit : tabV 16 = #[.int .u32 0, .int .u32 498536548, .int .u32 997073096, .int .u32 651767980, .int .u32 1994146192, .int .u32 1802195444, .int .u32 1303535960, .int .u32 1342533948, .int .u32 3988292384, .int .u32 4027552580, .int .u32 3604390888, .int .u32 3412177804, .int .u32 2607071920, .int .u32 2262029012, .int .u32 2685067896, .int .u32 3183342108] := by kernel_rfl
theorem half_nat (s : BitVec 32) : bits BinOp.xor IntKind.u32 ((s.toNat : Int) / 2) (3988292384 * bits BinOp.and IntKind.u32 (s.toNat : Int) 1 % 4294967296) = ((half s).toNat : Int) := by
  have h1 : ((s.toNat : Int) / (2 : Int)) = ((s >>> 1).toNat : Int) := by rw [shr_nat]; omega
  have h2 := and_u32 s 1#32
  have h3 : (s &&& 1#32) = if s.getLsbD 0 then 1#32 else 0#32 := by
    apply BitVec.eq_of_getLsbD_eq
    intro i hi
    cases i with
    | zero => cases h : s.getLsbD 0 <;> simp [h, -BitVec.getLsbD_eq_getElem]
    | succ i => cases h : s.getLsbD 0 <;> simp [BitVec.getLsbD_one]
  have h4 : (3988292384 * bits BinOp.and IntKind.u32 (s.toNat : Int) 1 % 4294967296) = ((if s.getLsbD 0 then 0xedb88320#32 else 0#32 : BitVec 32).toNat : Int) := by
    rw [show (1 : Int) = ((1#32).toNat : Int) by decide, h2, h3]
    cases s.getLsbD 0 <;> decide
  rw [h1, h4, xor_u32]
  rfl

set_option maxHeartbeats 1000000 in
theorem fold_any (w : World) : Calls Try.prog 93 #[] w fun e w' => e = .returned (.agg (tabV 16)) ∧ Below w.heap.size w w' := by
  go_enter Try.func93, Try.ntmps93
  go_wp2
  go_loopw [3] (fun k wr => ∃ n : Nat, n ≤ 16 ∧ k = .int .i64 n ∧ wr = w.alloc (.cells (tabV n) 123)) (fun k _ => 16 - (intOf k).toNat)
  case atStart => exact ⟨0, by omega, rfl, by rw [tabV_zero]⟩
  case round =>
    obtain ⟨n, hn, rfl, rfl⟩ := hrel
    by_cases h : n < 16
    · have hcell : (tabV n)[n]? = some (.int .u32 0) := by simp [tabV, h]
      have htab := fun v hv => tabV_set n h v hv
      have HT := Lib.hid htab
      clear htab
      go_wp2
      go_loop [2, 8] (fun s k => ∃ j : Nat, j ≤ 4 ∧ k = .int .i64 j ∧ s = u32v (halves j (BitVec.ofNat 32 n))) (fun _ k => 4 - (intOf k).toNat)
      case atStart => exact ⟨0, by omega, rfl, by rw [halves, u32v, BitVec.toNat_ofNat, Nat.mod_eq_of_lt (by omega)]⟩
      case round =>
        obtain ⟨j, hj, rfl, hs⟩ := hrel
        unfold u32v at hs
        subst hs
        have hb := (halves j (BitVec.ofNat 32 n)).isLt
        have hf : j < 4 → half (halves j (BitVec.ofNat 32 n)) = halves (j + 1) (BitVec.ofNat 32 n) := fun _ => rfl
        have HF := Lib.hid hf
        have he : j = 4 → halves j (BitVec.ofNat 32 n) = halves 4 (BitVec.ofNat 32 n) := fun h => by rw [h]
        have HE := Lib.hid he
        clear hf he
        generalize halves j (BitVec.ofNat 32 n) = s at *
        by_cases h4 : j < 4
        · go_wp2
          go_round
          case rel => exact ⟨j + 1, by omega, by go_num, by rw [half_nat, HF.out h4]; rfl⟩
          case measure => simp [intOf]; omega
        · go_wp2
          go_roundw
          case rel => exact ⟨n + 1, by omega, by go_num, by rw [HT.out _ (by rw [HE.out (by omega)]; rfl)]⟩
          case measure => simp [intOf]; omega
    · obtain rfl : n = 16 := by omega
      rw [tabV_lit]
      go_wp2
      exact bodyPost_ret (v := .agg #[.int .u32 0, .int .u32 498536548, .int .u32 997073096, .int .u32 651767980, .int .u32 1994146192, .int .u32 1802195444, .int .u32 1303535960, .int .u32 1342533948, .int .u32 3988292384, .int .u32 4027552580, .int .u32 3604390888, .int .u32 3412177804, .int .u32 2607071920, .int .u32 2262029012, .int .u32 2685067896, .int .u32 3183342108]) (by simp [results, Try.results93, go_sem]) rfl ⟨by rw [tabV_lit], (Below.refl _ _).alloc (Nat.le_refl _) _⟩

theorem four_nat (s : BitVec 32) : bits BinOp.xor IntKind.u32 ((s.toNat : Int) / (16 : Int)) ((halves 4 (s &&& 15#32)).toNat : Int) = ((halves 4 s).toNat : Int) := by
  have h1 : ((s.toNat : Int) / (16 : Int)) = ((s >>> 4).toNat : Int) := by rw [shr_nat]; omega
  rw [h1, xor_u32, ← halves_four]
theorem and15 (s : BitVec 32) : ∃ i : Nat, i < 16 ∧ bits BinOp.and IntKind.u32 (s.toNat : Int) 15 = (i : Int) ∧ halves 4 (BitVec.ofNat 32 i) = halves 4 (s &&& 15#32) := by
  have h := and_u32 s 15#32
  refine ⟨(s &&& 15#32).toNat, ?_, h, by rw [BitVec.ofNat_toNat]; simp⟩
  rw [BitVec.toNat_and]
  exact Nat.lt_of_le_of_lt Nat.and_le_right (by decide)

set_option maxHeartbeats 1000000 in
theorem of_any (v : Value) (l : List UInt8) (w : World) (hI : Bytes w 0 w.heap.size v l) : Calls Try.prog 60 #[v] w fun e w' => e = .returned (u32v (crc l)) ∧ Below w.heap.size w w' := by
  obtain ⟨a, c, rfl, g1, g2, g3, _⟩ := id hI
  unfold maxLen at g2
  have hfold := fold_any
  have HF := Lib.hid hfold
  clear hfold
  go_enter Try.func60, Try.ntmps60
  go_wp2_with fail
  refine (HF.out _).mono ?_
  rw [tabV_lit]
  rintro e w1 ⟨rfl, hB⟩
  have hI1 := hI.step hB
  clear g3 hI HF
  go_wp2
  rw [← tabV_lit]
  have hI2 := hI1.step ((Below.refl w1.heap.size w1).alloc (Nat.le_refl _) (.cells (tabV 16) 123))
  obtain ⟨W, hW⟩ : ∃ W, w1.alloc (.cells (tabV 16) 123) = W := ⟨_, rfl⟩
  have htab : ∀ i : Nat, i < 16 → W.cell? ⟨w1.heap.size, i, none⟩ = some (u32v (halves 4 (BitVec.ofNat 32 i))) := fun i hi => by rw [← hW, World.cell?_alloc_new]; exact tabV_at i hi
  have hBW : Below w.heap.size w W := by rw [← hW]; exact hB.alloc hB.size _
  rw [hW] at hI2 ⊢
  generalize w1.heap.size = tb at *
  have HT := Lib.hid htab
  have HI := Lib.hid hI2
  clear hI1 hB hW htab hI2
  go_loop [4, 10] (fun s i => ∃ k : Nat, k ≤ l.length ∧ i = .int .i64 k ∧ s = u32v (crcS (BitVec.allOnes 32) (l.take k))) (fun _ i => l.length - (intOf i).toNat)
  case atStart => exact ⟨0, Nat.zero_le _, rfl, rfl⟩
  case round =>
    obtain ⟨k, hk, rfl, hs⟩ := hrel
    unfold u32v at hs
    subst hs
    by_cases hlt : k < l.length
    · obtain ⟨b, off, c', he, _, hb, _, _, hc⟩ := HI.out.at_ (by omega)
      cases he
      have hx := hc k l[k] (by simp [hlt])
      have hsn : crcS (BitVec.allOnes 32) (l.take (k + 1)) = stepB (crcS (BitVec.allOnes 32) (l.take k)) l[k] := by rw [List.take_succ_eq_append_getElem hlt, crcS_append]; rfl
      have HS := Lib.hid hsn
      clear hsn hc
      generalize crcS (BitVec.allOnes 32) (l.take k) = s at *
      generalize l[k] = x at *
      unfold bV at hx
      have hxl : (x.toNat : Int) < 256 := by have := x.toNat_lt; omega
      have e1 : bits BinOp.xor IntKind.u32 (s.toNat : Int) (x.toNat : Int) = ((s ^^^ b32 x).toNat : Int) := by rw [← b32_nat, xor_u32]
      have hs1 : stepB s x = halves 4 (halves 4 (s ^^^ b32 x)) := stepB_four s x
      have HS1 := Lib.hid hs1
      clear hs1
      generalize s ^^^ b32 x = s1 at *
      obtain ⟨i1, hi1, e2, e3⟩ := and15 s1
      have t1 := HT.out i1 hi1
      have e4 := four_nat s1
      rw [← e3] at e4
      generalize halves 4 (BitVec.ofNat 32 i1) = y1 at *
      generalize halves 4 s1 = s2 at *
      obtain ⟨i2, hi2, e5, e6⟩ := and15 s2
      have t2 := HT.out i2 hi2
      have e7 := four_nat s2
      rw [← e6] at e7
      generalize halves 4 (BitVec.ofNat 32 i2) = y2 at *
      generalize halves 4 s2 = s3 at *
      unfold u32v at t1 t2
      have b1 := s1.isLt
      have b2 := s2.isLt
      clear e3 e6
      go_wp2
      go_round
      case rel => exact ⟨k + 1, by omega, by go_num, by rw [HS.out, HS1.out]; rfl⟩
      case measure => simp [intOf]; omega
    · obtain rfl : k = l.length := by omega
      rw [List.take_length]
      have hfin : u32v (crc l) = .int .u32 (bits BinOp.xor IntKind.u32 IntKind.u32.max ((crcS (BitVec.allOnes 32) l).toNat : Int)) := by
        rw [show IntKind.u32.max = ((BitVec.allOnes 32).toNat : Int) by decide, xor_u32, BitVec.allOnes_xor]
        rfl
      have HFin := Lib.hid hfin
      have hbd := (crcS (BitVec.allOnes 32) l).isLt
      clear hfin
      generalize crcS (BitVec.allOnes 32) l = s at *
      go_wp2
      go_ret
      exact ⟨by rw [HFin.out]; rfl, hBW⟩
end Go.Proofs.Ytfdogefoodljaaa

namespace Go.Proofs.Ytfdogefoodljaaa
open Go.RowKit

set_option maxHeartbeats 1000000 in
/-- slices.Clone. -/
theorem clone_any (v : Value) (l : List UInt8) (w : World) (hI : Bytes w 0 w.heap.size v l) (hl : l.length ≤ 1000000) :
    Calls Try.prog 85 #[v] w fun e w' => ∃ u, e = .returned u ∧ MadeB w w' u l := by
  obtain ⟨a, c, rfl, g1, g2, g3, g4⟩ := id hI
  have hnil := fun (w : World) (a : Option Addr) (n c n' c' : Nat) => Lib.run_eql_slice_nil (P := Try.prog) w 22 5 a n c n' c' Try.underlying22
  cases a with
  | none =>
    have hc := g4 rfl
    subst hc
    have h0 : l = [] := List.eq_nil_of_length_eq_zero (by omega)
    subst h0
    go_enter Try.func85, Try.ntmps85
    go_wp2
    go_ret
    exact ⟨_, rfl, MadeB.nil_ (Below.refl _ _)⟩
  | some ad =>
    clear g3 g4
    have hown : OwnB w.heap.size 5 (w.alloc (.cells #[] 5)) (.slice (some ⟨w.heap.size, 0, none⟩) 0 0) [] := ⟨by simp, .inr ⟨w.heap.size, 0, #[], rfl, Nat.le_refl _, World.alloc_heap_new w _, Nat.le_refl _, Nat.zero_le _, rfl, rfl⟩⟩
    have hb0 := (Below.refl w.heap.size w).alloc (Nat.le_refl _) (.cells #[] 5)
    have hI1 := hI.step hb0
    go_enter Try.func85, Try.ntmps85
    go_wp2_with (at_builtin; refine wpList_appB rfl _ _ 22 rfl w.heap.size 5 Try.underlying22 info_u8 _ [] rfl hown _ _ _ l rfl hI1 (by simp; omega) (by simp) ?_; intro u w1 hown1 hB1)
    go_ret
    exact ⟨_, rfl, hown1.made (hb0.trans hB1)⟩

end Go.Proofs.Ytfdogefoodljaaa

namespace Go.Proofs.Ytfdogefoodljaaa
open Go.RowKit

/-- The last 124 bytes of a sealed block, and the block. -/
def padL (l : List UInt8) : List UInt8 := l ++ List.replicate (124 - l.length) 0
def sealL (l : List UInt8) : List UInt8 := fourL (crc (padL l)).toNat ++ padL l
theorem padL_length (l : List UInt8) (h : l.length ≤ 124) : (padL l).length = 124 := by simp [padL]; omega
theorem fourL_length (n : Nat) : (fourL n).length = 4 := rfl
theorem sealL_length (l : List UInt8) (h : l.length ≤ 124) : (sealL l).length = 128 := by simp [sealL, fourL_length, padL_length l h]
theorem splice_pad (l : List UInt8) (h : l.length ≤ 124) : splice (List.replicate 124 (0 : UInt8)) 0 (l.take (min l.length 124)) = padL l := by
  rw [Nat.min_eq_left h, List.take_length]
  simp only [splice, padL, List.take_zero, List.nil_append, Nat.zero_add, List.drop_replicate]

set_option maxHeartbeats 1000000 in
theorem seal_yes (v : Value) (l : List UInt8) (w : World) (hI : Bytes w 0 w.heap.size v l) (hl : l.length ≤ 124) :
    Calls Try.prog 66 #[v] w fun e w' => ∃ u, e = .returned (.tuple #[u, .int .i64 0]) ∧ MadeB w w' u (sealL l) := by
  obtain ⟨a, c, rfl, g1, g2, _, _⟩ := id hI
  go_enter Try.func66, Try.ntmps66
  go_wp2_with (first
    | (refine wpList_makeB rfl (.const (.int .i64 124)) (.const (.int .i64 124)) 22 rfl 5 Try.underlying22 info_u8 124 rfl rfl (by omega) ?_; intro w1 hrow hb1)
    | (refine wpList_copyB rfl (.tmp 9) (.tmp 10) 22 22 rfl 5 Try.underlying22 info_u8 w.heap.size 0 124 124 rfl (List.replicate 124 0) hrow _ _ _ l rfl (hI.step hb1) (by rw [List.length_replicate]; omega) w.heap.size (Nat.le_refl _) ?_; intro w2 hrow2 hb2))
  rw [splice_pad l hl] at hrow2
  have hB2 := hb1.trans hb2
  have hp := padL_length l hl
  have hbp : Bytes w2 0 w2.heap.size (.slice (some ⟨w.heap.size, 0, none⟩) 124 124) (padL l) := by
    have := hrow2.bytes (by unfold maxLen; omega)
    rw [hp] at this
    exact this.more (Nat.zero_le _) hrow2.lt
  have hc := of_any _ _ _ hbp
  have hpl := fun k h => concat_any k h
  clear hpl hrow hb1 hb2
  have HL := Lib.hid hp
  have HR := Lib.hid hrow2
  have Hc := Lib.hid hc
  clear hp hrow2 hc
  refine Hc.out.mono ?_
  rintro e w3 ⟨rfl, hb3⟩
  have hlt := (crc (padL l)).isLt
  have hbp3 := hbp.step hb3
  have hB3 := hB2.trans (hb3.mono hB2.size)
  go_wp2_with fail
  refine (four_any _ _ (by omega)).mono ?_
  rintro e w4 ⟨v4, rfl, hm4⟩
  have hbp4 := hbp3.step hm4.below
  have hB4 := hB3.trans (hm4.below.mono hB3.size)
  have hb4 := hm4.bytes.all0
  have HP := Lib.hid (And.intro hbp4 hb4)
  obtain ⟨a4, c4, rfl, _, _, _, _⟩ := id hb4
  clear hbp hbp3 hbp4 hm4 hb4 hb3 hB2 hB3 hI
  have hlast : ∀ t, Calls Try.prog 57 #[.slice (some ⟨w4.heap.size, 0, none⟩) 2 2] (w4.alloc (.cells #[.slice a4 4 c4, .slice (some ⟨w.heap.size, 0, none⟩) 124 124] t))
      fun e w' => ∃ u, e = .returned u ∧ MadeB (w4.alloc (.cells #[.slice a4 4 c4, .slice (some ⟨w.heap.size, 0, none⟩) 124 124] t)) w' u (sealL l) := fun t => by
    have hb := (Below.refl w4.heap.size w4).alloc (Nat.le_refl _) (.cells #[.slice a4 4 c4, .slice (some ⟨w.heap.size, 0, none⟩) 124 124] t)
    have h := concat_any [(.slice a4 4 c4, fourL (crc (padL l)).toNat), (.slice (some ⟨w.heap.size, 0, none⟩) 124 124, padL l)] w4.heap.size 0 2 (w4.alloc (.cells #[.slice a4 4 c4, .slice (some ⟨w.heap.size, 0, none⟩) 124 124] t)) (by simp)
      (fun i p hp => by
        rw [Nat.zero_add, World.cell?_alloc_new]
        match i, hp with
        | 0, hp => cases hp; rfl
        | 1, hp => cases hp; rfl)
      (fun p hp => by
        simp only [List.mem_cons, List.not_mem_nil, or_false] at hp
        rcases hp with rfl | rfl
        · exact HP.out.2.step hb
        · exact HP.out.1.step hb)
      (by simp) (by omega) (by have := HL.out; simp [catL, this, fourL])
    rw [show catL [(.slice a4 4 c4, fourL (crc (padL l)).toNat), (.slice (some ⟨w.heap.size, 0, none⟩) 124 124, padL l)] = sealL l by simp [catL, sealL]] at h
    exact h
  have hl4 : (fourL (crc (padL l)).toNat).length = 4 := rfl
  rw [hl4] at *
  clear hl4
  have HP' := Lib.hid hB4
  go_wp2_with fail
  refine (hlast _).mono ?_
  rintro e w5 ⟨u, rfl, hm5⟩
  go_wp2
  go_ret2
  have hb := (Below.refl w4.heap.size w4).alloc (Nat.le_refl _) (.cells #[.slice a4 4 c4, .slice (some ⟨w.heap.size, 0, none⟩) 124 124] 22)
  exact ⟨u, rfl, hm5.bytes.more (Nat.le_trans hB4.size hb.size) (Nat.le_refl _), hm5.thawed, below_step hB4 hB4.size (below_step hb hb.size hm5.below)⟩

/-- Does a block open? -/
def opensL (l : List UInt8) : Bool := getN l 0 4 == (crc (l.drop 4)).toNat
def openE (l : List UInt8) : Int := if l.length = 128 then (if opensL l then 0 else 8) else 3
def openL (l : List UInt8) : List UInt8 := if openE l = 0 then l.drop 4 else []

set_option maxHeartbeats 1000000 in
theorem open_any (v : Value) (l : List UInt8) (w : World) (hI : Bytes w 0 w.heap.size v l) :
    Calls Try.prog 67 #[v] w fun e w' => ∃ u, e = .returned (.tuple #[u, .int .i64 (openE l)]) ∧ MadeB w w' u (openL l) := by
  by_cases hl : l.length = 128
  · obtain ⟨b, off, c, rfl, g0, g1, g2, g3, g4⟩ := hI.at_ (by omega)
    clear g4
    rw [hl] at g2 hI ⊢
    unfold maxLen at g3
    have hcut := hI.cut 4 124 (c - 4) (by omega) (by omega) (by unfold maxLen; omega)
    rw [List.take_of_length_le (by simp; omega)] at hcut
    have hdl : (l.drop 4).length = 124 := by simp; omega
    have hget := getFour_any _ l 0 w hI
    have hE0 : getE l 0 4 = 0 := if_pos (by simp; omega)
    have hgl := getN_lt l 0 4
    rw [hE0] at hget
    have hc := of_any _ _ _ hcut
    have hcl := fun w1 h => clone_any _ _ w1 (hcut.step (w' := w1) h) (by omega)
    have hof := fun w1 h => of_any _ _ w1 (hcut.step (w' := w1) h)
    have hrel : opensL l = true ↔ (getN l 0 4 : Int) = ((crc (l.drop 4)).toNat : Int) := by simp only [opensL, beq_iff_eq]; omega
    unfold openL openE
    rw [if_pos hl]
    have hlt := (crc (l.drop 4)).isLt
    clear hcut hc hE0 hI
    unfold u32v at hof
    generalize crc (l.drop 4) = C at *
    generalize C.toNat = cn at *
    generalize getN l 0 4 = gn at *
    generalize l.drop 4 = d at *
    have HH := Lib.hid (And.intro hcl hof)
    clear hcl hof
    by_cases ho : opensL l = true
    · rw [hrel] at ho
      rw [if_pos (hrel.2 ho), if_pos rfl]
      obtain rfl : gn = cn := by omega
      clear hrel ho hdl
      go_enter Try.func67, Try.ntmps67
      go_wp2_with fail
      refine hget.mono ?_
      rintro e w1 ⟨rfl, hb1⟩
      go_wp2_with fail
      refine (HH.out.2 w1 hb1).mono ?_
      rintro e w2 ⟨rfl, hb2⟩
      have hb12 := below_step hb1 hb1.size hb2
      go_wp2_with fail
      refine (HH.out.1 w2 hb12).mono ?_
      rintro e w3 ⟨u, rfl, hm⟩
      go_wp2
      go_ret2
      exact ⟨u, rfl, hm.bytes.more hb12.size (Nat.le_refl _), hm.thawed, below_step hb12 hb12.size hm.below⟩
    · have hne : ¬ ((gn : Int) = (cn : Int)) := fun h => ho (hrel.2 h)
      rw [if_neg ho, if_neg (by decide)]
      clear hrel ho hdl
      go_enter Try.func67, Try.ntmps67
      go_wp2_with fail
      refine hget.mono ?_
      rintro e w1 ⟨rfl, hb1⟩
      go_wp2_with fail
      refine (HH.out.2 w1 hb1).mono ?_
      rintro e w2 ⟨rfl, hb2⟩
      go_wp2
      go_ret2
      exact ⟨_, rfl, MadeB.nil_ (below_step hb1 hb1.size hb2)⟩
  · have e1 : openE l = 3 := by simp [openE, hl]
    have e2 : openL l = [] := by simp [openL, e1]
    rw [e1, e2]
    obtain ⟨a, c, rfl, g1, g2, _, _⟩ := id hI
    clear hI e1 e2
    go_enter Try.func67, Try.ntmps67
    go_wp2
    go_ret2
    exact ⟨_, rfl, MadeB.nil_ (Below.refl _ _)⟩
end Go.Proofs.Ytfdogefoodljaaa

