/- RingApart: the words and contracts, part 11. -/
import Derived.Test.YtcibihakjcenaaaRingApartQ1
import Derived.Test.YtcibihakjcenaaaRingApartQ2
import Derived.Test.YtcibihakjcenaaaRingApartQ3
import Derived.Test.YtcibihakjcenaaaRingApartQ4
import Derived.Test.YtcibihakjcenaaaRingApartQ5
import Derived.Test.YtcibihakjcenaaaRingApartQ6
import Derived.Test.YtcibihakjcenaaaRingApartQ7
import Derived.Test.YtcibihakjcenaaaRingApartQ8
import Derived.Test.YtcibihakjcenaaaRingApartQ9
import Derived.Test.YtcibihakjcenaaaRingApartQ10
import Derived.WalkKit
import Derived.WalkLawsBesides
import Derived.WalkSpells
import Derived.Lib.Hide
import Derived.Laws.Rows
import Derived.Laws.AppendOwnNone
import Derived.Maps.AppendAt
import Derived.RangeFuncNested
import Derived.RangeFuncBound
import Derived.RangeFuncCalls
import Derived.RangeFuncLeaves
import Derived.RangeFuncBox
import Derived.Shelf.Abstract
import Derived.Shelf.RegionOpen
import Derived.OwnWalkIn
import Derived.TacticsInMore
import Derived.LoopNIn
import Derived.LoopIn
import Derived.ProofKit
import Derived.Deep.Slices
import Derived.WideShapes
import Derived.OrdersHeld
import Derived.Deep.QuietTactic
import Derived.BigQuiet
import Derived.StillTailTactics
import Derived.OpenShut
import Derived.Lib.SliceRun
import Derived.Lib.AppendZerosOnto
import Derived.Lib.Walk
import Derived.Deep.LoopGhost
import Derived.Laws.CopyOwn
import Derived.Deep.DeepCutAuto
import Derived.Laws.CopyRow
import Derived.Laws.MakeOwn
import Derived.Deep.RegionHeld
import Derived.KernelRfl
namespace Go.Proofs.Ytcibihakjcenaaa
open Go.RowKit

/-- A row of the call's own that holds writes. -/
def OwnW (base : Nat) (W w : World) (v : Value) (l : List WrL) : Prop := ∃ xs, w.ownsRow base 143 2 v l.length xs ∧ ∀ j x, l[j]? = some x → (xs[j * 2]? = some (.int .i64 x.at_) ∧ (Lit.int .i64 x.at_).wf = true) ∧ ∃ y, xs[j * 2 + 1]? = some y ∧ Bytes W 0 W.heap.size y x.data
theorem OwnW.nil_ (base : Nat) (W w : World) : OwnW base W w (.slice none 0 0) [] := ⟨[], World.ownsRow_nil _ _ _ _, fun j x h => by simp at h⟩
theorem OwnW.sl {base : Nat} {W w : World} {v : Value} {l : List WrL} (h : OwnW base W w v l) (hB : Below W.heap.size W w) : Sl rWrite w 0 w.heap.size v l := by
  obtain ⟨xs, ⟨hl, hrow⟩, hx⟩ := h
  rcases hrow with ⟨rfl, h0⟩ | ⟨g, cap, cur, rfl, hg, hh, h1, h2, h3, h4⟩
  · have : l = [] := List.eq_nil_of_length_eq_zero (by omega)
    subst this
    exact Sl.nil_ _ _ _
  · refine ⟨_, _, rfl, h1, h2, fun _ => ⟨g, 0, rfl, Nat.zero_le _, (Array.getElem?_eq_some_iff.1 hh).1, fun i x hxi => ?_⟩, fun h => by cases h⟩
    have hi : i < l.length := (List.getElem?_eq_some_iff.1 hxi).1
    obtain ⟨⟨e1, e2⟩, y, e3, e4⟩ := hx i x hxi
    have hc : ∀ j u, xs[j]? = some u → w.cell? ⟨g, j, none⟩ = some u := by
      intro j u hj
      rw [blk_cell hh, ← hj, ← h4, List.getElem?_take, if_pos]
      · simp
      · have := (List.getElem?_eq_some_iff.1 hj).1
        rw [hl] at this
        exact this
    refine ⟨?_, e2, y, ?_, (e4.below hB (Nat.le_refl _)).more (Nat.le_refl _) hB.size⟩
    · show w.cell? ⟨g, 0 + i * 2 + 0, none⟩ = _
      rw [Nat.zero_add, Nat.add_zero]
      exact hc _ _ e1
    · show w.cell? ⟨g, 0 + i * 2 + 1, none⟩ = _
      rw [Nat.zero_add]
      exact hc _ _ e3

end Go.Proofs.Ytcibihakjcenaaa

namespace Go.Proofs.Ytcibihakjcenaaa
open Go.RowKit

theorem ext_getD {α : Type} (l m : List α) (d : α) (hl : l.length = m.length) (h : ∀ j, j < l.length → l.getD j d = m.getD j d) : l = m := by
  apply List.ext_getElem? 
  intro j
  rcases Nat.lt_or_ge j l.length with hj | hj
  · rw [get_l l d j hj, get_l m d j (by omega), h j hj]
  · rw [List.getElem?_eq_none hj, List.getElem?_eq_none (by omega)]

end Go.Proofs.Ytcibihakjcenaaa

namespace Go.Proofs.Ytcibihakjcenaaa

def half (s : BitVec 32) : BitVec 32 := (s >>> 1) ^^^ (if s.getLsbD 0 then 0xedb88320#32 else 0#32)
def halves : Nat → BitVec 32 → BitVec 32
  | 0, s => s
  | n + 1, s => half (halves n s)
theorem halves_add (s : BitVec 32) (n : Nat) : ∀ m, halves (n + m) s = halves m (halves n s)
  | 0 => rfl
  | m + 1 => by rw [← Nat.add_assoc, halves, halves_add s n m, halves]

theorem half_xor (a b : BitVec 32) : half (a ^^^ b) = half a ^^^ half b := by
  unfold half
  rw [BitVec.ushiftRight_xor_distrib, BitVec.getLsbD_xor]
  cases ha : a.getLsbD 0 <;> cases hb : b.getLsbD 0
  · simp
  · simp [BitVec.xor_assoc]
  · simp only [Bool.xor_false, if_true, if_false, Bool.false_eq_true, BitVec.xor_zero]
    ac_rfl
  · simp only [Bool.xor_true, Bool.not_true, if_true, if_false, Bool.false_eq_true, BitVec.xor_zero]
    have e : (a >>> 1 ^^^ 3988292384#32) ^^^ (b >>> 1 ^^^ 3988292384#32) = a >>> 1 ^^^ b >>> 1 ^^^ (3988292384#32 ^^^ 3988292384#32) := by ac_rfl
    rw [e]; simp
theorem halves_xor (a b : BitVec 32) : ∀ n, halves n (a ^^^ b) = halves n a ^^^ halves n b
  | 0 => rfl
  | n + 1 => by rw [halves, halves_xor a b n, half_xor]; rfl
/-- What is even is only moved. -/
theorem halves_even (s : BitVec 32) : ∀ n, (∀ i, i < n → s.getLsbD i = false) → halves n s = s >>> n
  | 0, _ => by simp [halves]
  | n + 1, h => by
    rw [halves, halves_even s n (fun i hi => h i (by omega)), half]
    have h0 : (s >>> n).getLsbD 0 = false := by rw [BitVec.getLsbD_ushiftRight]; simpa using h n (by omega)
    rw [h0]
    simp [BitVec.shiftRight_add]
/-- A table of four bits serves. -/
theorem halves_four (s : BitVec 32) : halves 4 s = (s >>> 4) ^^^ halves 4 (s &&& 15#32) := by
  have e : s = (s &&& 0xfffffff0#32) ^^^ (s &&& 15#32) := by
    apply BitVec.eq_of_getLsbD_eq
    intro i hi
    rw [BitVec.getLsbD_xor, BitVec.getLsbD_and, BitVec.getLsbD_and]
    have hk : ∀ k : Fin 32, ((0xfffffff0#32).getLsbD k.val ^^ (15#32).getLsbD k.val) = true := by decide
    have := hk ⟨i, hi⟩
    cases h1 : (0xfffffff0#32).getLsbD i <;> cases h2 : (15#32).getLsbD i <;> simp_all
  have h1 : halves 4 (s &&& 0xfffffff0#32) = (s &&& 0xfffffff0#32) >>> 4 := by
    apply halves_even
    intro i hi
    rw [BitVec.getLsbD_and]
    have : (0xfffffff0#32).getLsbD i = false := by
      match i, hi with
      | 0, _ => decide
      | 1, _ => decide
      | 2, _ => decide
      | 3, _ => decide
    rw [this]; simp
  have h2 : (s &&& 0xfffffff0#32) >>> 4 = s >>> 4 := by
    apply BitVec.eq_of_getLsbD_eq
    intro i hi
    rw [BitVec.getLsbD_ushiftRight, BitVec.getLsbD_ushiftRight, BitVec.getLsbD_and]
    by_cases h : 4 + i < 32
    · have : (0xfffffff0#32).getLsbD (4 + i) = true := by
        have hk : ∀ k : Fin 28, (0xfffffff0#32).getLsbD (4 + k.val) = true := by decide
        exact hk ⟨i, by omega⟩
      rw [this]; simp
    · rw [BitVec.getLsbD_of_ge s (4 + i) (by omega)]; simp
  conv => lhs; rw [e, halves_xor, h1, h2]

def b32 (x : UInt8) : BitVec 32 := BitVec.ofNat 32 x.toNat
def stepB (s : BitVec 32) (x : UInt8) : BitVec 32 := halves 8 (s ^^^ b32 x)
def crcS (s : BitVec 32) (l : List UInt8) : BitVec 32 := l.foldl stepB s
def crc (l : List UInt8) : BitVec 32 := ~~~ (crcS (BitVec.allOnes 32) l)
theorem crcS_append (s : BitVec 32) (a b : List UInt8) : crcS s (a ++ b) = crcS (crcS s a) b := by simp [crcS]
theorem stepB_four (s : BitVec 32) (x : UInt8) : stepB s x = halves 4 (halves 4 (s ^^^ b32 x)) := halves_add _ 4 4
open Go in
theorem xor_u32 (a b : BitVec 32) : bits .xor .u32 (a.toNat : Int) (b.toNat : Int) = ((a ^^^ b).toNat : Int) := by
  simp only [bits, IntKind.bits]
  rw [BitVec.ofInt_natCast, BitVec.ofInt_natCast, BitVec.ofNat_toNat, BitVec.ofNat_toNat]
  simp only [BitVec.setWidth_eq]
  rw [IntKind.wrap_u32]
  have := (a ^^^ b).isLt
  show ((a ^^^ b).toNat : Int) % 4294967296 = _
  omega
open Go in
theorem and_u32 (a b : BitVec 32) : bits .and .u32 (a.toNat : Int) (b.toNat : Int) = ((a &&& b).toNat : Int) := by
  simp only [bits, IntKind.bits]
  rw [BitVec.ofInt_natCast, BitVec.ofInt_natCast, BitVec.ofNat_toNat, BitVec.ofNat_toNat]
  simp only [BitVec.setWidth_eq]
  rw [IntKind.wrap_u32]
  have := (a &&& b).isLt
  show ((a &&& b).toNat : Int) % 4294967296 = _
  omega
theorem b32_nat (x : UInt8) : (b32 x).toNat = x.toNat := by
  have := x.toNat_lt
  simp only [b32, BitVec.toNat_ofNat]
  omega
theorem shr_nat (a : BitVec 32) (n : Nat) : (a >>> n).toNat = a.toNat / 2 ^ n := by rw [BitVec.toNat_ushiftRight, Nat.shiftRight_eq_div_pow]
end Go.Proofs.Ytcibihakjcenaaa

namespace Go.Proofs.Ytcibihakjcenaaa
open Go.RowKit

def u32v (s : BitVec 32) : Value := .int .u32 (s.toNat : Int)
def tabV (k : Nat) : Array Value := ((List.range 16).map fun i => if i < k then u32v (halves 4 (BitVec.ofNat 32 i)) else .int .u32 0).toArray
theorem tabV_set (n : Nat) (h : n < 16) (v : Value) (hv : v = u32v (halves 4 (BitVec.ofNat 32 n))) : (tabV n).setIfInBounds n v = tabV (n + 1) := by
  subst hv
  apply Array.ext_getElem?
  intro i
  rw [Array.getElem?_setIfInBounds]
  by_cases hi : n = i
  · subst hi
    simp [tabV, h]
  · rw [if_neg hi]
    have : (i < n + 1) = (i < n) := by apply propext; omega
    by_cases h16 : i < 16
    · simp [tabV, h16, this]
    · simp [tabV, h16]
theorem tabV_at (i : Nat) (h : i < 16) : (tabV 16)[i]? = some (u32v (halves 4 (BitVec.ofNat 32 i))) := by simp [tabV, h]
theorem tabV_zero : tabV 0 = #[.int .u32 0, .int .u32 0, .int .u32 0, .int .u32 0, .int .u32 0, .int .u32 0, .int .u32 0, .int .u32 0, .int .u32 0, .int .u32 0, .int .u32 0, .int .u32 0, .int .u32 0, .int .u32 0, .int .u32 0, .int .u32 0] := rfl
theorem tabV_lit : tabV 16 = #[.int .u32 0, .int .u32 498536548, .int .u32 997073096, .int .u32 651767980, .int .u32 1994146192, .int .u32 1802195444, .int .u32 1303535960, .int .u32 1342533948, .int .u32 3988292384, .int .u32 4027552580, .int .u32 3604390888, .int .u32 3412177804, .int .u32 2607071920, .int .u32 2262029012, .int .u32 2685067896, .int .u32 3183342108] := by kernel_rfl
theorem half_nat (s : BitVec 32) : bits BinOp.xor IntKind.u32 ((s.toNat : Int) / 2) (3988292384 * bits BinOp.and IntKind.u32 (s.toNat : Int) 1 % 4294967296) = ((half s).toNat : Int) := by
  have h1 : ((s.toNat : Int) / (2 : Int)) = ((s >>> 1).toNat : Int) := by rw [shr_nat]; omega
  have h2 := and_u32 s 1#32
  have h3 : (s &&& 1#32) = if s.getLsbD 0 then 1#32 else 0#32 := by
    apply BitVec.eq_of_getLsbD_eq
    intro i hi
    cases i with
    | zero => cases h : s.getLsbD 0 <;> simp [h, -BitVec.getLsbD_eq_getElem]
    | succ i => cases h : s.getLsbD 0 <;> simp [BitVec.getLsbD_one]
  have h4 : (3988292384 * bits BinOp.and IntKind.u32 (s.toNat : Int) 1 % 4294967296) = ((if s.getLsbD 0 then 0xedb88320#32 else 0#32 : BitVec 32).toNat : Int) := by
    rw [show (1 : Int) = ((1#32).toNat : Int) by decide, h2, h3]
    cases s.getLsbD 0 <;> decide
  rw [h1, h4, xor_u32]
  rfl

set_option maxHeartbeats 1000000 in
theorem fold_any (w : World) : Calls Try.prog 135 #[] w fun e w' => e = .returned (.agg (tabV 16)) ∧ Below w.heap.size w w' := by
  go_enter Try.func135, Try.ntmps135
  go_wp2
  go_loopw [3] (fun k wr => ∃ n : Nat, n ≤ 16 ∧ k = .int .i64 n ∧ wr = w.alloc (.cells (tabV n) 184)) (fun k _ => 16 - (intOf k).toNat)
  case atStart => exact ⟨0, by omega, rfl, by rw [tabV_zero]⟩
  case round =>
    obtain ⟨n, hn, rfl, rfl⟩ := hrel
    by_cases h : n < 16
    · have hcell : (tabV n)[n]? = some (.int .u32 0) := by simp [tabV, h]
      have htab := fun v hv => tabV_set n h v hv
      have HT := Lib.hid htab
      clear htab
      go_wp2
      go_loop [2, 8] (fun s k => ∃ j : Nat, j ≤ 4 ∧ k = .int .i64 j ∧ s = u32v (halves j (BitVec.ofNat 32 n))) (fun _ k => 4 - (intOf k).toNat)
      case atStart => exact ⟨0, by omega, rfl, by rw [halves, u32v, BitVec.toNat_ofNat, Nat.mod_eq_of_lt (by omega)]⟩
      case round =>
        obtain ⟨j, hj, rfl, hs⟩ := hrel
        unfold u32v at hs
        subst hs
        have hb := (halves j (BitVec.ofNat 32 n)).isLt
        have hf : j < 4 → half (halves j (BitVec.ofNat 32 n)) = halves (j + 1) (BitVec.ofNat 32 n) := fun _ => rfl
        have HF := Lib.hid hf
        have he : j = 4 → halves j (BitVec.ofNat 32 n) = halves 4 (BitVec.ofNat 32 n) := fun h => by rw [h]
        have HE := Lib.hid he
        clear hf he
        generalize halves j (BitVec.ofNat 32 n) = s at *
        by_cases h4 : j < 4
        · go_wp2
          go_round
          case rel => exact ⟨j + 1, by omega, by go_num, by rw [half_nat, HF.out h4]; rfl⟩
          case measure => simp [intOf]; omega
        · go_wp2
          go_roundw
          case rel => exact ⟨n + 1, by omega, by go_num, by rw [HT.out _ (by rw [HE.out (by omega)]; rfl)]⟩
          case measure => simp [intOf]; omega
    · obtain rfl : n = 16 := by omega
      rw [tabV_lit]
      go_wp2
      exact bodyPost_ret (v := .agg #[.int .u32 0, .int .u32 498536548, .int .u32 997073096, .int .u32 651767980, .int .u32 1994146192, .int .u32 1802195444, .int .u32 1303535960, .int .u32 1342533948, .int .u32 3988292384, .int .u32 4027552580, .int .u32 3604390888, .int .u32 3412177804, .int .u32 2607071920, .int .u32 2262029012, .int .u32 2685067896, .int .u32 3183342108]) (by simp [results, Try.results135, go_sem]) rfl ⟨by rw [tabV_lit], (Below.refl _ _).alloc (Nat.le_refl _) _⟩

theorem four_nat (s : BitVec 32) : bits BinOp.xor IntKind.u32 ((s.toNat : Int) / (16 : Int)) ((halves 4 (s &&& 15#32)).toNat : Int) = ((halves 4 s).toNat : Int) := by
  have h1 : ((s.toNat : Int) / (16 : Int)) = ((s >>> 4).toNat : Int) := by rw [shr_nat]; omega
  rw [h1, xor_u32, ← halves_four]
theorem and15 (s : BitVec 32) : ∃ i : Nat, i < 16 ∧ bits BinOp.and IntKind.u32 (s.toNat : Int) 15 = (i : Int) ∧ halves 4 (BitVec.ofNat 32 i) = halves 4 (s &&& 15#32) := by
  have h := and_u32 s 15#32
  refine ⟨(s &&& 15#32).toNat, ?_, h, by rw [BitVec.ofNat_toNat]; simp⟩
  rw [BitVec.toNat_and]
  exact Nat.lt_of_le_of_lt Nat.and_le_right (by decide)

set_option maxHeartbeats 1000000 in
theorem of_any (v : Value) (l : List UInt8) (w : World) (hI : Bytes w 0 w.heap.size v l) : Calls Try.prog 101 #[v] w fun e w' => e = .returned (u32v (crc l)) ∧ Below w.heap.size w w' := by
  obtain ⟨a, c, rfl, g1, g2, g3, _⟩ := id hI
  unfold maxLen at g2
  have hfold := fold_any
  have HF := Lib.hid hfold
  clear hfold
  go_enter Try.func101, Try.ntmps101
  go_wp2_with fail
  refine (HF.out _).mono ?_
  rw [tabV_lit]
  rintro e w1 ⟨rfl, hB⟩
  have hI1 := hI.step hB
  clear g3 hI HF
  go_wp2
  rw [← tabV_lit]
  have hI2 := hI1.step ((Below.refl w1.heap.size w1).alloc (Nat.le_refl _) (.cells (tabV 16) 184))
  obtain ⟨W, hW⟩ : ∃ W, w1.alloc (.cells (tabV 16) 184) = W := ⟨_, rfl⟩
  have htab : ∀ i : Nat, i < 16 → W.cell? ⟨w1.heap.size, i, none⟩ = some (u32v (halves 4 (BitVec.ofNat 32 i))) := fun i hi => by rw [← hW, World.cell?_alloc_new]; exact tabV_at i hi
  have hBW : Below w.heap.size w W := by rw [← hW]; exact hB.alloc hB.size _
  rw [hW] at hI2 ⊢
  generalize w1.heap.size = tb at *
  have HT := Lib.hid htab
  have HI := Lib.hid hI2
  clear hI1 hB hW htab hI2
  go_loop [4, 10] (fun s i => ∃ k : Nat, k ≤ l.length ∧ i = .int .i64 k ∧ s = u32v (crcS (BitVec.allOnes 32) (l.take k))) (fun _ i => l.length - (intOf i).toNat)
  case atStart => exact ⟨0, Nat.zero_le _, rfl, rfl⟩
  case round =>
    obtain ⟨k, hk, rfl, hs⟩ := hrel
    unfold u32v at hs
    subst hs
    by_cases hlt : k < l.length
    · obtain ⟨b, off, c', he, _, hb, _, _, hc⟩ := HI.out.at_ (by omega)
      cases he
      have hx := hc k l[k] (by simp [hlt])
      have hsn : crcS (BitVec.allOnes 32) (l.take (k + 1)) = stepB (crcS (BitVec.allOnes 32) (l.take k)) l[k] := by rw [List.take_succ_eq_append_getElem hlt, crcS_append]; rfl
      have HS := Lib.hid hsn
      clear hsn hc
      generalize crcS (BitVec.allOnes 32) (l.take k) = s at *
      generalize l[k] = x at *
      unfold bV at hx
      have hxl : (x.toNat : Int) < 256 := by have := x.toNat_lt; omega
      have e1 : bits BinOp.xor IntKind.u32 (s.toNat : Int) (x.toNat : Int) = ((s ^^^ b32 x).toNat : Int) := by rw [← b32_nat, xor_u32]
      have hs1 : stepB s x = halves 4 (halves 4 (s ^^^ b32 x)) := stepB_four s x
      have HS1 := Lib.hid hs1
      clear hs1
      generalize s ^^^ b32 x = s1 at *
      obtain ⟨i1, hi1, e2, e3⟩ := and15 s1
      have t1 := HT.out i1 hi1
      have e4 := four_nat s1
      rw [← e3] at e4
      generalize halves 4 (BitVec.ofNat 32 i1) = y1 at *
      generalize halves 4 s1 = s2 at *
      obtain ⟨i2, hi2, e5, e6⟩ := and15 s2
      have t2 := HT.out i2 hi2
      have e7 := four_nat s2
      rw [← e6] at e7
      generalize halves 4 (BitVec.ofNat 32 i2) = y2 at *
      generalize halves 4 s2 = s3 at *
      unfold u32v at t1 t2
      have b1 := s1.isLt
      have b2 := s2.isLt
      clear e3 e6
      go_wp2
      go_round
      case rel => exact ⟨k + 1, by omega, by go_num, by rw [HS.out, HS1.out]; rfl⟩
      case measure => simp [intOf]; omega
    · obtain rfl : k = l.length := by omega
      rw [List.take_length]
      have hfin : u32v (crc l) = .int .u32 (bits BinOp.xor IntKind.u32 IntKind.u32.max ((crcS (BitVec.allOnes 32) l).toNat : Int)) := by
        rw [show IntKind.u32.max = ((BitVec.allOnes 32).toNat : Int) by decide, xor_u32, BitVec.allOnes_xor]
        rfl
      have HFin := Lib.hid hfin
      have hbd := (crcS (BitVec.allOnes 32) l).isLt
      clear hfin
      generalize crcS (BitVec.allOnes 32) l = s at *
      go_wp2
      go_ret
      exact ⟨by rw [HFin.out]; rfl, hBW⟩
end Go.Proofs.Ytcibihakjcenaaa

namespace Go.Proofs.Ytcibihakjcenaaa
open Go.RowKit

set_option maxHeartbeats 1000000 in
/-- slices.Clone. -/
theorem clone_any (v : Value) (l : List UInt8) (w : World) (hI : Bytes w 0 w.heap.size v l) (hl : l.length ≤ 1000000) :
    Calls Try.prog 106 #[v] w fun e w' => ∃ u, e = .returned u ∧ MadeB w w' u l := by
  obtain ⟨a, c, rfl, g1, g2, g3, g4⟩ := id hI
  have hnil := fun (w : World) (a : Option Addr) (n c n' c' : Nat) => Lib.run_eql_slice_nil (P := Try.prog) w 26 5 a n c n' c' Try.underlying26
  cases a with
  | none =>
    have hc := g4 rfl
    subst hc
    have h0 : l = [] := List.eq_nil_of_length_eq_zero (by omega)
    subst h0
    go_enter Try.func106, Try.ntmps106
    go_wp2
    go_ret
    exact ⟨_, rfl, MadeB.nil_ (Below.refl _ _)⟩
  | some ad =>
    clear g3 g4
    have hown : OwnB w.heap.size 5 (w.alloc (.cells #[] 5)) (.slice (some ⟨w.heap.size, 0, none⟩) 0 0) [] := ⟨by simp, .inr ⟨w.heap.size, 0, #[], rfl, Nat.le_refl _, World.alloc_heap_new w _, Nat.le_refl _, Nat.zero_le _, rfl, rfl⟩⟩
    have hb0 := (Below.refl w.heap.size w).alloc (Nat.le_refl _) (.cells #[] 5)
    have hI1 := hI.step hb0
    go_enter Try.func106, Try.ntmps106
    go_wp2_with (at_builtin; refine wpList_appB rfl _ _ 26 rfl w.heap.size 5 Try.underlying26 info_u8 _ [] rfl hown _ _ _ l rfl hI1 (by simp; omega) (by simp) ?_; intro u w1 hown1 hB1)
    go_ret
    exact ⟨_, rfl, hown1.made (hb0.trans hB1)⟩

end Go.Proofs.Ytcibihakjcenaaa

namespace Go.Proofs.Ytcibihakjcenaaa
open Go.RowKit

/-- The last 124 bytes of a sealed block, and the block. -/
def padL (l : List UInt8) : List UInt8 := l ++ List.replicate (124 - l.length) 0
def sealL (l : List UInt8) : List UInt8 := fourL (crc (padL l)).toNat ++ padL l
theorem padL_length (l : List UInt8) (h : l.length ≤ 124) : (padL l).length = 124 := by simp [padL]; omega
theorem fourL_length (n : Nat) : (fourL n).length = 4 := rfl
theorem sealL_length (l : List UInt8) (h : l.length ≤ 124) : (sealL l).length = 128 := by simp [sealL, fourL_length, padL_length l h]
theorem splice_pad (l : List UInt8) (h : l.length ≤ 124) : splice (List.replicate 124 (0 : UInt8)) 0 (l.take (min l.length 124)) = padL l := by
  rw [Nat.min_eq_left h, List.take_length]
  simp only [splice, padL, List.take_zero, List.nil_append, Nat.zero_add, List.drop_replicate]

set_option maxHeartbeats 1000000 in
theorem seal_yes (v : Value) (l : List UInt8) (w : World) (hI : Bytes w 0 w.heap.size v l) (hl : l.length ≤ 124) :
    Calls Try.prog 56 #[v] w fun e w' => ∃ u, e = .returned (.tuple #[u, .int .i64 0]) ∧ MadeB w w' u (sealL l) := by
  obtain ⟨a, c, rfl, g1, g2, _, _⟩ := id hI
  go_enter Try.func56, Try.ntmps56
  go_wp2_with (first
    | (refine wpList_makeB rfl (.const (.int .i64 124)) (.const (.int .i64 124)) 26 rfl 5 Try.underlying26 info_u8 124 rfl rfl (by omega) ?_; intro w1 hrow hb1)
    | (refine wpList_copyB rfl (.tmp 9) (.tmp 10) 26 26 rfl 5 Try.underlying26 info_u8 w.heap.size 0 124 124 rfl (List.replicate 124 0) hrow _ _ _ l rfl (hI.step hb1) (by rw [List.length_replicate]; omega) w.heap.size (Nat.le_refl _) ?_; intro w2 hrow2 hb2))
  rw [splice_pad l hl] at hrow2
  have hB2 := hb1.trans hb2
  have hp := padL_length l hl
  have hbp : Bytes w2 0 w2.heap.size (.slice (some ⟨w.heap.size, 0, none⟩) 124 124) (padL l) := by
    have := hrow2.bytes (by unfold maxLen; omega)
    rw [hp] at this
    exact this.more (Nat.zero_le _) hrow2.lt
  have hc := of_any _ _ _ hbp
  have hpl := fun k h => concat_any k h
  clear hpl hrow hb1 hb2
  have HL := Lib.hid hp
  have HR := Lib.hid hrow2
  have Hc := Lib.hid hc
  clear hp hrow2 hc
  refine Hc.out.mono ?_
  rintro e w3 ⟨rfl, hb3⟩
  have hlt := (crc (padL l)).isLt
  have hbp3 := hbp.step hb3
  have hB3 := hB2.trans (hb3.mono hB2.size)
  go_wp2_with fail
  refine (four_any _ _ (by omega)).mono ?_
  rintro e w4 ⟨v4, rfl, hm4⟩
  have hbp4 := hbp3.step hm4.below
  have hB4 := hB3.trans (hm4.below.mono hB3.size)
  have hb4 := hm4.bytes.all0
  have HP := Lib.hid (And.intro hbp4 hb4)
  obtain ⟨a4, c4, rfl, _, _, _, _⟩ := id hb4
  clear hbp hbp3 hbp4 hm4 hb4 hb3 hB2 hB3 hI
  have hlast : ∀ t, Calls Try.prog 54 #[.slice (some ⟨w4.heap.size, 0, none⟩) 2 2] (w4.alloc (.cells #[.slice a4 4 c4, .slice (some ⟨w.heap.size, 0, none⟩) 124 124] t))
      fun e w' => ∃ u, e = .returned u ∧ MadeB (w4.alloc (.cells #[.slice a4 4 c4, .slice (some ⟨w.heap.size, 0, none⟩) 124 124] t)) w' u (sealL l) := fun t => by
    have hb := (Below.refl w4.heap.size w4).alloc (Nat.le_refl _) (.cells #[.slice a4 4 c4, .slice (some ⟨w.heap.size, 0, none⟩) 124 124] t)
    have h := concat_any [(.slice a4 4 c4, fourL (crc (padL l)).toNat), (.slice (some ⟨w.heap.size, 0, none⟩) 124 124, padL l)] w4.heap.size 0 2 (w4.alloc (.cells #[.slice a4 4 c4, .slice (some ⟨w.heap.size, 0, none⟩) 124 124] t)) (by simp)
      (fun i p hp => by
        rw [Nat.zero_add, World.cell?_alloc_new]
        match i, hp with
        | 0, hp => cases hp; rfl
        | 1, hp => cases hp; rfl)
      (fun p hp => by
        simp only [List.mem_cons, List.not_mem_nil, or_false] at hp
        rcases hp with rfl | rfl
        · exact HP.out.2.step hb
        · exact HP.out.1.step hb)
      (by simp) (by omega) (by have := HL.out; simp [catL, this, fourL])
    rw [show catL [(.slice a4 4 c4, fourL (crc (padL l)).toNat), (.slice (some ⟨w.heap.size, 0, none⟩) 124 124, padL l)] = sealL l by simp [catL, sealL]] at h
    exact h
  have hl4 : (fourL (crc (padL l)).toNat).length = 4 := rfl
  rw [hl4] at *
  clear hl4
  have HP' := Lib.hid hB4
  go_wp2_with fail
  refine (hlast _).mono ?_
  rintro e w5 ⟨u, rfl, hm5⟩
  go_wp2
  go_ret2
  have hb := (Below.refl w4.heap.size w4).alloc (Nat.le_refl _) (.cells #[.slice a4 4 c4, .slice (some ⟨w.heap.size, 0, none⟩) 124 124] 26)
  exact ⟨u, rfl, hm5.bytes.more (Nat.le_trans hB4.size hb.size) (Nat.le_refl _), hm5.thawed, below_step hB4 hB4.size (below_step hb hb.size hm5.below)⟩

/-- Does a block open? -/
def opensL (l : List UInt8) : Bool := getN l 0 4 == (crc (l.drop 4)).toNat
def openE (l : List UInt8) : Int := if l.length = 128 then (if opensL l then 0 else 8) else 3
def openL (l : List UInt8) : List UInt8 := if openE l = 0 then l.drop 4 else []

set_option maxHeartbeats 1000000 in
theorem open_any (v : Value) (l : List UInt8) (w : World) (hI : Bytes w 0 w.heap.size v l) :
    Calls Try.prog 59 #[v] w fun e w' => ∃ u, e = .returned (.tuple #[u, .int .i64 (openE l)]) ∧ MadeB w w' u (openL l) := by
  by_cases hl : l.length = 128
  · obtain ⟨b, off, c, rfl, g0, g1, g2, g3, g4⟩ := hI.at_ (by omega)
    clear g4
    rw [hl] at g2 hI ⊢
    unfold maxLen at g3
    have hcut := hI.cut 4 124 (c - 4) (by omega) (by omega) (by unfold maxLen; omega)
    rw [List.take_of_length_le (by simp; omega)] at hcut
    have hdl : (l.drop 4).length = 124 := by simp; omega
    have hget := getFour_any _ l 0 w hI
    have hE0 : getE l 0 4 = 0 := if_pos (by simp; omega)
    have hgl := getN_lt l 0 4
    rw [hE0] at hget
    have hc := of_any _ _ _ hcut
    have hcl := fun w1 h => clone_any _ _ w1 (hcut.step (w' := w1) h) (by omega)
    have hof := fun w1 h => of_any _ _ w1 (hcut.step (w' := w1) h)
    have hrel : opensL l = true ↔ (getN l 0 4 : Int) = ((crc (l.drop 4)).toNat : Int) := by simp only [opensL, beq_iff_eq]; omega
    unfold openL openE
    rw [if_pos hl]
    have hlt := (crc (l.drop 4)).isLt
    clear hcut hc hE0 hI
    unfold u32v at hof
    generalize crc (l.drop 4) = C at *
    generalize C.toNat = cn at *
    generalize getN l 0 4 = gn at *
    generalize l.drop 4 = d at *
    have HH := Lib.hid (And.intro hcl hof)
    clear hcl hof
    by_cases ho : opensL l = true
    · rw [hrel] at ho
      rw [if_pos (hrel.2 ho), if_pos rfl]
      obtain rfl : gn = cn := by omega
      clear hrel ho hdl
      go_enter Try.func59, Try.ntmps59
      go_wp2_with fail
      refine hget.mono ?_
      rintro e w1 ⟨rfl, hb1⟩
      go_wp2_with fail
      refine (HH.out.2 w1 hb1).mono ?_
      rintro e w2 ⟨rfl, hb2⟩
      have hb12 := below_step hb1 hb1.size hb2
      go_wp2_with fail
      refine (HH.out.1 w2 hb12).mono ?_
      rintro e w3 ⟨u, rfl, hm⟩
      go_wp2
      go_ret2
      exact ⟨u, rfl, hm.bytes.more hb12.size (Nat.le_refl _), hm.thawed, below_step hb12 hb12.size hm.below⟩
    · have hne : ¬ ((gn : Int) = (cn : Int)) := fun h => ho (hrel.2 h)
      rw [if_neg ho, if_neg (by decide)]
      clear hrel ho hdl
      go_enter Try.func59, Try.ntmps59
      go_wp2_with fail
      refine hget.mono ?_
      rintro e w1 ⟨rfl, hb1⟩
      go_wp2_with fail
      refine (HH.out.2 w1 hb1).mono ?_
      rintro e w2 ⟨rfl, hb2⟩
      go_wp2
      go_ret2
      exact ⟨_, rfl, MadeB.nil_ (below_step hb1 hb1.size hb2)⟩
  · have e1 : openE l = 3 := by simp [openE, hl]
    have e2 : openL l = [] := by simp [openL, e1]
    rw [e1, e2]
    obtain ⟨a, c, rfl, g1, g2, _, _⟩ := id hI
    clear hI e1 e2
    go_enter Try.func59, Try.ntmps59
    go_wp2
    go_ret2
    exact ⟨_, rfl, MadeB.nil_ (Below.refl _ _)⟩
end Go.Proofs.Ytcibihakjcenaaa

namespace Go.Proofs.Ytcibihakjcenaaa
open Go.RowKit

theorem errA_may {d : DiskL} (p : Int) (h : mayD d = true) : errA d p = if p < 0 ∨ 256 ≤ p then 2 else 0 := by
  unfold errA
  rw [if_pos h]
theorem may_of (bl : List (List UInt8)) (wl : List WrL) (h1 : bl.length = 256) (h2 : wl.length ≤ 4096) (h3 : ∀ x ∈ bl, x.length = 128) (h4 : ∀ x ∈ wl, 0 ≤ x.at_ ∧ x.at_ < 256 ∧ x.data.length = 128) : mayD ⟨bl, wl⟩ = true := by
  unfold mayD okW
  simp only [Bool.and_eq_true, beq_iff_eq, decide_eq_true_eq, List.all_eq_true]
  exact ⟨⟨⟨h1, h2⟩, h3⟩, fun x hx => ⟨⟨(h4 x hx).1, (h4 x hx).2.1⟩, (h4 x hx).2.2⟩⟩
theorem errW_zero {d : DiskL} {p : Int} {l : List UInt8} (h : errW d p l = 0) : mayD d = true ∧ 0 ≤ p ∧ p < 256 ∧ l.length = 128 ∧ d.waits.length < 4096 ∧ errA d p = 0 := by
  unfold errW at h
  split at h
  · rename_i h1; exact absurd h h1
  · rename_i h1
    split at h
    · cases h
    · rename_i h2
      split at h
      · cases h
      · rename_i h3
        have h1' : errA d p = 0 := by
          rcases Decidable.em (errA d p = 0) with e | e
          · exact e
          · exact absurd e h1
        have h4 := errA_zero h1'
        have h5 := may_len h4.1
        have h2' : l.length = 128 := by
          rcases Decidable.em (l.length = 128) with e | e
          · exact e
          · exact absurd e h2
        exact ⟨h4.1, h4.2.1, h4.2.2, h2', by omega, h1'⟩
theorem write_may {d : DiskL} {p : Int} {l : List UInt8} (h : errW d p l = 0) : writeD d p l = ⟨d.blocks, d.waits ++ [⟨p, l⟩]⟩ ∧ mayD (writeD d p l) = true := by
  have e : writeD d p l = ⟨d.blocks, d.waits ++ [⟨p, l⟩]⟩ := by unfold writeD; rw [if_pos h]
  refine ⟨e, ?_⟩
  rw [e]
  obtain ⟨h1, h2, h3, h4, h5, -⟩ := errW_zero h
  obtain ⟨m1, m2, m3, m4⟩ := may_len h1
  refine may_of _ _ m1 (by rw [List.length_append]; simp; omega) m3 (fun x hx => ?_)
  rcases List.mem_append.1 hx with hx | hx
  · exact m4 x hx
  · obtain rfl := List.mem_singleton.1 hx
    exact ⟨h2, h3, h4⟩
end Go.Proofs.Ytcibihakjcenaaa

namespace Go.Proofs.Ytcibihakjcenaaa
open Go.RowKit

theorem errA_same {d e : DiskL} (p : Int) (h : mayD d = true) (h' : mayD e = true) : errA d p = errA e p := by rw [errA_may p h, errA_may p h']
theorem read_write_self {d : DiskL} {p : Int} {l : List UInt8} (h : errW d p l = 0) : readB (writeD d p l) p = l := by
  have hw := write_may h
  have hz := errW_zero h
  unfold readB
  rw [errA_same p hw.2 hz.1, hz.2.2.2.2.2, if_pos rfl, hw.1]
  unfold seenD
  simp only
  rw [lastW_app, if_pos rfl]
theorem read_write_other {d : DiskL} {p q : Int} {l : List UInt8} (h : errW d p l = 0) (hne : q ≠ p) : readB (writeD d p l) q = readB d q := by
  have hw := write_may h
  have hz := errW_zero h
  unfold readB
  rw [errA_same q hw.2 hz.1, hw.1]
  unfold seenD
  simp only
  rw [lastW_app]
  rw [if_neg (c := p = q) (fun e => hne e.symm)]

end Go.Proofs.Ytcibihakjcenaaa

namespace Go.Proofs.Ytcibihakjcenaaa
open Go.RowKit

/-- A disk, and where it lies. -/
structure DR (V : World) (lo hi : Nat) (b u : Value) (d : DiskL) : Prop where
  v : DiskV V lo hi b u d
  hi : hi ≤ V.heap.size
theorem DR.step {V V' : World} {lo hi : Nat} {b u : Value} {d : DiskL} (h : DR V lo hi b u d) (hst : Below V.heap.size V V') : DR V' lo hi b u d := ⟨⟨h.v.1.below hst h.hi, h.v.2.below hst h.hi⟩, Nat.le_trans h.hi hst.size⟩
theorem DR.v0 {V : World} {lo hi : Nat} {b u : Value} {d : DiskL} (h : DR V lo hi b u d) : DiskV V 0 V.heap.size b u d := h.v.more (Nat.zero_le _) h.hi
theorem DR.of {V V' : World} {b u : Value} {d : DiskL} (h : MadeD V V' b u d) : DR V' V.heap.size V'.heap.size b u d := ⟨h.disk.v, Nat.le_refl _⟩
structure BR (V : World) (lo hi : Nat) (v : Value) (l : List UInt8) : Prop where
  v : Bytes V lo hi v l
  hi : hi ≤ V.heap.size
theorem BR.step {V V' : World} {lo hi : Nat} {v : Value} {l : List UInt8} (h : BR V lo hi v l) (hst : Below V.heap.size V V') : BR V' lo hi v l := ⟨h.v.below hst h.hi, Nat.le_trans h.hi hst.size⟩
theorem BR.v0 {V : World} {lo hi : Nat} {v : Value} {l : List UInt8} (h : BR V lo hi v l) : Bytes V 0 V.heap.size v l := h.v.more (Nat.zero_le _) h.hi

end Go.Proofs.Ytcibihakjcenaaa

