/- RingCodes: the words and contracts, part 9. -/
import Derived.Test.YtcibihakjcenaaaRingCodesQ1
import Derived.Test.YtcibihakjcenaaaRingCodesQ2
import Derived.Test.YtcibihakjcenaaaRingCodesQ3
import Derived.Test.YtcibihakjcenaaaRingCodesQ4
import Derived.Test.YtcibihakjcenaaaRingCodesQ6
import Derived.Test.YtcibihakjcenaaaRingCodesQ7
import Derived.Test.YtcibihakjcenaaaRingCodesQ8
import Derived.WalkKit
import Derived.WalkLawsBesides
import Derived.WalkSpells
import Derived.Lib.Hide
import Derived.Laws.Rows
import Derived.Laws.AppendOwnNone
import Derived.Maps.AppendAt
import Derived.RangeFuncNested
import Derived.RangeFuncBound
import Derived.RangeFuncCalls
import Derived.RangeFuncLeaves
import Derived.RangeFuncBox
import Derived.Shelf.Abstract
import Derived.Shelf.RegionOpen
import Derived.OwnWalkIn
import Derived.TacticsInMore
import Derived.LoopNIn
import Derived.LoopIn
import Derived.ProofKit
import Derived.Deep.Slices
import Derived.WideShapes
import Derived.OrdersHeld
import Derived.Deep.QuietTactic
import Derived.BigQuiet
import Derived.StillTailTactics
import Derived.OpenShut
import Derived.Lib.SliceRun
import Derived.Lib.AppendZerosOnto
import Derived.Lib.Walk
import Derived.Deep.LoopGhost
import Derived.Laws.CopyOwn
import Derived.Deep.DeepCutAuto
import Derived.Laws.CopyRow
import Derived.Laws.MakeOwn
import Derived.Deep.RegionHeld
import Derived.KernelRfl
namespace Go.Proofs.Ytcibihakjcenaaa
open Go.RowKit

theorem TwinAt.bytes {B : Nat} {w : World} {gb gw g : Nat} {cur : Array Value} {d : DiskL} (h : TwinAt B w gb gw g cur d) (hT : (datD d).flatten.length ≤ 100000000) (j o : Nat) (hj : j < (datD d).length) (ho : 0 < ((datD d).getD j []).length → o = posD (datD d) j) :
    Bytes w g (g + 1) (.slice (some ⟨g, o, none⟩) ((datD d).getD j []).length ((datD d).getD j []).length) ((datD d).getD j []) ∧ Thawed w (.slice (some ⟨g, o, none⟩) ((datD d).getD j []).length ((datD d).getD j []).length) := by
  refine ⟨?_, fun b off m c he i _ => by cases he; exact h.row.frozen _⟩
  have hle : ((datD d).getD j []).length ≤ maxLen := by
    have := posD_succ (datD d) j hj
    have := posD_le (datD d) (j + 1)
    unfold maxLen
    omega
  refine ⟨_, _, rfl, Nat.le_refl _, hle, fun hp => ⟨g, o, rfl, Nat.le_refl _, Nat.lt_succ_self _, fun i x hx => ?_⟩, fun h => by cases h⟩
  rw [h.row.cell, ho hp]
  have hc := cut_laid (datD d) j hj
  rw [← hc, List.getElem?_take] at hx
  split at hx
  · rw [List.getElem?_drop] at hx
    rw [hx]; rfl
  · cases hx
theorem TwinAt.bl' {B : Nat} {w : World} {gb gw g : Nat} {cur : Array Value} {d : DiskL} (h : TwinAt B w gb gw g cur d) (hT : (datD d).flatten.length ≤ 100000000) (hn : d.blocks.length ≤ 100000) :
    Sl rBytesT w B w.heap.size (.slice (some ⟨gb, 0, none⟩) d.blocks.length d.blocks.length) d.blocks := by
  refine ⟨_, _, rfl, Nat.le_refl _, by unfold maxLen; omega, fun hp => ⟨gb, 0, rfl, h.lo.2.1, h.hi.2.1, fun i x hx => ?_⟩, fun h => by cases h⟩
  have hi : i < d.blocks.length := (List.getElem?_eq_some_iff.1 hx).1
  rw [get_l d.blocks [] i hi] at hx
  cases hx
  obtain ⟨o, h1, h2⟩ := h.bl i hi
  have hb := h.bytes hT i o (by rw [datD_length]; omega) (by rw [datD_b d i hi]; exact h2)
  rw [datD_b d i hi] at hb
  exact ⟨_, by simpa [rBytesT] using h1, hb.1.more h.lo.1 h.hi.1, hb.2⟩
theorem TwinAt.wt' {B : Nat} {w : World} {gb gw g : Nat} {cur : Array Value} {d : DiskL} (h : TwinAt B w gb gw g cur d) (hT : (datD d).flatten.length ≤ 100000000) (i : Nat) (hi : i < d.waits.length) :
    cur[i * 2]? = some (.int .i64 (d.waits.getD i ⟨0, []⟩).at_) ∧ ∃ v, cur[i * 2 + 1]? = some v ∧ Bytes w g (g + 1) v (d.waits.getD i ⟨0, []⟩).data ∧ Thawed w v := by
  obtain ⟨h0, o, h1, h2⟩ := h.wt i hi
  have hb := h.bytes hT (d.blocks.length + i) o (by rw [datD_length]; omega) (by rw [datD_w d i hi]; exact h2)
  rw [datD_w d i hi] at hb
  exact ⟨h0, _, h1, hb⟩
theorem TwinAt.disk {B : Nat} {w : World} {gb gw g : Nat} {cur : Array Value} {d : DiskL} (h : TwinAt B w gb gw g cur d) (hT : (datD d).flatten.length ≤ 100000000) (hn : d.blocks.length ≤ 100000) (hn2 : d.waits.length ≤ 100000) :
    DiskT w B w.heap.size (.slice (some ⟨gb, 0, none⟩) d.blocks.length d.blocks.length) (.slice (some ⟨gw, 0, none⟩) d.waits.length (d.waits.length + 1)) d := by
  refine ⟨h.bl' hT hn, _, _, rfl, Nat.le_succ _, by unfold maxLen; omega, fun hp => ⟨gw, 0, rfl, h.lo.2.2, h.hi.2.2, fun i x hx => ?_⟩, fun h => by cases h⟩
  have hi : i < d.waits.length := (List.getElem?_eq_some_iff.1 hx).1
  rw [get_l d.waits ⟨0, []⟩ i hi] at hx
  cases hx
  obtain ⟨h0, v, h1, h2, h3⟩ := h.wt' hT i hi
  refine ⟨?_, h.wf i hi, v, ?_, h2.more h.lo.1 h.hi.1, h3⟩
  · show w.cell? ⟨gw, 0 + i * 2 + 0, none⟩ = _
    rw [blk_cell h.wcur, Nat.zero_add, Nat.add_zero]
    exact h0
  · show w.cell? ⟨gw, 0 + i * 2 + 1, none⟩ = _
    rw [blk_cell h.wcur, Nat.zero_add]
    exact h1
end Go.Proofs.Ytcibihakjcenaaa

namespace Go.Proofs.Ytcibihakjcenaaa
open Go.RowKit Go.Shelf
attribute [local go_sem] Oper.semAt_some

/-- What is in cells stays. -/
def CK (W W' : World) : Prop := W.heap.size ≤ W'.heap.size ∧ ∀ a v, W.cell? a = some v → W'.cell? a = some v ∧ W'.frozen? a = W.frozen? a
theorem CK.refl (W : World) : CK W W := ⟨Nat.le_refl _, fun _ _ h => ⟨h, rfl⟩⟩
theorem CK.bytes {W W' : World} (h : CK W W') {lo hi : Nat} {v : Value} {l : List UInt8} (hb : Bytes W lo hi v l) : Bytes W' lo hi v l := by
  obtain ⟨a, c, e, h1, h2, h3, h4⟩ := hb
  refine ⟨a, c, e, h1, h2, fun hp => ?_, h4⟩
  obtain ⟨b, off, ea, hlo, hhi, hc⟩ := h3 hp
  exact ⟨b, off, ea, hlo, hhi, fun i x hx => (h.2 _ _ (hc i x hx)).1⟩
theorem CK.thawed {W W' : World} (h : CK W W') {lo hi : Nat} {v : Value} {l : List UInt8} (hb : Bytes W lo hi v l) (ht : Thawed W v) : Thawed W' v := by
  intro b off n c e i hi'
  obtain ⟨a, c', e', h1, h2, h3, h4⟩ := hb
  subst e
  cases e'
  obtain ⟨b', off', ea, hlo, hhi, hc⟩ := h3 (by omega)
  cases ea
  have := hc i (l[i]'hi') (by simp)
  exact (h.2 _ _ this).2.trans (ht _ _ _ _ rfl i hi')
end Go.Proofs.Ytcibihakjcenaaa

namespace Go.Proofs.Ytcibihakjcenaaa
open Go.RowKit

theorem DiskT.keep {w w' : World} {lo hi : Nat} {b u : Value} {d : DiskL} (h : DiskT w lo hi b u d) (hk : Kp lo hi w w') : DiskT w' lo hi b u d := ⟨Sl.keep h.1 hk, Sl.keep h.2 hk⟩

end Go.Proofs.Ytcibihakjcenaaa

namespace Go.Proofs.Ytcibihakjcenaaa
open Go.RowKit

/-- A row of the call's own that holds writes. -/
def OwnW (base : Nat) (W w : World) (v : Value) (l : List WrL) : Prop := ∃ xs, w.ownsRow base 143 2 v l.length xs ∧ ∀ j x, l[j]? = some x → (xs[j * 2]? = some (.int .i64 x.at_) ∧ (Lit.int .i64 x.at_).wf = true) ∧ ∃ y, xs[j * 2 + 1]? = some y ∧ Bytes W 0 W.heap.size y x.data
theorem OwnW.nil_ (base : Nat) (W w : World) : OwnW base W w (.slice none 0 0) [] := ⟨[], World.ownsRow_nil _ _ _ _, fun j x h => by simp at h⟩
theorem OwnW.sl {base : Nat} {W w : World} {v : Value} {l : List WrL} (h : OwnW base W w v l) (hB : Below W.heap.size W w) : Sl rWrite w 0 w.heap.size v l := by
  obtain ⟨xs, ⟨hl, hrow⟩, hx⟩ := h
  rcases hrow with ⟨rfl, h0⟩ | ⟨g, cap, cur, rfl, hg, hh, h1, h2, h3, h4⟩
  · have : l = [] := List.eq_nil_of_length_eq_zero (by omega)
    subst this
    exact Sl.nil_ _ _ _
  · refine ⟨_, _, rfl, h1, h2, fun _ => ⟨g, 0, rfl, Nat.zero_le _, (Array.getElem?_eq_some_iff.1 hh).1, fun i x hxi => ?_⟩, fun h => by cases h⟩
    have hi : i < l.length := (List.getElem?_eq_some_iff.1 hxi).1
    obtain ⟨⟨e1, e2⟩, y, e3, e4⟩ := hx i x hxi
    have hc : ∀ j u, xs[j]? = some u → w.cell? ⟨g, j, none⟩ = some u := by
      intro j u hj
      rw [blk_cell hh, ← hj, ← h4, List.getElem?_take, if_pos]
      · simp
      · have := (List.getElem?_eq_some_iff.1 hj).1
        rw [hl] at this
        exact this
    refine ⟨?_, e2, y, ?_, (e4.below hB (Nat.le_refl _)).more (Nat.le_refl _) hB.size⟩
    · show w.cell? ⟨g, 0 + i * 2 + 0, none⟩ = _
      rw [Nat.zero_add, Nat.add_zero]
      exact hc _ _ e1
    · show w.cell? ⟨g, 0 + i * 2 + 1, none⟩ = _
      rw [Nat.zero_add]
      exact hc _ _ e3

end Go.Proofs.Ytcibihakjcenaaa

namespace Go.Proofs.Ytcibihakjcenaaa
open Go.RowKit

theorem ext_getD {α : Type} (l m : List α) (d : α) (hl : l.length = m.length) (h : ∀ j, j < l.length → l.getD j d = m.getD j d) : l = m := by
  apply List.ext_getElem? 
  intro j
  rcases Nat.lt_or_ge j l.length with hj | hj
  · rw [get_l l d j hj, get_l m d j (by omega), h j hj]
  · rw [List.getElem?_eq_none hj, List.getElem?_eq_none (by omega)]

end Go.Proofs.Ytcibihakjcenaaa

namespace Go.Proofs.Ytcibihakjcenaaa

def half (s : BitVec 32) : BitVec 32 := (s >>> 1) ^^^ (if s.getLsbD 0 then 0xedb88320#32 else 0#32)
def halves : Nat → BitVec 32 → BitVec 32
  | 0, s => s
  | n + 1, s => half (halves n s)
theorem halves_add (s : BitVec 32) (n : Nat) : ∀ m, halves (n + m) s = halves m (halves n s)
  | 0 => rfl
  | m + 1 => by rw [← Nat.add_assoc, halves, halves_add s n m, halves]

theorem half_xor (a b : BitVec 32) : half (a ^^^ b) = half a ^^^ half b := by
  unfold half
  rw [BitVec.ushiftRight_xor_distrib, BitVec.getLsbD_xor]
  cases ha : a.getLsbD 0 <;> cases hb : b.getLsbD 0
  · simp
  · simp [BitVec.xor_assoc]
  · simp only [Bool.xor_false, if_true, if_false, Bool.false_eq_true, BitVec.xor_zero]
    ac_rfl
  · simp only [Bool.xor_true, Bool.not_true, if_true, if_false, Bool.false_eq_true, BitVec.xor_zero]
    have e : (a >>> 1 ^^^ 3988292384#32) ^^^ (b >>> 1 ^^^ 3988292384#32) = a >>> 1 ^^^ b >>> 1 ^^^ (3988292384#32 ^^^ 3988292384#32) := by ac_rfl
    rw [e]; simp
theorem halves_xor (a b : BitVec 32) : ∀ n, halves n (a ^^^ b) = halves n a ^^^ halves n b
  | 0 => rfl
  | n + 1 => by rw [halves, halves_xor a b n, half_xor]; rfl
/-- What is even is only moved. -/
theorem halves_even (s : BitVec 32) : ∀ n, (∀ i, i < n → s.getLsbD i = false) → halves n s = s >>> n
  | 0, _ => by simp [halves]
  | n + 1, h => by
    rw [halves, halves_even s n (fun i hi => h i (by omega)), half]
    have h0 : (s >>> n).getLsbD 0 = false := by rw [BitVec.getLsbD_ushiftRight]; simpa using h n (by omega)
    rw [h0]
    simp [BitVec.shiftRight_add]
/-- A table of four bits serves. -/
theorem halves_four (s : BitVec 32) : halves 4 s = (s >>> 4) ^^^ halves 4 (s &&& 15#32) := by
  have e : s = (s &&& 0xfffffff0#32) ^^^ (s &&& 15#32) := by
    apply BitVec.eq_of_getLsbD_eq
    intro i hi
    rw [BitVec.getLsbD_xor, BitVec.getLsbD_and, BitVec.getLsbD_and]
    have hk : ∀ k : Fin 32, ((0xfffffff0#32).getLsbD k.val ^^ (15#32).getLsbD k.val) = true := by decide
    have := hk ⟨i, hi⟩
    cases h1 : (0xfffffff0#32).getLsbD i <;> cases h2 : (15#32).getLsbD i <;> simp_all
  have h1 : halves 4 (s &&& 0xfffffff0#32) = (s &&& 0xfffffff0#32) >>> 4 := by
    apply halves_even
    intro i hi
    rw [BitVec.getLsbD_and]
    have : (0xfffffff0#32).getLsbD i = false := by
      match i, hi with
      | 0, _ => decide
      | 1, _ => decide
      | 2, _ => decide
      | 3, _ => decide
    rw [this]; simp
  have h2 : (s &&& 0xfffffff0#32) >>> 4 = s >>> 4 := by
    apply BitVec.eq_of_getLsbD_eq
    intro i hi
    rw [BitVec.getLsbD_ushiftRight, BitVec.getLsbD_ushiftRight, BitVec.getLsbD_and]
    by_cases h : 4 + i < 32
    · have : (0xfffffff0#32).getLsbD (4 + i) = true := by
        have hk : ∀ k : Fin 28, (0xfffffff0#32).getLsbD (4 + k.val) = true := by decide
        exact hk ⟨i, by omega⟩
      rw [this]; simp
    · rw [BitVec.getLsbD_of_ge s (4 + i) (by omega)]; simp
  conv => lhs; rw [e, halves_xor, h1, h2]

def b32 (x : UInt8) : BitVec 32 := BitVec.ofNat 32 x.toNat
def stepB (s : BitVec 32) (x : UInt8) : BitVec 32 := halves 8 (s ^^^ b32 x)
def crcS (s : BitVec 32) (l : List UInt8) : BitVec 32 := l.foldl stepB s
def crc (l : List UInt8) : BitVec 32 := ~~~ (crcS (BitVec.allOnes 32) l)
theorem crcS_append (s : BitVec 32) (a b : List UInt8) : crcS s (a ++ b) = crcS (crcS s a) b := by simp [crcS]
theorem stepB_four (s : BitVec 32) (x : UInt8) : stepB s x = halves 4 (halves 4 (s ^^^ b32 x)) := halves_add _ 4 4
open Go in
theorem xor_u32 (a b : BitVec 32) : bits .xor .u32 (a.toNat : Int) (b.toNat : Int) = ((a ^^^ b).toNat : Int) := by
  simp only [bits, IntKind.bits]
  rw [BitVec.ofInt_natCast, BitVec.ofInt_natCast, BitVec.ofNat_toNat, BitVec.ofNat_toNat]
  simp only [BitVec.setWidth_eq]
  rw [IntKind.wrap_u32]
  have := (a ^^^ b).isLt
  show ((a ^^^ b).toNat : Int) % 4294967296 = _
  omega
open Go in
theorem and_u32 (a b : BitVec 32) : bits .and .u32 (a.toNat : Int) (b.toNat : Int) = ((a &&& b).toNat : Int) := by
  simp only [bits, IntKind.bits]
  rw [BitVec.ofInt_natCast, BitVec.ofInt_natCast, BitVec.ofNat_toNat, BitVec.ofNat_toNat]
  simp only [BitVec.setWidth_eq]
  rw [IntKind.wrap_u32]
  have := (a &&& b).isLt
  show ((a &&& b).toNat : Int) % 4294967296 = _
  omega
theorem b32_nat (x : UInt8) : (b32 x).toNat = x.toNat := by
  have := x.toNat_lt
  simp only [b32, BitVec.toNat_ofNat]
  omega
theorem shr_nat (a : BitVec 32) (n : Nat) : (a >>> n).toNat = a.toNat / 2 ^ n := by rw [BitVec.toNat_ushiftRight, Nat.shiftRight_eq_div_pow]
end Go.Proofs.Ytcibihakjcenaaa

namespace Go.Proofs.Ytcibihakjcenaaa
open Go.RowKit

def u32v (s : BitVec 32) : Value := .int .u32 (s.toNat : Int)
def tabV (k : Nat) : Array Value := ((List.range 16).map fun i => if i < k then u32v (halves 4 (BitVec.ofNat 32 i)) else .int .u32 0).toArray
theorem tabV_set (n : Nat) (h : n < 16) (v : Value) (hv : v = u32v (halves 4 (BitVec.ofNat 32 n))) : (tabV n).setIfInBounds n v = tabV (n + 1) := by
  subst hv
  apply Array.ext_getElem?
  intro i
  rw [Array.getElem?_setIfInBounds]
  by_cases hi : n = i
  · subst hi
    simp [tabV, h]
  · rw [if_neg hi]
    have : (i < n + 1) = (i < n) := by apply propext; omega
    by_cases h16 : i < 16
    · simp [tabV, h16, this]
    · simp [tabV, h16]
theorem tabV_at (i : Nat) (h : i < 16) : (tabV 16)[i]? = some (u32v (halves 4 (BitVec.ofNat 32 i))) := by simp [tabV, h]
theorem tabV_zero : tabV 0 = #[.int .u32 0, .int .u32 0, .int .u32 0, .int .u32 0, .int .u32 0, .int .u32 0, .int .u32 0, .int .u32 0, .int .u32 0, .int .u32 0, .int .u32 0, .int .u32 0, .int .u32 0, .int .u32 0, .int .u32 0, .int .u32 0] := rfl
theorem tabV_lit : tabV 16 = #[.int .u32 0, .int .u32 498536548, .int .u32 997073096, .int .u32 651767980, .int .u32 1994146192, .int .u32 1802195444, .int .u32 1303535960, .int .u32 1342533948, .int .u32 3988292384, .int .u32 4027552580, .int .u32 3604390888, .int .u32 3412177804, .int .u32 2607071920, .int .u32 2262029012, .int .u32 2685067896, .int .u32 3183342108] := by kernel_rfl
theorem half_nat (s : BitVec 32) : bits BinOp.xor IntKind.u32 ((s.toNat : Int) / 2) (3988292384 * bits BinOp.and IntKind.u32 (s.toNat : Int) 1 % 4294967296) = ((half s).toNat : Int) := by
  have h1 : ((s.toNat : Int) / (2 : Int)) = ((s >>> 1).toNat : Int) := by rw [shr_nat]; omega
  have h2 := and_u32 s 1#32
  have h3 : (s &&& 1#32) = if s.getLsbD 0 then 1#32 else 0#32 := by
    apply BitVec.eq_of_getLsbD_eq
    intro i hi
    cases i with
    | zero => cases h : s.getLsbD 0 <;> simp [h, -BitVec.getLsbD_eq_getElem]
    | succ i => cases h : s.getLsbD 0 <;> simp [BitVec.getLsbD_one]
  have h4 : (3988292384 * bits BinOp.and IntKind.u32 (s.toNat : Int) 1 % 4294967296) = ((if s.getLsbD 0 then 0xedb88320#32 else 0#32 : BitVec 32).toNat : Int) := by
    rw [show (1 : Int) = ((1#32).toNat : Int) by decide, h2, h3]
    cases s.getLsbD 0 <;> decide
  rw [h1, h4, xor_u32]
  rfl

set_option maxHeartbeats 1000000 in
theorem fold_any (w : World) : Calls Try.prog 135 #[] w fun e w' => e = .returned (.agg (tabV 16)) ∧ Below w.heap.size w w' := by
  go_enter Try.func135, Try.ntmps135
  go_wp2
  go_loopw [3] (fun k wr => ∃ n : Nat, n ≤ 16 ∧ k = .int .i64 n ∧ wr = w.alloc (.cells (tabV n) 184)) (fun k _ => 16 - (intOf k).toNat)
  case atStart => exact ⟨0, by omega, rfl, by rw [tabV_zero]⟩
  case round =>
    obtain ⟨n, hn, rfl, rfl⟩ := hrel
    by_cases h : n < 16
    · have hcell : (tabV n)[n]? = some (.int .u32 0) := by simp [tabV, h]
      have htab := fun v hv => tabV_set n h v hv
      have HT := Lib.hid htab
      clear htab
      go_wp2
      go_loop [2, 8] (fun s k => ∃ j : Nat, j ≤ 4 ∧ k = .int .i64 j ∧ s = u32v (halves j (BitVec.ofNat 32 n))) (fun _ k => 4 - (intOf k).toNat)
      case atStart => exact ⟨0, by omega, rfl, by rw [halves, u32v, BitVec.toNat_ofNat, Nat.mod_eq_of_lt (by omega)]⟩
      case round =>
        obtain ⟨j, hj, rfl, hs⟩ := hrel
        unfold u32v at hs
        subst hs
        have hb := (halves j (BitVec.ofNat 32 n)).isLt
        have hf : j < 4 → half (halves j (BitVec.ofNat 32 n)) = halves (j + 1) (BitVec.ofNat 32 n) := fun _ => rfl
        have HF := Lib.hid hf
        have he : j = 4 → halves j (BitVec.ofNat 32 n) = halves 4 (BitVec.ofNat 32 n) := fun h => by rw [h]
        have HE := Lib.hid he
        clear hf he
        generalize halves j (BitVec.ofNat 32 n) = s at *
        by_cases h4 : j < 4
        · go_wp2
          go_round
          case rel => exact ⟨j + 1, by omega, by go_num, by rw [half_nat, HF.out h4]; rfl⟩
          case measure => simp [intOf]; omega
        · go_wp2
          go_roundw
          case rel => exact ⟨n + 1, by omega, by go_num, by rw [HT.out _ (by rw [HE.out (by omega)]; rfl)]⟩
          case measure => simp [intOf]; omega
    · obtain rfl : n = 16 := by omega
      rw [tabV_lit]
      go_wp2
      exact bodyPost_ret (v := .agg #[.int .u32 0, .int .u32 498536548, .int .u32 997073096, .int .u32 651767980, .int .u32 1994146192, .int .u32 1802195444, .int .u32 1303535960, .int .u32 1342533948, .int .u32 3988292384, .int .u32 4027552580, .int .u32 3604390888, .int .u32 3412177804, .int .u32 2607071920, .int .u32 2262029012, .int .u32 2685067896, .int .u32 3183342108]) (by simp [results, Try.results135, go_sem]) rfl ⟨by rw [tabV_lit], (Below.refl _ _).alloc (Nat.le_refl _) _⟩

theorem four_nat (s : BitVec 32) : bits BinOp.xor IntKind.u32 ((s.toNat : Int) / (16 : Int)) ((halves 4 (s &&& 15#32)).toNat : Int) = ((halves 4 s).toNat : Int) := by
  have h1 : ((s.toNat : Int) / (16 : Int)) = ((s >>> 4).toNat : Int) := by rw [shr_nat]; omega
  rw [h1, xor_u32, ← halves_four]
theorem and15 (s : BitVec 32) : ∃ i : Nat, i < 16 ∧ bits BinOp.and IntKind.u32 (s.toNat : Int) 15 = (i : Int) ∧ halves 4 (BitVec.ofNat 32 i) = halves 4 (s &&& 15#32) := by
  have h := and_u32 s 15#32
  refine ⟨(s &&& 15#32).toNat, ?_, h, by rw [BitVec.ofNat_toNat]; simp⟩
  rw [BitVec.toNat_and]
  exact Nat.lt_of_le_of_lt Nat.and_le_right (by decide)

set_option maxHeartbeats 1000000 in
theorem of_any (v : Value) (l : List UInt8) (w : World) (hI : Bytes w 0 w.heap.size v l) : Calls Try.prog 101 #[v] w fun e w' => e = .returned (u32v (crc l)) ∧ Below w.heap.size w w' := by
  obtain ⟨a, c, rfl, g1, g2, g3, _⟩ := id hI
  unfold maxLen at g2
  have hfold := fold_any
  have HF := Lib.hid hfold
  clear hfold
  go_enter Try.func101, Try.ntmps101
  go_wp2_with fail
  refine (HF.out _).mono ?_
  rw [tabV_lit]
  rintro e w1 ⟨rfl, hB⟩
  have hI1 := hI.step hB
  clear g3 hI HF
  go_wp2
  rw [← tabV_lit]
  have hI2 := hI1.step ((Below.refl w1.heap.size w1).alloc (Nat.le_refl _) (.cells (tabV 16) 184))
  obtain ⟨W, hW⟩ : ∃ W, w1.alloc (.cells (tabV 16) 184) = W := ⟨_, rfl⟩
  have htab : ∀ i : Nat, i < 16 → W.cell? ⟨w1.heap.size, i, none⟩ = some (u32v (halves 4 (BitVec.ofNat 32 i))) := fun i hi => by rw [← hW, World.cell?_alloc_new]; exact tabV_at i hi
  have hBW : Below w.heap.size w W := by rw [← hW]; exact hB.alloc hB.size _
  rw [hW] at hI2 ⊢
  generalize w1.heap.size = tb at *
  have HT := Lib.hid htab
  have HI := Lib.hid hI2
  clear hI1 hB hW htab hI2
  go_loop [4, 10] (fun s i => ∃ k : Nat, k ≤ l.length ∧ i = .int .i64 k ∧ s = u32v (crcS (BitVec.allOnes 32) (l.take k))) (fun _ i => l.length - (intOf i).toNat)
  case atStart => exact ⟨0, Nat.zero_le _, rfl, rfl⟩
  case round =>
    obtain ⟨k, hk, rfl, hs⟩ := hrel
    unfold u32v at hs
    subst hs
    by_cases hlt : k < l.length
    · obtain ⟨b, off, c', he, _, hb, _, _, hc⟩ := HI.out.at_ (by omega)
      cases he
      have hx := hc k l[k] (by simp [hlt])
      have hsn : crcS (BitVec.allOnes 32) (l.take (k + 1)) = stepB (crcS (BitVec.allOnes 32) (l.take k)) l[k] := by rw [List.take_succ_eq_append_getElem hlt, crcS_append]; rfl
      have HS := Lib.hid hsn
      clear hsn hc
      generalize crcS (BitVec.allOnes 32) (l.take k) = s at *
      generalize l[k] = x at *
      unfold bV at hx
      have hxl : (x.toNat : Int) < 256 := by have := x.toNat_lt; omega
      have e1 : bits BinOp.xor IntKind.u32 (s.toNat : Int) (x.toNat : Int) = ((s ^^^ b32 x).toNat : Int) := by rw [← b32_nat, xor_u32]
      have hs1 : stepB s x = halves 4 (halves 4 (s ^^^ b32 x)) := stepB_four s x
      have HS1 := Lib.hid hs1
      clear hs1
      generalize s ^^^ b32 x = s1 at *
      obtain ⟨i1, hi1, e2, e3⟩ := and15 s1
      have t1 := HT.out i1 hi1
      have e4 := four_nat s1
      rw [← e3] at e4
      generalize halves 4 (BitVec.ofNat 32 i1) = y1 at *
      generalize halves 4 s1 = s2 at *
      obtain ⟨i2, hi2, e5, e6⟩ := and15 s2
      have t2 := HT.out i2 hi2
      have e7 := four_nat s2
      rw [← e6] at e7
      generalize halves 4 (BitVec.ofNat 32 i2) = y2 at *
      generalize halves 4 s2 = s3 at *
      unfold u32v at t1 t2
      have b1 := s1.isLt
      have b2 := s2.isLt
      clear e3 e6
      go_wp2
      go_round
      case rel => exact ⟨k + 1, by omega, by go_num, by rw [HS.out, HS1.out]; rfl⟩
      case measure => simp [intOf]; omega
    · obtain rfl : k = l.length := by omega
      rw [List.take_length]
      have hfin : u32v (crc l) = .int .u32 (bits BinOp.xor IntKind.u32 IntKind.u32.max ((crcS (BitVec.allOnes 32) l).toNat : Int)) := by
        rw [show IntKind.u32.max = ((BitVec.allOnes 32).toNat : Int) by decide, xor_u32, BitVec.allOnes_xor]
        rfl
      have HFin := Lib.hid hfin
      have hbd := (crcS (BitVec.allOnes 32) l).isLt
      clear hfin
      generalize crcS (BitVec.allOnes 32) l = s at *
      go_wp2
      go_ret
      exact ⟨by rw [HFin.out]; rfl, hBW⟩
end Go.Proofs.Ytcibihakjcenaaa

namespace Go.Proofs.Ytcibihakjcenaaa
open Go.RowKit

set_option maxHeartbeats 1000000 in
/-- slices.Clone. -/
theorem clone_any (v : Value) (l : List UInt8) (w : World) (hI : Bytes w 0 w.heap.size v l) (hl : l.length ≤ 1000000) :
    Calls Try.prog 106 #[v] w fun e w' => ∃ u, e = .returned u ∧ MadeB w w' u l := by
  obtain ⟨a, c, rfl, g1, g2, g3, g4⟩ := id hI
  have hnil := fun (w : World) (a : Option Addr) (n c n' c' : Nat) => Lib.run_eql_slice_nil (P := Try.prog) w 26 5 a n c n' c' Try.underlying26
  cases a with
  | none =>
    have hc := g4 rfl
    subst hc
    have h0 : l = [] := List.eq_nil_of_length_eq_zero (by omega)
    subst h0
    go_enter Try.func106, Try.ntmps106
    go_wp2
    go_ret
    exact ⟨_, rfl, MadeB.nil_ (Below.refl _ _)⟩
  | some ad =>
    clear g3 g4
    have hown : OwnB w.heap.size 5 (w.alloc (.cells #[] 5)) (.slice (some ⟨w.heap.size, 0, none⟩) 0 0) [] := ⟨by simp, .inr ⟨w.heap.size, 0, #[], rfl, Nat.le_refl _, World.alloc_heap_new w _, Nat.le_refl _, Nat.zero_le _, rfl, rfl⟩⟩
    have hb0 := (Below.refl w.heap.size w).alloc (Nat.le_refl _) (.cells #[] 5)
    have hI1 := hI.step hb0
    go_enter Try.func106, Try.ntmps106
    go_wp2_with (at_builtin; refine wpList_appB rfl _ _ 26 rfl w.heap.size 5 Try.underlying26 info_u8 _ [] rfl hown _ _ _ l rfl hI1 (by simp; omega) (by simp) ?_; intro u w1 hown1 hB1)
    go_ret
    exact ⟨_, rfl, hown1.made (hb0.trans hB1)⟩

end Go.Proofs.Ytcibihakjcenaaa

