/- FindAlone: the words and contracts, part 6. -/
import Derived.Test.YtcibihakjcenaaaFindAloneQ1
import Derived.Test.YtcibihakjcenaaaFindAloneQ2
import Derived.Test.YtcibihakjcenaaaFindAloneQ3
import Derived.Test.YtcibihakjcenaaaFindAloneQ4
import Derived.Test.YtcibihakjcenaaaFindAloneQ5
import Derived.WalkKit
import Derived.WalkLawsBesides
import Derived.WalkSpells
import Derived.Lib.Hide
import Derived.Laws.Rows
import Derived.Laws.AppendOwnNone
import Derived.Maps.AppendAt
import Derived.RangeFuncNested
import Derived.RangeFuncBound
import Derived.RangeFuncCalls
import Derived.RangeFuncLeaves
import Derived.RangeFuncBox
import Derived.Shelf.Abstract
import Derived.Shelf.RegionOpen
import Derived.OwnWalkIn
import Derived.TacticsInMore
import Derived.LoopNIn
import Derived.LoopIn
import Derived.KernelRfl
import Derived.OrdersHeld
import Derived.Deep.QuietTactic
import Derived.BigQuiet
import Derived.StillTailTactics
import Derived.ProofKit
import Derived.Deep.Slices
import Derived.WideShapes
import Derived.Lib.AppendZerosOnto
import Derived.Lib.SliceRun
import Derived.Lib.Walk
import Derived.Deep.LoopGhost
import Derived.Laws.CopyOwn
import Derived.OpenShut
import Derived.Deep.DeepCutAuto
import Derived.Laws.CopyRow
import Derived.Laws.MakeOwn
import Derived.Deep.RegionHeld
import Derived.BigFrameIn
namespace Go.Proofs.Ytcibihakjcenaaa
open Go.RowKit

def u32v (s : BitVec 32) : Value := .int .u32 (s.toNat : Int)
def tabV (k : Nat) : Array Value := ((List.range 16).map fun i => if i < k then u32v (halves 4 (BitVec.ofNat 32 i)) else .int .u32 0).toArray
theorem tabV_set (n : Nat) (h : n < 16) (v : Value) (hv : v = u32v (halves 4 (BitVec.ofNat 32 n))) : (tabV n).setIfInBounds n v = tabV (n + 1) := by
  subst hv
  apply Array.ext_getElem?
  intro i
  rw [Array.getElem?_setIfInBounds]
  by_cases hi : n = i
  · subst hi
    simp [tabV, h]
  · rw [if_neg hi]
    have : (i < n + 1) = (i < n) := by apply propext; omega
    by_cases h16 : i < 16
    · simp [tabV, h16, this]
    · simp [tabV, h16]
theorem tabV_at (i : Nat) (h : i < 16) : (tabV 16)[i]? = some (u32v (halves 4 (BitVec.ofNat 32 i))) := by simp [tabV, h]
theorem tabV_zero : tabV 0 = #[.int .u32 0, .int .u32 0, .int .u32 0, .int .u32 0, .int .u32 0, .int .u32 0, .int .u32 0, .int .u32 0, .int .u32 0, .int .u32 0, .int .u32 0, .int .u32 0, .int .u32 0, .int .u32 0, .int .u32 0, .int .u32 0] := rfl
theorem tabV_lit : tabV 16 = #[.int .u32 0, .int .u32 498536548, .int .u32 997073096, .int .u32 651767980, .int .u32 1994146192, .int .u32 1802195444, .int .u32 1303535960, .int .u32 1342533948, .int .u32 3988292384, .int .u32 4027552580, .int .u32 3604390888, .int .u32 3412177804, .int .u32 2607071920, .int .u32 2262029012, .int .u32 2685067896, .int .u32 3183342108] := by kernel_rfl
theorem half_nat (s : BitVec 32) : bits BinOp.xor IntKind.u32 ((s.toNat : Int) / 2) (3988292384 * bits BinOp.and IntKind.u32 (s.toNat : Int) 1 % 4294967296) = ((half s).toNat : Int) := by
  have h1 : ((s.toNat : Int) / (2 : Int)) = ((s >>> 1).toNat : Int) := by rw [shr_nat]; omega
  have h2 := and_u32 s 1#32
  have h3 : (s &&& 1#32) = if s.getLsbD 0 then 1#32 else 0#32 := by
    apply BitVec.eq_of_getLsbD_eq
    intro i hi
    cases i with
    | zero => cases h : s.getLsbD 0 <;> simp [h, -BitVec.getLsbD_eq_getElem]
    | succ i => cases h : s.getLsbD 0 <;> simp [BitVec.getLsbD_one]
  have h4 : (3988292384 * bits BinOp.and IntKind.u32 (s.toNat : Int) 1 % 4294967296) = ((if s.getLsbD 0 then 0xedb88320#32 else 0#32 : BitVec 32).toNat : Int) := by
    rw [show (1 : Int) = ((1#32).toNat : Int) by decide, h2, h3]
    cases s.getLsbD 0 <;> decide
  rw [h1, h4, xor_u32]
  rfl

set_option maxHeartbeats 1000000 in
theorem fold_any (w : World) : Calls Try.prog 135 #[] w fun e w' => e = .returned (.agg (tabV 16)) ∧ Below w.heap.size w w' := by
  go_enter Try.func135, Try.ntmps135
  go_wp2
  go_loopw [3] (fun k wr => ∃ n : Nat, n ≤ 16 ∧ k = .int .i64 n ∧ wr = w.alloc (.cells (tabV n) 184)) (fun k _ => 16 - (intOf k).toNat)
  case atStart => exact ⟨0, by omega, rfl, by rw [tabV_zero]⟩
  case round =>
    obtain ⟨n, hn, rfl, rfl⟩ := hrel
    by_cases h : n < 16
    · have hcell : (tabV n)[n]? = some (.int .u32 0) := by simp [tabV, h]
      have htab := fun v hv => tabV_set n h v hv
      have HT := Lib.hid htab
      clear htab
      go_wp2
      go_loop [2, 8] (fun s k => ∃ j : Nat, j ≤ 4 ∧ k = .int .i64 j ∧ s = u32v (halves j (BitVec.ofNat 32 n))) (fun _ k => 4 - (intOf k).toNat)
      case atStart => exact ⟨0, by omega, rfl, by rw [halves, u32v, BitVec.toNat_ofNat, Nat.mod_eq_of_lt (by omega)]⟩
      case round =>
        obtain ⟨j, hj, rfl, hs⟩ := hrel
        unfold u32v at hs
        subst hs
        have hb := (halves j (BitVec.ofNat 32 n)).isLt
        have hf : j < 4 → half (halves j (BitVec.ofNat 32 n)) = halves (j + 1) (BitVec.ofNat 32 n) := fun _ => rfl
        have HF := Lib.hid hf
        have he : j = 4 → halves j (BitVec.ofNat 32 n) = halves 4 (BitVec.ofNat 32 n) := fun h => by rw [h]
        have HE := Lib.hid he
        clear hf he
        generalize halves j (BitVec.ofNat 32 n) = s at *
        by_cases h4 : j < 4
        · go_wp2
          go_round
          case rel => exact ⟨j + 1, by omega, by go_num, by rw [half_nat, HF.out h4]; rfl⟩
          case measure => simp [intOf]; omega
        · go_wp2
          go_roundw
          case rel => exact ⟨n + 1, by omega, by go_num, by rw [HT.out _ (by rw [HE.out (by omega)]; rfl)]⟩
          case measure => simp [intOf]; omega
    · obtain rfl : n = 16 := by omega
      rw [tabV_lit]
      go_wp2
      exact bodyPost_ret (v := .agg #[.int .u32 0, .int .u32 498536548, .int .u32 997073096, .int .u32 651767980, .int .u32 1994146192, .int .u32 1802195444, .int .u32 1303535960, .int .u32 1342533948, .int .u32 3988292384, .int .u32 4027552580, .int .u32 3604390888, .int .u32 3412177804, .int .u32 2607071920, .int .u32 2262029012, .int .u32 2685067896, .int .u32 3183342108]) (by simp [results, Try.results135, go_sem]) rfl ⟨by rw [tabV_lit], (Below.refl _ _).alloc (Nat.le_refl _) _⟩

theorem four_nat (s : BitVec 32) : bits BinOp.xor IntKind.u32 ((s.toNat : Int) / (16 : Int)) ((halves 4 (s &&& 15#32)).toNat : Int) = ((halves 4 s).toNat : Int) := by
  have h1 : ((s.toNat : Int) / (16 : Int)) = ((s >>> 4).toNat : Int) := by rw [shr_nat]; omega
  rw [h1, xor_u32, ← halves_four]
theorem and15 (s : BitVec 32) : ∃ i : Nat, i < 16 ∧ bits BinOp.and IntKind.u32 (s.toNat : Int) 15 = (i : Int) ∧ halves 4 (BitVec.ofNat 32 i) = halves 4 (s &&& 15#32) := by
  have h := and_u32 s 15#32
  refine ⟨(s &&& 15#32).toNat, ?_, h, by rw [BitVec.ofNat_toNat]; simp⟩
  rw [BitVec.toNat_and]
  exact Nat.lt_of_le_of_lt Nat.and_le_right (by decide)

set_option maxHeartbeats 1000000 in
theorem of_any (v : Value) (l : List UInt8) (w : World) (hI : Bytes w 0 w.heap.size v l) : Calls Try.prog 101 #[v] w fun e w' => e = .returned (u32v (crc l)) ∧ Below w.heap.size w w' := by
  obtain ⟨a, c, rfl, g1, g2, g3, _⟩ := id hI
  unfold maxLen at g2
  have hfold := fold_any
  have HF := Lib.hid hfold
  clear hfold
  go_enter Try.func101, Try.ntmps101
  go_wp2_with fail
  refine (HF.out _).mono ?_
  rw [tabV_lit]
  rintro e w1 ⟨rfl, hB⟩
  have hI1 := hI.step hB
  clear g3 hI HF
  go_wp2
  rw [← tabV_lit]
  have hI2 := hI1.step ((Below.refl w1.heap.size w1).alloc (Nat.le_refl _) (.cells (tabV 16) 184))
  obtain ⟨W, hW⟩ : ∃ W, w1.alloc (.cells (tabV 16) 184) = W := ⟨_, rfl⟩
  have htab : ∀ i : Nat, i < 16 → W.cell? ⟨w1.heap.size, i, none⟩ = some (u32v (halves 4 (BitVec.ofNat 32 i))) := fun i hi => by rw [← hW, World.cell?_alloc_new]; exact tabV_at i hi
  have hBW : Below w.heap.size w W := by rw [← hW]; exact hB.alloc hB.size _
  rw [hW] at hI2 ⊢
  generalize w1.heap.size = tb at *
  have HT := Lib.hid htab
  have HI := Lib.hid hI2
  clear hI1 hB hW htab hI2
  go_loop [4, 10] (fun s i => ∃ k : Nat, k ≤ l.length ∧ i = .int .i64 k ∧ s = u32v (crcS (BitVec.allOnes 32) (l.take k))) (fun _ i => l.length - (intOf i).toNat)
  case atStart => exact ⟨0, Nat.zero_le _, rfl, rfl⟩
  case round =>
    obtain ⟨k, hk, rfl, hs⟩ := hrel
    unfold u32v at hs
    subst hs
    by_cases hlt : k < l.length
    · obtain ⟨b, off, c', he, _, hb, _, _, hc⟩ := HI.out.at_ (by omega)
      cases he
      have hx := hc k l[k] (by simp [hlt])
      have hsn : crcS (BitVec.allOnes 32) (l.take (k + 1)) = stepB (crcS (BitVec.allOnes 32) (l.take k)) l[k] := by rw [List.take_succ_eq_append_getElem hlt, crcS_append]; rfl
      have HS := Lib.hid hsn
      clear hsn hc
      generalize crcS (BitVec.allOnes 32) (l.take k) = s at *
      generalize l[k] = x at *
      unfold bV at hx
      have hxl : (x.toNat : Int) < 256 := by have := x.toNat_lt; omega
      have e1 : bits BinOp.xor IntKind.u32 (s.toNat : Int) (x.toNat : Int) = ((s ^^^ b32 x).toNat : Int) := by rw [← b32_nat, xor_u32]
      have hs1 : stepB s x = halves 4 (halves 4 (s ^^^ b32 x)) := stepB_four s x
      have HS1 := Lib.hid hs1
      clear hs1
      generalize s ^^^ b32 x = s1 at *
      obtain ⟨i1, hi1, e2, e3⟩ := and15 s1
      have t1 := HT.out i1 hi1
      have e4 := four_nat s1
      rw [← e3] at e4
      generalize halves 4 (BitVec.ofNat 32 i1) = y1 at *
      generalize halves 4 s1 = s2 at *
      obtain ⟨i2, hi2, e5, e6⟩ := and15 s2
      have t2 := HT.out i2 hi2
      have e7 := four_nat s2
      rw [← e6] at e7
      generalize halves 4 (BitVec.ofNat 32 i2) = y2 at *
      generalize halves 4 s2 = s3 at *
      unfold u32v at t1 t2
      have b1 := s1.isLt
      have b2 := s2.isLt
      clear e3 e6
      go_wp2
      go_round
      case rel => exact ⟨k + 1, by omega, by go_num, by rw [HS.out, HS1.out]; rfl⟩
      case measure => simp [intOf]; omega
    · obtain rfl : k = l.length := by omega
      rw [List.take_length]
      have hfin : u32v (crc l) = .int .u32 (bits BinOp.xor IntKind.u32 IntKind.u32.max ((crcS (BitVec.allOnes 32) l).toNat : Int)) := by
        rw [show IntKind.u32.max = ((BitVec.allOnes 32).toNat : Int) by decide, xor_u32, BitVec.allOnes_xor]
        rfl
      have HFin := Lib.hid hfin
      have hbd := (crcS (BitVec.allOnes 32) l).isLt
      clear hfin
      generalize crcS (BitVec.allOnes 32) l = s at *
      go_wp2
      go_ret
      exact ⟨by rw [HFin.out]; rfl, hBW⟩
end Go.Proofs.Ytcibihakjcenaaa

namespace Go.Proofs.Ytcibihakjcenaaa
open Go.RowKit

def KeepC (n₀ Bs : Nat) (A B : World) : Prop := Below n₀ A B ∧ B.cell? ⟨Bs, 0, none⟩ = A.cell? ⟨Bs, 0, none⟩ ∧ B.cell? ⟨Bs + 1, 0, none⟩ = A.cell? ⟨Bs + 1, 0, none⟩
theorem KeepC.refl (n₀ Bs : Nat) (A : World) : KeepC n₀ Bs A A := ⟨Below.refl _ _, rfl, rfl⟩
theorem KeepC.trans {n₀ Bs : Nat} {A B C : World} (h : KeepC n₀ Bs A B) (k : KeepC n₀ Bs B C) : KeepC n₀ Bs A C := ⟨h.1.trans k.1, k.2.1.trans h.2.1, k.2.2.trans h.2.2⟩
end Go.Proofs.Ytcibihakjcenaaa

namespace Go.Proofs.Ytcibihakjcenaaa
open Go.RowKit Go.Shelf
attribute [local go_sem] Oper.semAt_some

theorem grown_ck {W W' : World} {row : Option Nat} (hg : W.grownBy W' row) (hr : ∀ r, row = some r → ∃ o : Obj, W.heap[r]? = some o ∧ o.isCells = false) : CKc W W' := fun _ _ h => ⟨cell_kept h hg hr, frozen_kept h hg hr⟩
theorem blk_grown {W W' : World} {row : Option Nat} (hg : W.grownBy W' row) (hr : ∀ r, row = some r → ∃ o : Obj, W.heap[r]? = some o ∧ o.isCells = false) {g : Nat} {cs : Array Value} {T : TypeId} {f : Nat × Nat} (h : W.heap[g]? = some (.cells cs T f)) : W'.heap[g]? = some (.cells cs T f) := by
  refine (hg.block g (Array.getElem?_eq_some_iff.1 h).1 (fun e => ?_)).trans h
  obtain ⟨o, ho, hc⟩ := hr g e.symm
  rw [h] at ho
  cases ho
  cases hc
end Go.Proofs.Ytcibihakjcenaaa

namespace Go.Proofs.Ytcibihakjcenaaa
open Go.RowKit

theorem seen_snoc (bl : List (List UInt8)) (l : List WrL) (p q : Int) (x : List UInt8) : seenD ⟨bl, l ++ [⟨p, x⟩]⟩ q = if p = q then x else seenD ⟨bl, l⟩ q := by
  unfold seenD
  simp only [lastW_app]
  by_cases e : p = q
  · rw [if_pos e, if_pos e]
  · rw [if_neg e, if_neg e]
end Go.Proofs.Ytcibihakjcenaaa

namespace Go.Proofs.Ytcibihakjcenaaa
open Go.RowKit

/-- May block i be taken? -/
def noneAt (s : StoreL) (i : Nat) : Bool := decide (8 ≤ i) && (s.now.getD i 0 == 0 && s.last.getD i 0 == 0)
def freeN (s : StoreL) (k : Nat) : List Nat := (List.range k).filter (noneAt s)
def freeS (s : StoreL) : List Nat := freeN s 256
theorem freeN_succ (s : StoreL) (k : Nat) : freeN s (k + 1) = if noneAt s k then freeN s k ++ [k] else freeN s k := by
  unfold freeN
  rw [List.range_succ, List.filter_append]
  cases h : noneAt s k <;> simp [h]
theorem freeN_eight (s : StoreL) : freeN s 8 = [] := by
  unfold freeN
  rw [List.filter_eq_nil_iff]
  intro i hi
  have := List.mem_range.1 hi
  unfold noneAt
  rw [decide_eq_false (by omega)]
  simp
theorem freeN_mem {s : StoreL} {k i : Nat} : i ∈ freeN s k ↔ i < k ∧ noneAt s i = true := by
  unfold freeN
  rw [List.mem_filter, List.mem_range]
theorem noneAt_iff {s : StoreL} {i : Nat} : noneAt s i = true ↔ 8 ≤ i ∧ s.now.getD i 0 = 0 ∧ s.last.getD i 0 = 0 := by
  unfold noneAt
  simp
theorem freeS_nodup (s : StoreL) : (freeS s).Nodup := List.Pairwise.filter _ List.nodup_range
/-- The first ones that are free are those of all. -/
theorem freeN_pre {s : StoreL} {k : Nat} (hk : k ≤ 256) : ∃ r, freeS s = freeN s k ++ r := by
  have : ∀ j, ∃ r, freeN s (k + j) = freeN s k ++ r := by
    intro j
    induction j with
    | zero => exact ⟨[], by simp⟩
    | succ j ih =>
      obtain ⟨r, hr⟩ := ih
      rw [show k + (j + 1) = (k + j) + 1 by omega, freeN_succ, hr]
      split
      · exact ⟨r ++ [k + j], by simp⟩
      · exact ⟨r, rfl⟩
  obtain ⟨r, hr⟩ := this (256 - k)
  rw [show k + (256 - k) = 256 by omega] at hr
  exact ⟨r, hr⟩
theorem free_take {s s' : StoreL} {p : Nat} {r : List Nat} (h : freeS s = p :: r) (hn : s'.now = s.now.set p 1) (hl : s'.last = s.last) (h256 : s.now.length = 256) : freeS s' = r := by
  have hnd := freeS_nodup s
  have hp := (freeN_mem.1 (show p ∈ freeN s 256 by rw [show freeN s 256 = p :: r from h]; exact List.mem_cons_self ..))
  have e : freeS s' = (freeS s).filter (fun i => i != p) := by
    unfold freeS freeN
    rw [List.filter_filter]
    apply List.filter_congr
    intro i hi
    have hi := List.mem_range.1 hi
    unfold noneAt
    rw [hn, hl]
    by_cases hip : p = i
    · subst hip
      rw [cgetD_set_self _ _ _ (by omega)]
      simp
    · rw [bget_set_ne _ _ _ _ hip]
      rw [show (i != p) = true by simp; omega]
      simp
  rw [e, h]
  rw [h] at hnd
  rw [List.nodup_cons] at hnd
  rw [List.filter_cons, if_neg (by simp), List.filter_eq_self]
  intro a ha
  simp
  intro e
  subst e
  exact hnd.1 ha
/-- What no count was turned from nought is as free. -/
theorem free_same {s s' : StoreL} (hn : ∀ i, i < 256 → (s'.now.getD i 0 = 0 ↔ s.now.getD i 0 = 0)) (hl : s'.last = s.last) : freeS s' = freeS s := by
  unfold freeS freeN
  apply List.filter_congr
  intro i hi
  have hi := List.mem_range.1 hi
  rw [Bool.eq_iff_iff, noneAt_iff, noneAt_iff, hn i hi, hl]

def errTk (s : StoreL) (b : List UInt8) : Int := if mayS s then (if b.length = 128 then (match freeS s with | [] => 9 | p :: _ => errW s.disk p b) else 3) else 8
def headS (s : StoreL) : Nat := (freeS s).headD 0
def atTk (s : StoreL) (b : List UInt8) : Int := if errTk s b = 0 then headS s else 0
def takeS (s : StoreL) (b : List UInt8) : StoreL := if errTk s b = 0 then ⟨writeD s.disk (headS s) b, s.now.set (headS s) 1, s.last⟩ else noS
def errAs (s : StoreL) (p : Int) : Int := if mayS s then (if p < 8 ∨ 256 ≤ p then 2 else if s.now.getD p.toNat 0 = 0 then 6 else 0) else 8
def errSh (s : StoreL) (p : Int) : Int := if errAs s p ≠ 0 then errAs s p else if s.now.getD p.toNat 0 = 255 then 70 else 0
def shareS (s : StoreL) (p : Int) : StoreL := if errSh s p = 0 then ⟨s.disk, s.now.set p.toNat (s.now.getD p.toNat 0 + 1), s.last⟩ else noS

theorem mayS_iff {s : StoreL} : mayS s = true ↔ mayD s.disk = true ∧ mayT s.now = true ∧ mayT s.last = true := by
  unfold mayS
  simp
theorem errAs_zero {s : StoreL} {p : Int} (h : errAs s p = 0) : mayS s = true ∧ 8 ≤ p ∧ p < 256 ∧ s.now.getD p.toNat 0 ≠ 0 := by
  unfold errAs at h
  split at h
  · rename_i hm
    split at h
    · cases h
    · split at h
      · cases h
      · rename_i h1 h2
        exact ⟨hm, by omega, by omega, h2⟩
  · cases h
theorem errSh_zero {s : StoreL} {p : Int} (h : errSh s p = 0) : errAs s p = 0 ∧ s.now.getD p.toNat 0 ≠ 255 := by
  unfold errSh at h
  split at h
  · rename_i hn
    exact absurd h hn
  · rename_i hn
    split at h
    · cases h
    · rename_i h2
      exact ⟨by simpa using hn, h2⟩
theorem errTk_zero {s : StoreL} {b : List UInt8} (h : errTk s b = 0) : mayS s = true ∧ b.length = 128 ∧ (∃ r, freeS s = headS s :: r) ∧ errW s.disk (headS s) b = 0 := by
  unfold errTk at h
  split at h
  · rename_i hm
    split at h
    · rename_i hl
      unfold headS
      split at h
      · cases h
      · rename_i p r hf
        rw [hf]
        exact ⟨hm, hl, ⟨r, rfl⟩, h⟩
    · cases h
  · cases h
theorem head_free {s : StoreL} {r : List Nat} (h : freeS s = headS s :: r) : 8 ≤ headS s ∧ headS s < 256 ∧ s.now.getD (headS s) 0 = 0 ∧ s.last.getD (headS s) 0 = 0 := by
  have := freeN_mem.1 (show headS s ∈ freeN s 256 by rw [show freeN s 256 = headS s :: r from h]; exact List.mem_cons_self ..)
  have h2 := noneAt_iff.1 this.2
  exact ⟨h2.1, this.1, h2.2.1, h2.2.2⟩
/-- All that is so of a store of which a block was taken. -/
theorem take_is {s : StoreL} {b : List UInt8} (h : errTk s b = 0) :
    takeS s b = ⟨⟨s.disk.blocks, s.disk.waits ++ [⟨(headS s : Int), b⟩]⟩, s.now.set (headS s) 1, s.last⟩ ∧ mayS (takeS s b) = true ∧ atTk s b = headS s ∧ freeS s = headS s :: freeS (takeS s b) := by
  obtain ⟨hm, hl, ⟨r, hr⟩, hw⟩ := errTk_zero h
  obtain ⟨p1, p2, p3, p4⟩ := head_free hr
  obtain ⟨m1, m2, m3⟩ := mayS_iff.1 hm
  obtain ⟨w1, w2⟩ := write_may hw
  have e : takeS s b = ⟨writeD s.disk (headS s) b, s.now.set (headS s) 1, s.last⟩ := by unfold takeS; rw [if_pos h]
  have hf : freeS (takeS s b) = r := by
    refine free_take hr ?_ ?_ (mayT_len m2) <;> rw [e]
  refine ⟨by rw [e, w1], ?_, by unfold atTk; rw [if_pos h], by rw [hf]; exact hr⟩
  rw [e]
  exact mayS_iff.2 ⟨w2, by rw [mayT_set _ _ _ p1]; exact m2, m3⟩
theorem take_seen {s : StoreL} {b : List UInt8} (h : errTk s b = 0) (q : Int) : seenD (takeS s b).disk q = if (headS s : Int) = q then b else seenD s.disk q := by
  rw [(take_is h).1]
  exact seen_snoc s.disk.blocks s.disk.waits (headS s) q b
theorem share_is {s : StoreL} {p : Int} (h : errSh s p = 0) :
    shareS s p = ⟨s.disk, s.now.set p.toNat (s.now.getD p.toNat 0 + 1), s.last⟩ ∧ mayS (shareS s p) = true ∧ 8 ≤ p ∧ p < 256 ∧ s.now.getD p.toNat 0 ≠ 0 ∧ (s.now.getD p.toNat 0 + 1).toNat = (s.now.getD p.toNat 0).toNat + 1 ∧ freeS (shareS s p) = freeS s := by
  obtain ⟨h1, h2⟩ := errSh_zero h
  obtain ⟨hm, h8, h9, hn⟩ := errAs_zero h1
  obtain ⟨m1, m2, m3⟩ := mayS_iff.1 hm
  have e : shareS s p = ⟨s.disk, s.now.set p.toNat (s.now.getD p.toNat 0 + 1), s.last⟩ := by unfold shareS; rw [if_pos h]
  have h256 := mayT_len m2
  refine ⟨e, ?_, h8, h9, hn, u8_up h2, ?_⟩
  · rw [e]
    exact mayS_iff.2 ⟨m1, by rw [mayT_set _ _ _ (by omega)]; exact m2, m3⟩
  · rw [e]
    refine free_same (fun i hi => ?_) rfl
    by_cases hip : p.toNat = i
    · subst hip
      show (s.now.set p.toNat (s.now.getD p.toNat 0 + 1)).getD p.toNat 0 = 0 ↔ _
      rw [cgetD_set_self _ _ _ (by omega)]
      exact ⟨fun h => absurd h (u8_up0 h2), fun h => absurd h hn⟩
    · show (s.now.set p.toNat (s.now.getD p.toNat 0 + 1)).getD i 0 = 0 ↔ _
      rw [bget_set_ne _ _ _ _ hip]
end Go.Proofs.Ytcibihakjcenaaa

namespace Go.Proofs.Ytcibihakjcenaaa
open Go.RowKit

set_option maxRecDepth 100000 in
set_option maxHeartbeats 1000000 in
theorem scheck_any (b_s u_s x_s y_s : Value) (s : StoreL) (w : World) (h_s : StoreV w 0 w.heap.size b_s u_s x_s y_s s) :
    Calls Try.prog 71 #[.agg #[b_s, u_s, x_s, y_s]] w fun e w' => e = .returned (.int .i64 (errS s)) ∧ Below w.heap.size w w' := by
  obtain ⟨ab_s, cb_s, rfl, gb_s, gc_s, -, -⟩ := h_s.1.1
  obtain ⟨au_s, cu_s, rfl, gu_s, gv_s, -, -⟩ := h_s.1.2
  obtain ⟨ax_s, cx_s, rfl, gx_s, gz_s⟩ := h_s.2.1.form rfl
  obtain ⟨ay_s, cy_s, rfl, gy_s, gw_s⟩ := h_s.2.2.form rfl
  unfold maxLen at gc_s gv_s gz_s gw_s
  have hst := ((Below.refl w.heap.size w).alloc (Nat.le_refl _) (.cells #[.slice ab_s s.disk.blocks.length cb_s, .slice au_s s.disk.waits.length cu_s, .slice ax_s s.now.length cx_s, .slice ay_s s.last.length cy_s] 46))
  have q_s := LK.new w (.cells #[.slice ab_s s.disk.blocks.length cb_s, .slice au_s s.disk.waits.length cu_s, .slice ax_s s.now.length cx_s, .slice ay_s s.last.length cy_s] 46)
  have hB : LW w _ := hst
  have O_s := (LO.of h_s (Nat.le_refl _)).step hst
  have sz_V : w.heap.size + 0 < (w.alloc (.cells #[.slice ab_s s.disk.blocks.length cb_s, .slice au_s s.disk.waits.length cu_s, .slice ax_s s.now.length cx_s, .slice ay_s s.last.length cy_s] 46)).heap.size := by simp
  obtain ⟨V, hV⟩ : ∃ V, (w.alloc (.cells #[.slice ab_s s.disk.blocks.length cb_s, .slice au_s s.disk.waits.length cu_s, .slice ax_s s.now.length cx_s, .slice ay_s s.last.length cy_s] 46)) = V := ⟨_, rfl⟩
  rw [hV] at sz_V q_s O_s hB
  clear hst h_s
  have HQ := Lib.hid (And.intro q_s (And.intro O_s hB))
  clear q_s O_s hB
  have c_q_s0 := LK.cell HQ.out.1 0
  have c_q_s1 := LK.cell HQ.out.1 1
  have c_q_s2 := LK.cell HQ.out.1 2
  have c_q_s3 := LK.cell HQ.out.1 3
  simp at c_q_s0 c_q_s1 c_q_s2 c_q_s3
  obtain ⟨md, hmd⟩ : ∃ b, mayD s.disk = b := ⟨_, rfl⟩
  obtain ⟨mn, hmn⟩ : ∃ b, mayT s.now = b := ⟨_, rfl⟩
  obtain ⟨ml, hml⟩ : ∃ b, mayT s.last = b := ⟨_, rfl⟩
  have hE : errS s = if md && (mn && ml) then 0 else 8 := by unfold errS mayS; rw [hmd, hmn, hml]
  obtain ⟨es, hes⟩ : ∃ e, errS s = e := ⟨_, rfl⟩
  rw [hes] at hE ⊢
  have k_d := fun V b u hh => dcheck_any b u s.disk V hh
  have k_n := fun V v hh => ccheck_any v s.now V hh
  have k_l := fun V v hh => ccheck_any v s.last V hh
  rw [hmd] at k_d
  rw [hmn] at k_n
  rw [hml] at k_l
  have HE := Lib.hid hE
  clear hE hes hmd hmn hml
  have HC := Lib.hid (And.intro k_d (And.intro k_n k_l))
  clear k_d k_n k_l
  go_enter Try.func71, Try.ntmps71
  go_upto_region 1 with (fail)
  clear hV
  go_wp2_with fail
  refine (HC.out.1 _ _ _ HQ.out.2.1.d).mono ?_
  rintro e w1 ⟨rfl, hst⟩
  clear c_q_s0 c_q_s1 c_q_s2 c_q_s3
  obtain ⟨q_s, O_s, hB⟩ := HQ.out
  clear HQ
  have sz_w1 : V.heap.size ≤ w1.heap.size := hst.size
  replace q_s := q_s.step hst
  replace O_s := O_s.step hst
  replace hB := hB.step hst
  clear hst
  have HQ := Lib.hid (And.intro q_s (And.intro O_s hB))
  clear q_s O_s hB
  have c_q_s0 := LK.cell HQ.out.1 0
  have c_q_s1 := LK.cell HQ.out.1 1
  have c_q_s2 := LK.cell HQ.out.1 2
  have c_q_s3 := LK.cell HQ.out.1 3
  simp at c_q_s0 c_q_s1 c_q_s2 c_q_s3
  cases md
  case false =>
    obtain rfl : es = 8 := HE.out
    simp only [Bool.false_eq_true, if_false]
    go_wp2
    go_ret
    exact ⟨rfl, HQ.out.2.2⟩
  case true =>
  simp only [if_true]
  go_wp2_with fail
  refine (HC.out.2.1 _ _ HQ.out.2.1.n).mono ?_
  rintro e w0 ⟨rfl, hw0⟩
  rw [hw0]
  clear hw0 w0
  cases mn
  case false =>
    obtain rfl : es = 8 := HE.out
    simp only [Bool.false_eq_true, if_false]
    go_wp2
    go_ret
    exact ⟨rfl, HQ.out.2.2⟩
  case true =>
  simp only [if_true]
  go_wp2_with fail
  refine (HC.out.2.2 _ _ HQ.out.2.1.l).mono ?_
  rintro e w0 ⟨rfl, hw0⟩
  rw [hw0]
  clear hw0 w0
  cases ml
  case false =>
    obtain rfl : es = 8 := HE.out
    simp only [Bool.false_eq_true, if_false]
    go_wp2
    go_ret
    exact ⟨rfl, HQ.out.2.2⟩
  case true =>
  obtain rfl : es = 0 := HE.out
  simp only [if_true]
  go_wp2
  go_ret
  exact ⟨rfl, HQ.out.2.2⟩

theorem dtwin_made (b u : Value) (d : DiskL) (w : World) (h : DiskV w 0 w.heap.size b u d) (hn1 : d.blocks.length ≤ 100000) (hn2 : d.waits.length ≤ 100000) (hT : (datD d).flatten.length ≤ 100000000) :
    Calls Try.prog 98 #[.agg #[b, u]] w fun e w' => ∃ b' u', e = .returned (.agg #[b', u']) ∧ MadeD w w' b' u' d :=
  (dtwin_any b u d w h hn1 hn2 hT).mono fun _ _ ⟨_, _, _, _, he, ht, hb⟩ => ⟨_, _, he, ⟨ht.disk hT hn1 hn2, hb⟩⟩
/-- A store that is not too great to be copied. -/
structure FewS (s : StoreL) : Prop where
  b : s.disk.blocks.length ≤ 100000
  w : s.disk.waits.length ≤ 100000
  f : (datD s.disk).flatten.length ≤ 100000000
  n : s.now.length ≤ 1000000000
  l : s.last.length ≤ 1000000000
theorem FewS.of_may {s : StoreL} (h : mayS s = true) : FewS s := by
  obtain ⟨m1, m2, m3⟩ := mayS_iff.1 h
  obtain ⟨a1, a2, a3, a4⟩ := may_len m1
  have := mayT_len m2
  have := mayT_len m3
  exact ⟨by omega, by omega, dat_le (by omega) (by omega) (fun x hx => Nat.le_of_eq (a3 x hx)) (fun x hx => Nat.le_of_eq (a4 x hx).2.2), by omega, by omega⟩

set_option maxRecDepth 100000 in
set_option maxHeartbeats 1000000 in
theorem stwin_any (b_s u_s x_s y_s : Value) (s : StoreL) (w : World) (h_s : StoreV w 0 w.heap.size b_s u_s x_s y_s s) (hf : FewS s) :
    Calls Try.prog 89 #[.agg #[b_s, u_s, x_s, y_s]] w fun e w' => ∃ b u x y, e = .returned (.agg #[b, u, x, y]) ∧ MadeS w w' b u x y s := by
  obtain ⟨ab_s, cb_s, rfl, gb_s, gc_s, -, -⟩ := h_s.1.1
  obtain ⟨au_s, cu_s, rfl, gu_s, gv_s, -, -⟩ := h_s.1.2
  obtain ⟨ax_s, cx_s, rfl, gx_s, gz_s⟩ := h_s.2.1.form rfl
  obtain ⟨ay_s, cy_s, rfl, gy_s, gw_s⟩ := h_s.2.2.form rfl
  unfold maxLen at gc_s gv_s gz_s gw_s
  have hst := (((Below.refl w.heap.size w).alloc (Nat.le_refl _) (.cells #[.slice ab_s s.disk.blocks.length cb_s, .slice au_s s.disk.waits.length cu_s, .slice ax_s s.now.length cx_s, .slice ay_s s.last.length cy_s] 46)).alloc (by simp) (.cells #[.slice none 0 0, .slice none 0 0, .slice none 0 0, .slice none 0 0] 46))
  have hq := two_new w (.cells #[.slice ab_s s.disk.blocks.length cb_s, .slice au_s s.disk.waits.length cu_s, .slice ax_s s.now.length cx_s, .slice ay_s s.last.length cy_s] 46) (.cells #[.slice none 0 0, .slice none 0 0, .slice none 0 0, .slice none 0 0] 46)
  have q_s := LK.of hq.1
  have q_r := LK.of hq.2
  have hB : LW w _ := hst
  have O_s := (LO.of h_s (Nat.le_refl _)).step hst
  have sz_V : w.heap.size + 1 < ((w.alloc (.cells #[.slice ab_s s.disk.blocks.length cb_s, .slice au_s s.disk.waits.length cu_s, .slice ax_s s.now.length cx_s, .slice ay_s s.last.length cy_s] 46)).alloc (.cells #[.slice none 0 0, .slice none 0 0, .slice none 0 0, .slice none 0 0] 46)).heap.size := by simp
  obtain ⟨V, hV⟩ : ∃ V, ((w.alloc (.cells #[.slice ab_s s.disk.blocks.length cb_s, .slice au_s s.disk.waits.length cu_s, .slice ax_s s.now.length cx_s, .slice ay_s s.last.length cy_s] 46)).alloc (.cells #[.slice none 0 0, .slice none 0 0, .slice none 0 0, .slice none 0 0] 46)) = V := ⟨_, rfl⟩
  rw [hV] at sz_V q_s q_r O_s hB
  clear hst h_s hq
  have HQ := Lib.hid (And.intro q_s (And.intro q_r (And.intro O_s hB)))
  clear q_s q_r O_s hB
  have c_q_s0 := LK.cell HQ.out.1 0
  have c_q_s1 := LK.cell HQ.out.1 1
  have c_q_s2 := LK.cell HQ.out.1 2
  have c_q_s3 := LK.cell HQ.out.1 3
  have c_q_r0 := LK.cell HQ.out.2.1 0
  have c_q_r1 := LK.cell HQ.out.2.1 1
  have c_q_r2 := LK.cell HQ.out.2.1 2
  have c_q_r3 := LK.cell HQ.out.2.1 3
  simp at c_q_s0 c_q_s1 c_q_s2 c_q_s3 c_q_r0 c_q_r1 c_q_r2 c_q_r3
  obtain ⟨f1, f2, f3, f4, f5⟩ := hf
  have k_d := fun V b u hh => dtwin_made b u s.disk V hh f1 f2 f3
  have k_n := fun V v hh => bclone_any v s.now V hh f4
  have k_l := fun V v hh => bclone_any v s.last V hh f5
  clear f1 f2 f3 f4 f5
  have HC := Lib.hid (And.intro k_d (And.intro k_n k_l))
  clear k_d k_n k_l
  go_enter Try.func89, Try.ntmps89
  go_upto_region 1 with (fail)
  clear hV
  clear c_q_s0 c_q_s1 c_q_s2 c_q_s3 c_q_r0 c_q_r1 c_q_r2 c_q_r3
  obtain ⟨Pr, hPr⟩ : ∃ Pr : World → Prop, ∀ X, Pr X ↔ Below V.heap.size V X := ⟨_, fun _ => Iff.rfl⟩
  have hp0 : Pr V.drew := (hPr _).2 (Below.refl _ V).drew
  have x0 := fun X => LK.cell (HQ.out.1.step ((hPr _).1 (selW_pr hp0 X))) 0
  have x1 := fun X => LK.cell (HQ.out.1.step ((hPr _).1 (selW_pr hp0 X))) 1
  have x2 := fun X => LK.cell (HQ.out.1.step ((hPr _).1 (selW_pr hp0 X))) 2
  have x3 := fun X => LK.cell (HQ.out.1.step ((hPr _).1 (selW_pr hp0 X))) 3
  simp at x0 x1 x2 x3
  refine wp_region_L (S := Kl Pr V.drew) 10 (by kernel_rfl) (Kl.of hp0) (fun hCl => ?_)
  refine wpAnyL_seg (fuel := 5) (by kernel_rfl) (fun _ d _ _ _ h => by cases d <;> exact h) hCl [0, 1, 3, 4, 6, 7] _ _ _ (by kernel_rfl) (by kernel_rfl) (by kernel_rfl) (by kernel_rfl) ?_
  simp only [opsOf_cons, opsOf_nil, consOp_some, List.getElem?_toArray, List.getElem?_cons_succ, List.getElem?_cons_zero]
  repeat (first | go_big_quiet_step (fail) | quiet_step (fail))
  refine wpQuiet_nil ?_
  refine wpAnyL_each (fuel := 4) [2] (by kernel_rfl) (by simp) (by kernel_rfl) ?_
  refine EachL.cons _ rfl (fun K' hK => ?_) EachL.nil
  go_simp
  refine (HC.out.1 _ _ _ (HQ.out.2.2.1.step (Below.refl _ V).drew).d).mono ?_
  rintro e z1 ⟨b1, u1, rfl, hm1⟩
  obtain ⟨ab_r, cb_r, rfl, -, -, -, -⟩ := hm1.v0.1
  obtain ⟨au_r, cu_r, rfl, -, -, -, -⟩ := hm1.v0.2
  have hst1 : Below V.heap.size V z1 := (Below.refl _ V).drew.trans hm1.below
  have hst := (hPr _).2 hst1
  have HM1 := Lib.hid (And.intro hm1 hst1)
  clear hm1 hst1
  have hCl : Kl Pr V.drew _ := Kl.of hst
  refine hK.out (.inr hCl) ?_
  clear hK K'
  refine wpAnyL_each (fuel := 3) [5] (by kernel_rfl) (by simp) (by kernel_rfl) ?_
  refine EachL.cons _ rfl (fun K' hK => ?_) EachL.nil
  go_simp
  refine (HC.out.2.1 _ _ (HQ.out.2.2.1.step HM1.out.2).n).mono ?_
  rintro e z2 ⟨x1v, rfl, hm2⟩
  obtain ⟨ax_r, cx_r, rfl, -, -⟩ := hm2.bytes.form rfl
  have hst2 := below_step HM1.out.2 HM1.out.2.size hm2.below
  have hst := (hPr _).2 hst2
  have HM2 := Lib.hid (And.intro hm2 hst2)
  clear hm2 hst2
  have hCl : Kl Pr V.drew _ := Kl.of hst
  refine hK.out (.inr hCl) ?_
  clear hK K'
  refine wpAnyL_each (fuel := 2) [8] (by kernel_rfl) (by simp) (by kernel_rfl) ?_
  refine EachL.cons _ rfl (fun K' hK => ?_) EachL.nil
  go_simp
  refine (HC.out.2.2 _ _ (HQ.out.2.2.1.step HM2.out.2).l).mono ?_
  rintro e z3 ⟨y1v, rfl, hm3⟩
  obtain ⟨ay_r, cy_r, rfl, -, -⟩ := hm3.bytes.form rfl
  have hst3 := below_step HM2.out.2 HM2.out.2.size hm3.below
  have hst := (hPr _).2 hst3
  have r0 := LK.cell (HQ.out.2.1.step hst3) 0
  have r1 := LK.cell (HQ.out.2.1.step hst3) 1
  have r2 := LK.cell (HQ.out.2.1.step hst3) 2
  have r3 := LK.cell (HQ.out.2.1.step hst3) 3
  simp at r0 r1 r2 r3
  have s0 := LK.frozen (HQ.out.2.1.step hst3) 0
  have s1 := LK.frozen (HQ.out.2.1.step hst3) 1
  have s2 := LK.frozen (HQ.out.2.1.step hst3) 2
  have s3 := LK.frozen (HQ.out.2.1.step hst3) 3
  have HM3 := Lib.hid (And.intro hm3 hst3)
  clear hm3 hst3
  have hCl : Kl Pr V.drew _ := Kl.of hst
  refine hK.out (.inr hCl) ?_
  clear hK K'
  refine wpAnyL_each (fuel := 1) [9] (by kernel_rfl) (by simp) (by kernel_rfl) ?_
  refine EachL.cons _ rfl (fun K' hK => ?_) EachL.nil
  go_simp
  have hst := (hPr _).2 HM3.out.2
  have hCl : Kl Pr V.drew _ := Kl.of hst
  refine hK.out (.inr hCl) ?_
  clear hK K'
  refine wpAnyL_each (fuel := 0) [10] (by kernel_rfl) (by simp) (by kernel_rfl) ?_
  refine EachL.cons _ rfl (fun K' hK => ?_) EachL.nil
  go_simp
  refine hK.out (.inl rfl) ?_
  clear hK K'
  refine wpAnyL_done (by kernel_rfl) ?_ _
  clear x0 x1 x2 x3
  go_wp2
  refine bodyPost_ret (v := .agg #[.slice ab_r s.disk.blocks.length cb_r, .slice au_r s.disk.waits.length cu_r, .slice ax_r s.now.length cx_r, .slice ay_r s.last.length cy_r]) (by simp [results, Try.results89, go_sem, r0, r1, r2, r3]) rfl ⟨_, _, _, _, rfl, ?_⟩
  obtain ⟨hm1, h1⟩ := HM1.out
  obtain ⟨hm2, h2⟩ := HM2.out
  obtain ⟨hm3, h3⟩ := HM3.out
  have g1 := hm1.below.size
  have g2 := hm2.below.size
  have g3 := hm3.below.size
  have gV : w.heap.size + 1 < V.heap.size := sz_V
  have hv : V.heap.size ≤ z1.heap.size := h1.size
  have hd := (hm1.disk.below (hm2.below.trans (hm3.below.mono g2)) (Nat.le_refl _))
  have hn := hm2.bytes.below hm3.below (Nat.le_refl _)
  have ht := thawed_below hm2.bytes hm2.thawed hm3.below (Nat.le_refl _)
  have hs : StoreT z3 (w.heap.size + 2) z3.heap.size (.slice ab_r s.disk.blocks.length cb_r) (.slice au_r s.disk.waits.length cu_r) (.slice ax_r s.now.length cx_r) (.slice ay_r s.last.length cy_r) s := ⟨DiskT.more hd (by show w.heap.size + 2 ≤ V.heap.size; omega) (by omega), ⟨hn.more (by omega) (by omega), ht⟩, ⟨hm3.bytes.more (by omega) (Nat.le_refl _), hm3.thawed⟩⟩
  have hsz : ∀ a b c d : Value, ((((z3.setCell ⟨w.heap.size + 1, 0, none⟩ a).setCell ⟨w.heap.size + 1, 1, none⟩ b).setCell ⟨w.heap.size + 1, 2, none⟩ c).setCell ⟨w.heap.size + 1, 3, none⟩ d).heap.size = z3.heap.size := fun a b c d => by simp only [World.size_setCell]
  refine ⟨(hs.keep (kp_four z3 _ _ _ _ (.inl (Nat.lt_succ_self _)))).more (by omega) (by rw [hsz]; exact Nat.le_refl _), ?_⟩
  exact Below.trans (LW.step HQ.out.2.2.2 h3) (below_four z3 _ _ _ _ (Nat.le_succ _))

end Go.Proofs.Ytcibihakjcenaaa

namespace Go.Proofs.Ytcibihakjcenaaa
open Go.RowKit

/-- A row of the call's own that holds writes. -/
def OwnW (base : Nat) (W w : World) (v : Value) (l : List WrL) : Prop := ∃ xs, w.ownsRow base 143 2 v l.length xs ∧ ∀ j x, l[j]? = some x → (xs[j * 2]? = some (.int .i64 x.at_) ∧ (Lit.int .i64 x.at_).wf = true) ∧ ∃ y, xs[j * 2 + 1]? = some y ∧ Bytes W 0 W.heap.size y x.data
theorem OwnW.nil_ (base : Nat) (W w : World) : OwnW base W w (.slice none 0 0) [] := ⟨[], World.ownsRow_nil _ _ _ _, fun j x h => by simp at h⟩
theorem OwnW.sl {base : Nat} {W w : World} {v : Value} {l : List WrL} (h : OwnW base W w v l) (hB : Below W.heap.size W w) : Sl rWrite w 0 w.heap.size v l := by
  obtain ⟨xs, ⟨hl, hrow⟩, hx⟩ := h
  rcases hrow with ⟨rfl, h0⟩ | ⟨g, cap, cur, rfl, hg, hh, h1, h2, h3, h4⟩
  · have : l = [] := List.eq_nil_of_length_eq_zero (by omega)
    subst this
    exact Sl.nil_ _ _ _
  · refine ⟨_, _, rfl, h1, h2, fun _ => ⟨g, 0, rfl, Nat.zero_le _, (Array.getElem?_eq_some_iff.1 hh).1, fun i x hxi => ?_⟩, fun h => by cases h⟩
    have hi : i < l.length := (List.getElem?_eq_some_iff.1 hxi).1
    obtain ⟨⟨e1, e2⟩, y, e3, e4⟩ := hx i x hxi
    have hc : ∀ j u, xs[j]? = some u → w.cell? ⟨g, j, none⟩ = some u := by
      intro j u hj
      rw [blk_cell hh, ← hj, ← h4, List.getElem?_take, if_pos]
      · simp
      · have := (List.getElem?_eq_some_iff.1 hj).1
        rw [hl] at this
        exact this
    refine ⟨?_, e2, y, ?_, (e4.below hB (Nat.le_refl _)).more (Nat.le_refl _) hB.size⟩
    · show w.cell? ⟨g, 0 + i * 2 + 0, none⟩ = _
      rw [Nat.zero_add, Nat.add_zero]
      exact hc _ _ e1
    · show w.cell? ⟨g, 0 + i * 2 + 1, none⟩ = _
      rw [Nat.zero_add]
      exact hc _ _ e3

end Go.Proofs.Ytcibihakjcenaaa

namespace Go.Proofs.Ytcibihakjcenaaa
open Go.RowKit

/-- A store that is not great. -/
def SmallS (s : StoreL) : Prop := (s.disk.blocks.length ≤ 300 ∧ s.disk.waits.length ≤ 5000 ∧ (datD s.disk).flatten.length ≤ 800000) ∧ s.now.length ≤ 10000 ∧ s.last.length ≤ 10000
set_option maxRecDepth 100000 in
set_option maxHeartbeats 1000000 in
theorem great8_any (b_s u_s x_s y_s : Value) (s : StoreL) (w : World) (h_s : StoreV w 0 w.heap.size b_s u_s x_s y_s s) :
    Calls Try.prog 25 #[.agg #[b_s, u_s, x_s, y_s]] w fun e w' => ∃ g, e = .returned (.bool g) ∧ Below w.heap.size w w' ∧ (g = false → SmallS s) := by
  obtain ⟨ab_s, cb_s, rfl, gb_s, gc_s, -, -⟩ := h_s.1.1
  obtain ⟨au_s, cu_s, rfl, gu_s, gv_s, -, -⟩ := h_s.1.2
  obtain ⟨ax_s, cx_s, rfl, gx_s, gz_s⟩ := h_s.2.1.form rfl
  obtain ⟨ay_s, cy_s, rfl, gy_s, gw_s⟩ := h_s.2.2.form rfl
  unfold maxLen at gc_s gv_s gz_s gw_s
  have hst := ((Below.refl w.heap.size w).alloc (Nat.le_refl _) (.cells #[.slice ab_s s.disk.blocks.length cb_s, .slice au_s s.disk.waits.length cu_s, .slice ax_s s.now.length cx_s, .slice ay_s s.last.length cy_s] 46))
  have q_s := LK.new w (.cells #[.slice ab_s s.disk.blocks.length cb_s, .slice au_s s.disk.waits.length cu_s, .slice ax_s s.now.length cx_s, .slice ay_s s.last.length cy_s] 46)
  have hB : LW w _ := hst
  have O_s := (LO.of h_s (Nat.le_refl _)).step hst
  have sz_V : w.heap.size + 0 < (w.alloc (.cells #[.slice ab_s s.disk.blocks.length cb_s, .slice au_s s.disk.waits.length cu_s, .slice ax_s s.now.length cx_s, .slice ay_s s.last.length cy_s] 46)).heap.size := by simp
  obtain ⟨V, hV⟩ : ∃ V, (w.alloc (.cells #[.slice ab_s s.disk.blocks.length cb_s, .slice au_s s.disk.waits.length cu_s, .slice ax_s s.now.length cx_s, .slice ay_s s.last.length cy_s] 46)) = V := ⟨_, rfl⟩
  rw [hV] at sz_V q_s O_s hB
  clear hst h_s
  have HQ := Lib.hid (And.intro q_s (And.intro O_s hB))
  clear q_s O_s hB
  have c_q_s0 := LK.cell HQ.out.1 0
  have c_q_s1 := LK.cell HQ.out.1 1
  have c_q_s2 := LK.cell HQ.out.1 2
  have c_q_s3 := LK.cell HQ.out.1 3
  simp at c_q_s0 c_q_s1 c_q_s2 c_q_s3
  have k_g := fun V b u hh => great_any b u s.disk V hh
  have HC := Lib.hid (k_g)
  clear k_g
  go_enter Try.func25, Try.ntmps25
  go_upto_region 1 with (fail)
  clear hV
  go_wp2_with fail
  refine (HC.out _ _ _ HQ.out.2.1.d).mono ?_
  rintro e w1 ⟨g, rfl, hst, hg⟩
  clear c_q_s0 c_q_s1 c_q_s2 c_q_s3
  obtain ⟨q_s, O_s, hB⟩ := HQ.out
  clear HQ
  have sz_w1 : V.heap.size ≤ w1.heap.size := hst.size
  replace q_s := q_s.step hst
  replace O_s := O_s.step hst
  replace hB := hB.step hst
  clear hst
  have HQ := Lib.hid (And.intro q_s (And.intro O_s hB))
  clear q_s O_s hB
  have c_q_s0 := LK.cell HQ.out.1 0
  have c_q_s1 := LK.cell HQ.out.1 1
  have c_q_s2 := LK.cell HQ.out.1 2
  have c_q_s3 := LK.cell HQ.out.1 3
  simp at c_q_s0 c_q_s1 c_q_s2 c_q_s3
  cases g
  case true =>
    go_wp2
    go_ret
    exact ⟨true, rfl, HQ.out.2.2, fun h => by cases h⟩
  have hg := hg rfl
  have HG := Lib.hid hg
  clear hg
  by_cases h1 : 10000 < s.now.length
  · have i1 : (10000 : Int) < s.now.length := by omega
    go_wp2
    go_ret
    exact ⟨true, rfl, HQ.out.2.2, fun h => by cases h⟩
  have i1 : decide ((10000 : Int) < s.now.length) = false := by simp; omega
  by_cases h2 : 10000 < s.last.length
  · have i2 : (10000 : Int) < s.last.length := by omega
    go_wp2
    go_ret
    exact ⟨true, rfl, HQ.out.2.2, fun h => by cases h⟩
  have i2 : decide ((10000 : Int) < s.last.length) = false := by simp; omega
  go_wp2
  go_ret
  exact ⟨false, rfl, HQ.out.2.2, fun _ => ⟨HG.out, by omega, by omega⟩⟩

theorem errAs_cases (s : StoreL) (p : Int) : (errS s = 8 ∧ errAs s p = 8) ∨ (errS s = 0 ∧ mayS s = true ∧ ((p < 8 ∧ errAs s p = 2) ∨ (256 ≤ p ∧ errAs s p = 2) ∨
    ∃ pn : Nat, p = pn ∧ 8 ≤ pn ∧ pn < 256 ∧ ((s.now.getD pn 0 = 0 ∧ errAs s p = 6) ∨ (s.now.getD pn 0 ≠ 0 ∧ errAs s p = 0)))) := by
  unfold errS errAs
  cases hm : mayS s with
  | false => exact .inl ⟨rfl, rfl⟩
  | true =>
    refine .inr ⟨rfl, rfl, ?_⟩
    rw [if_pos rfl]
    by_cases h1 : p < 8
    · exact .inl ⟨h1, by rw [if_pos (.inl h1)]⟩
    by_cases h2 : 256 ≤ p
    · exact .inr (.inl ⟨h2, by rw [if_pos (.inr h2)]⟩)
    obtain ⟨pn, rfl⟩ : ∃ pn : Nat, p = pn := ⟨p.toNat, by omega⟩
    refine .inr (.inr ⟨pn, rfl, by omega, by omega, ?_⟩)
    rw [if_neg (by omega), Int.toNat_natCast]
    by_cases h3 : s.now.getD pn 0 = 0
    · exact .inl ⟨h3, by rw [if_pos h3]⟩
    · exact .inr ⟨h3, by rw [if_neg h3]⟩
theorem u8_nz {x : UInt8} (h : x ≠ 0) : ¬ (x.toNat : Int) = 0 := fun e => h (u8_inj (by show x.toNat = 0; omega))

set_option maxRecDepth 100000 in
set_option maxHeartbeats 1000000 in
theorem sasked_any (b_s u_s x_s y_s : Value) (s : StoreL) (p : Int) (w : World) (h_s : StoreV w 0 w.heap.size b_s u_s x_s y_s s) :
    Calls Try.prog 87 #[.agg #[b_s, u_s, x_s, y_s], .int .i64 p] w fun e w' => e = .returned (.int .i64 (errAs s p)) ∧ Below w.heap.size w w' := by
  obtain ⟨ab_s, cb_s, rfl, gb_s, gc_s, -, -⟩ := h_s.1.1
  obtain ⟨au_s, cu_s, rfl, gu_s, gv_s, -, -⟩ := h_s.1.2
  obtain ⟨ax_s, cx_s, rfl, gx_s, gz_s⟩ := h_s.2.1.form rfl
  obtain ⟨ay_s, cy_s, rfl, gy_s, gw_s⟩ := h_s.2.2.form rfl
  unfold maxLen at gc_s gv_s gz_s gw_s
  have hst := ((Below.refl w.heap.size w).alloc (Nat.le_refl _) (.cells #[.slice ab_s s.disk.blocks.length cb_s, .slice au_s s.disk.waits.length cu_s, .slice ax_s s.now.length cx_s, .slice ay_s s.last.length cy_s] 46))
  have q_s := LK.new w (.cells #[.slice ab_s s.disk.blocks.length cb_s, .slice au_s s.disk.waits.length cu_s, .slice ax_s s.now.length cx_s, .slice ay_s s.last.length cy_s] 46)
  have hB : LW w _ := hst
  have O_s := (LO.of h_s (Nat.le_refl _)).step hst
  have sz_V : w.heap.size + 0 < (w.alloc (.cells #[.slice ab_s s.disk.blocks.length cb_s, .slice au_s s.disk.waits.length cu_s, .slice ax_s s.now.length cx_s, .slice ay_s s.last.length cy_s] 46)).heap.size := by simp
  obtain ⟨V, hV⟩ : ∃ V, (w.alloc (.cells #[.slice ab_s s.disk.blocks.length cb_s, .slice au_s s.disk.waits.length cu_s, .slice ax_s s.now.length cx_s, .slice ay_s s.last.length cy_s] 46)) = V := ⟨_, rfl⟩
  rw [hV] at sz_V q_s O_s hB
  clear hst h_s
  have HQ := Lib.hid (And.intro q_s (And.intro O_s hB))
  clear q_s O_s hB
  have c_q_s0 := LK.cell HQ.out.1 0
  have c_q_s1 := LK.cell HQ.out.1 1
  have c_q_s2 := LK.cell HQ.out.1 2
  have c_q_s3 := LK.cell HQ.out.1 3
  simp at c_q_s0 c_q_s1 c_q_s2 c_q_s3
  have hE := errAs_cases s p
  obtain ⟨es, hes⟩ : ∃ e, errS s = e := ⟨_, rfl⟩
  obtain ⟨ea, hea⟩ : ∃ e, errAs s p = e := ⟨_, rfl⟩
  have k_c := fun V b u x y hh => scheck_any b u x y s V hh
  rw [hes] at k_c hE
  rw [hea] at hE ⊢
  clear hes hea
  have HC := Lib.hid (k_c)
  clear k_c
  go_enter Try.func87, Try.ntmps87
  go_upto_region 1 with (fail)
  clear hV
  go_wp2_with fail
  refine (HC.out _ _ _ _ _ HQ.out.2.1.v).mono ?_
  rintro e w1 ⟨rfl, hst⟩
  clear c_q_s0 c_q_s1 c_q_s2 c_q_s3
  obtain ⟨q_s, O_s, hB⟩ := HQ.out
  clear HQ
  have sz_w1 : V.heap.size ≤ w1.heap.size := hst.size
  replace q_s := q_s.step hst
  replace O_s := O_s.step hst
  replace hB := hB.step hst
  clear hst
  have HQ := Lib.hid (And.intro q_s (And.intro O_s hB))
  clear q_s O_s hB
  have c_q_s0 := LK.cell HQ.out.1 0
  have c_q_s1 := LK.cell HQ.out.1 1
  have c_q_s2 := LK.cell HQ.out.1 2
  have c_q_s3 := LK.cell HQ.out.1 3
  simp at c_q_s0 c_q_s1 c_q_s2 c_q_s3
  rcases hE with ⟨rfl, rfl⟩ | ⟨rfl, hm, ⟨hp, rfl⟩ | ⟨hp, rfl⟩ | ⟨pn, rfl, h8, h9, hx⟩⟩
  · skip
    go_wp2
    go_ret
    exact ⟨rfl, HQ.out.2.2⟩
  · have i1 : p < 8 := hp
    go_wp2
    go_ret
    exact ⟨rfl, HQ.out.2.2⟩
  · have i1 : ¬ p < 8 := by omega
    go_wp2
    go_ret
    exact ⟨rfl, HQ.out.2.2⟩
  have h256 := mayT_len (mayS_iff.1 hm).2.1
  obtain ⟨nb, no, nc, e1, -, zb, z1, zc, hcell⟩ := HQ.out.2.1.n.at_n h256 (by omega)
  injection e1 with e1 _ e2
  subst e1 e2
  have hcx := hcell pn (s.now.getD pn 0) (get_l _ _ _ (by omega))
  unfold maxLen at zc
  rw [h256] at c_q_s2
  obtain ⟨z, hz⟩ : ∃ z, s.now.getD pn 0 = z := ⟨_, rfl⟩
  rw [hz] at hx hcx
  simp only [bV] at hcx
  have HM := Lib.hid (And.intro hcell h256)
  clear hcell h256 hz hm
  have i1 : ¬ ((pn : Int) < 8) := by omega
  have i2 : ¬ ((256 : Int) ≤ pn) := by omega
  rcases hx with ⟨rfl, rfl⟩ | ⟨hx, rfl⟩
  · have z0 : ((0 : UInt8).toNat : Int) = 0 := rfl
    rw [z0] at hcx
    go_wp2
    go_ret
    exact ⟨rfl, HQ.out.2.2⟩
  · have hx2 := u8_nz hx
    generalize (z.toNat : Int) = zi at *
    go_wp2
    go_ret
    exact ⟨rfl, HQ.out.2.2⟩

def newS : StoreL := ⟨newD, List.replicate 256 0, List.replicate 256 0⟩

set_option maxRecDepth 100000 in
set_option maxHeartbeats 1000000 in
theorem snew_any  (w : World)  :
    Calls Try.prog 80 #[] w fun e w' => ∃ b u x y, e = .returned (.agg #[b, u, x, y]) ∧ MadeS w w' b u x y newS := by
  have hst := ((Below.refl w.heap.size w).alloc (Nat.le_refl _) (.cells #[.slice none 0 0, .slice none 0 0, .slice none 0 0, .slice none 0 0] 46))
  have q_r := LK.new w (.cells #[.slice none 0 0, .slice none 0 0, .slice none 0 0, .slice none 0 0] 46)
  have hB : LW w _ := hst
  have sz_V : w.heap.size + 0 < (w.alloc (.cells #[.slice none 0 0, .slice none 0 0, .slice none 0 0, .slice none 0 0] 46)).heap.size := by simp
  obtain ⟨V, hV⟩ : ∃ V, (w.alloc (.cells #[.slice none 0 0, .slice none 0 0, .slice none 0 0, .slice none 0 0] 46)) = V := ⟨_, rfl⟩
  rw [hV] at sz_V q_r hB
  clear hst 
  have HQ := Lib.hid (And.intro q_r hB)
  clear q_r hB
  have c_q_r0 := LK.cell HQ.out.1 0
  have c_q_r1 := LK.cell HQ.out.1 1
  have c_q_r2 := LK.cell HQ.out.1 2
  have c_q_r3 := LK.cell HQ.out.1 3
  simp at c_q_r0 c_q_r1 c_q_r2 c_q_r3
  obtain ⟨dn, hdn⟩ : ∃ d, newD = d := ⟨_, rfl⟩
  obtain ⟨R, hR⟩ : ∃ R, List.replicate 256 (0 : UInt8) = R := ⟨_, rfl⟩
  have k_d := fun V => dnew_any V
  have k_n := fun V => cnew_any V
  rw [hdn] at k_d
  rw [hR] at k_n
  have hs : newS = ⟨dn, R, R⟩ := by rw [← hdn, ← hR]; rfl
  rw [hs]
  have hdw : dn.waits.length = 0 := by rw [← hdn]; rfl
  have HDW := Lib.hid hdw
  clear hs hdn hR hdw
  have HC := Lib.hid (And.intro k_d k_n)
  clear k_d k_n
  go_enter Try.func80, Try.ntmps80
  go_upto_region 1 with (fail)
  clear hV
  go_wp2_with fail
  refine (HC.out.1 _).mono ?_
  rintro e w1 ⟨b1, rfl, hm⟩
  clear c_q_r0 c_q_r1 c_q_r2 c_q_r3
  obtain ⟨q_r, hB⟩ := HQ.out
  clear HQ
  have D_d := LT.of hm
  have hst := hm.below
  obtain ⟨ab_r, cb_r, rfl, -, -, -, -⟩ := hm.v0.1
  clear hm
  have sz_w1 : V.heap.size ≤ w1.heap.size := hst.size
  replace q_r := q_r.step hst
  replace hB := hB.step hst
  clear hst
  have HQ := Lib.hid (And.intro q_r (And.intro D_d hB))
  clear q_r D_d hB
  have c_q_r0 := LK.cell HQ.out.1 0
  have c_q_r1 := LK.cell HQ.out.1 1
  have c_q_r2 := LK.cell HQ.out.1 2
  have c_q_r3 := LK.cell HQ.out.1 3
  simp at c_q_r0 c_q_r1 c_q_r2 c_q_r3
  go_wp2_with fail
  refine (HC.out.2 _).mono ?_
  rintro e w2 ⟨v1, rfl, hm⟩
  clear c_q_r0 c_q_r1 c_q_r2 c_q_r3
  obtain ⟨q_r, D_d, hB⟩ := HQ.out
  clear HQ
  have B_n := LM.of hm
  have hst := hm.below
  obtain ⟨a_n, c_n, rfl, -, -⟩ := hm.bytes.form rfl
  clear hm
  have sz_w2 : w1.heap.size ≤ w2.heap.size := hst.size
  replace q_r := q_r.step hst
  replace D_d := D_d.step hst
  replace hB := hB.step hst
  clear hst
  have HQ := Lib.hid (And.intro q_r (And.intro D_d (And.intro B_n hB)))
  clear q_r D_d B_n hB
  have c_q_r0 := LK.cell HQ.out.1 0
  have c_q_r1 := LK.cell HQ.out.1 1
  have c_q_r2 := LK.cell HQ.out.1 2
  have c_q_r3 := LK.cell HQ.out.1 3
  simp at c_q_r0 c_q_r1 c_q_r2 c_q_r3
  go_wp2_with fail
  refine (HC.out.2 _).mono ?_
  rintro e w3 ⟨v2, rfl, hm⟩
  clear c_q_r0 c_q_r1 c_q_r2 c_q_r3
  obtain ⟨q_r, D_d, B_n, hB⟩ := HQ.out
  clear HQ
  have B_l := LM.of hm
  have hst := hm.below
  obtain ⟨a_l, c_l, rfl, -, -⟩ := hm.bytes.form rfl
  clear hm
  have sz_w3 : w2.heap.size ≤ w3.heap.size := hst.size
  replace q_r := q_r.step hst
  replace D_d := D_d.step hst
  replace B_n := B_n.step hst
  replace hB := hB.step hst
  clear hst
  have HQ := Lib.hid (And.intro q_r (And.intro D_d (And.intro B_n (And.intro B_l hB))))
  clear q_r D_d B_n B_l hB
  have c_q_r0 := LK.cell HQ.out.1 0
  have c_q_r1 := LK.cell HQ.out.1 1
  have c_q_r2 := LK.cell HQ.out.1 2
  have c_q_r3 := LK.cell HQ.out.1 3
  have z_q_r0 := LK.frozen HQ.out.1 0
  have z_q_r1 := LK.frozen HQ.out.1 1
  have z_q_r2 := LK.frozen HQ.out.1 2
  have z_q_r3 := LK.frozen HQ.out.1 3
  simp at c_q_r0 c_q_r1 c_q_r2 c_q_r3
  go_wp2
  refine bodyPost_ret (v := .agg #[.slice ab_r dn.blocks.length cb_r, .slice none 0 0, .slice a_n R.length c_n, .slice a_l R.length c_l]) (by simp [results, Try.results80, go_sem, c_q_r0, c_q_r1, c_q_r2, c_q_r3]) rfl ⟨_, _, _, _, rfl, ?_⟩
  have hL : MadeL w w3 (w.heap.size + 1) _ _ _ _ ⟨dn, R, R⟩ := ⟨⟨DiskT.more HQ.out.2.1.t (by omega) (Lv.hi_le HQ.out.2.1), ⟨HQ.out.2.2.1.m.1.more (by omega) (Lv.hi_le HQ.out.2.2.1), HQ.out.2.2.1.m.2⟩, ⟨HQ.out.2.2.2.1.m.1.more (by omega) (Lv.hi_le HQ.out.2.2.2.1), HQ.out.2.2.2.1.m.2⟩⟩, HQ.out.2.2.2.2⟩
  exact (hL.four w.heap.size _ _ _ _ (Nat.le_refl _) (Nat.lt_succ_self _)).made (Nat.le_succ _)

end Go.Proofs.Ytcibihakjcenaaa

namespace Go.Proofs.Ytcibihakjcenaaa
open Go.RowKit

theorem share_cases (s : StoreL) (p : Int) : (errAs s p ≠ 0 ∧ errSh s p = errAs s p ∧ shareS s p = noS) ∨ (errAs s p = 0 ∧ errT s.now p 255 ≠ 0 ∧ errSh s p = errT s.now p 255 ∧ shareS s p = noS) ∨
    (errAs s p = 0 ∧ errT s.now p 255 = 0 ∧ errSh s p = 0 ∧ shareS s p = ⟨s.disk, outT s.now p 1 255, s.last⟩ ∧ FewS ⟨s.disk, outT s.now p 1 255, s.last⟩) := by
  by_cases h : errAs s p = 0
  · have h1 : errSh s p = errT s.now p 255 := by
      obtain ⟨hm, h8, h9, hn⟩ := errAs_zero h
      unfold errSh errT
      rw [if_neg (by simp [h]), if_pos (mayS_iff.1 hm).2.1, if_neg (show ¬ (p < 8 ∨ 256 ≤ p) by omega)]
    by_cases h2 : errT s.now p 255 = 0
    · refine .inr (.inr ⟨h, h2, by rw [h1, h2], ?_⟩)
      have h3 : errSh s p = 0 := by rw [h1, h2]
      have e : shareS s p = ⟨s.disk, outT s.now p 1 255, s.last⟩ := by
        rw [(share_is h3).1]
        unfold outT
        rw [if_pos h2]
      refine ⟨e, ?_⟩
      rw [← e]
      exact FewS.of_may (share_is h3).2.1
    · exact .inr (.inl ⟨h, h2, h1, by unfold shareS; rw [h1, if_neg h2]⟩)
  · have h1 : errSh s p = errAs s p := by unfold errSh; rw [if_pos h]
    exact .inl ⟨h, h1, by unfold shareS; rw [h1, if_neg h]⟩

set_option maxRecDepth 100000 in
set_option maxHeartbeats 1000000 in
theorem sshare_any (b_s u_s x_s y_s : Value) (s : StoreL) (p : Int) (w : World) (h_s : StoreV w 0 w.heap.size b_s u_s x_s y_s s) :
    Calls Try.prog 40 #[.agg #[b_s, u_s, x_s, y_s], .int .i64 p] w fun e w' => ∃ b u x y, e = .returned (.tuple #[.agg #[b, u, x, y], .int .i64 (errSh s p)]) ∧ MadeS w w' b u x y (shareS s p) := by
  obtain ⟨ab_s, cb_s, rfl, gb_s, gc_s, -, -⟩ := h_s.1.1
  obtain ⟨au_s, cu_s, rfl, gu_s, gv_s, -, -⟩ := h_s.1.2
  obtain ⟨ax_s, cx_s, rfl, gx_s, gz_s⟩ := h_s.2.1.form rfl
  obtain ⟨ay_s, cy_s, rfl, gy_s, gw_s⟩ := h_s.2.2.form rfl
  unfold maxLen at gc_s gv_s gz_s gw_s
  have hst := (((Below.refl w.heap.size w).alloc (Nat.le_refl _) (.cells #[.slice ab_s s.disk.blocks.length cb_s, .slice au_s s.disk.waits.length cu_s, .slice ax_s s.now.length cx_s, .slice ay_s s.last.length cy_s] 46)).alloc (by simp) (.cells #[.slice none 0 0, .slice none 0 0, .slice none 0 0, .slice none 0 0] 46))
  have hq := two_new w (.cells #[.slice ab_s s.disk.blocks.length cb_s, .slice au_s s.disk.waits.length cu_s, .slice ax_s s.now.length cx_s, .slice ay_s s.last.length cy_s] 46) (.cells #[.slice none 0 0, .slice none 0 0, .slice none 0 0, .slice none 0 0] 46)
  have q_s := LK.of hq.1
  have q_r := LK.of hq.2
  have hB : LW w _ := hst
  have O_s := (LO.of h_s (Nat.le_refl _)).step hst
  have sz_V : w.heap.size + 1 < ((w.alloc (.cells #[.slice ab_s s.disk.blocks.length cb_s, .slice au_s s.disk.waits.length cu_s, .slice ax_s s.now.length cx_s, .slice ay_s s.last.length cy_s] 46)).alloc (.cells #[.slice none 0 0, .slice none 0 0, .slice none 0 0, .slice none 0 0] 46)).heap.size := by simp
  obtain ⟨V, hV⟩ : ∃ V, ((w.alloc (.cells #[.slice ab_s s.disk.blocks.length cb_s, .slice au_s s.disk.waits.length cu_s, .slice ax_s s.now.length cx_s, .slice ay_s s.last.length cy_s] 46)).alloc (.cells #[.slice none 0 0, .slice none 0 0, .slice none 0 0, .slice none 0 0] 46)) = V := ⟨_, rfl⟩
  rw [hV] at sz_V q_s q_r O_s hB
  clear hst h_s hq
  have HQ := Lib.hid (And.intro q_s (And.intro q_r (And.intro O_s hB)))
  clear q_s q_r O_s hB
  have c_q_s0 := LK.cell HQ.out.1 0
  have c_q_s1 := LK.cell HQ.out.1 1
  have c_q_s2 := LK.cell HQ.out.1 2
  have c_q_s3 := LK.cell HQ.out.1 3
  have c_q_r0 := LK.cell HQ.out.2.1 0
  have c_q_r1 := LK.cell HQ.out.2.1 1
  have c_q_r2 := LK.cell HQ.out.2.1 2
  have c_q_r3 := LK.cell HQ.out.2.1 3
  simp at c_q_s0 c_q_s1 c_q_s2 c_q_s3 c_q_r0 c_q_r1 c_q_r2 c_q_r3
  have hE := share_cases s p
  obtain ⟨ea, hea⟩ : ∃ e, errAs s p = e := ⟨_, rfl⟩
  obtain ⟨et, het⟩ : ∃ e, errT s.now p 255 = e := ⟨_, rfl⟩
  obtain ⟨ot, hot⟩ : ∃ e, outT s.now p 1 255 = e := ⟨_, rfl⟩
  have k_a := fun V b u x y hh => sasked_any b u x y s p V hh
  have k_u := fun V v hh => cup_any v s.now p V hh
  rw [hea] at k_a hE
  rw [het, hot] at k_u
  rw [het, hot] at hE
  have k_t := fun (hf : FewS ⟨s.disk, ot, s.last⟩) V b u x y (h1 : DiskV V 0 V.heap.size b u s.disk) (h2 : Bytes V 0 V.heap.size x ot) (h3 : Bytes V 0 V.heap.size y s.last) => stwin_any b u x y ⟨s.disk, ot, s.last⟩ V ⟨h1, h2, h3⟩ hf
  obtain ⟨es, hes⟩ : ∃ e, errSh s p = e := ⟨_, rfl⟩
  obtain ⟨so, hso⟩ : ∃ e, shareS s p = e := ⟨_, rfl⟩
  rw [hes, hso] at hE ⊢
  clear hea het hot hes hso
  have HC := Lib.hid (And.intro k_a (And.intro k_u k_t))
  clear k_a k_u k_t
  go_enter Try.func40, Try.ntmps40
  go_upto_region 1 with (fail)
  clear hV
  go_wp2_with fail
  refine (HC.out.1 _ _ _ _ _ HQ.out.2.2.1.v).mono ?_
  rintro e w1 ⟨rfl, hst⟩
  clear c_q_s0 c_q_s1 c_q_s2 c_q_s3 c_q_r0 c_q_r1 c_q_r2 c_q_r3
  obtain ⟨q_s, q_r, O_s, hB⟩ := HQ.out
  clear HQ
  have sz_w1 : V.heap.size ≤ w1.heap.size := hst.size
  replace q_s := q_s.step hst
  replace q_r := q_r.step hst
  replace O_s := O_s.step hst
  replace hB := hB.step hst
  clear hst
  have HQ := Lib.hid (And.intro q_s (And.intro q_r (And.intro O_s hB)))
  clear q_s q_r O_s hB
  have c_q_s0 := LK.cell HQ.out.1 0
  have c_q_s1 := LK.cell HQ.out.1 1
  have c_q_s2 := LK.cell HQ.out.1 2
  have c_q_s3 := LK.cell HQ.out.1 3
  have c_q_r0 := LK.cell HQ.out.2.1 0
  have c_q_r1 := LK.cell HQ.out.2.1 1
  have c_q_r2 := LK.cell HQ.out.2.1 2
  have c_q_r3 := LK.cell HQ.out.2.1 3
  have z_q_r0 := LK.frozen HQ.out.2.1 0
  have z_q_r1 := LK.frozen HQ.out.2.1 1
  have z_q_r2 := LK.frozen HQ.out.2.1 2
  have z_q_r3 := LK.frozen HQ.out.2.1 3
  simp at c_q_s0 c_q_s1 c_q_s2 c_q_s3 c_q_r0 c_q_r1 c_q_r2 c_q_r3
  rcases hE with ⟨hn, rfl, rfl⟩ | ⟨rfl, hn, rfl, rfl⟩ | ⟨rfl, rfl, rfl, rfl, hf⟩
  · have i1 : (es != 0) = true := by simp [hn]
    go_wp2
    refine bodyPost_ret (v := .tuple #[.agg #[.slice none 0 0, .slice none 0 0, .slice none 0 0, .slice none 0 0], .int .i64 es]) (by simp [results, Try.results40, go_sem, c_q_r0, c_q_r1, c_q_r2, c_q_r3]) rfl ⟨_, _, _, _, rfl, ?_⟩
    exact ((MadeL.nil_ (w.heap.size + 2) HQ.out.2.2.2).four (w.heap.size + 1) _ _ _ _ (Nat.le_succ _) (Nat.lt_succ_self _)).made (by omega)
  · skip
    go_wp2_with fail
    refine (HC.out.2.1 _ _ HQ.out.2.2.1.n).mono ?_
    rintro e w2 ⟨v, rfl, hm⟩
    clear z_q_r0 z_q_r1 z_q_r2 z_q_r3 c_q_s0 c_q_s1 c_q_s2 c_q_s3 c_q_r0 c_q_r1 c_q_r2 c_q_r3
    obtain ⟨q_s, q_r, O_s, hB⟩ := HQ.out
    clear HQ
    have hst := hm.below
    obtain ⟨a_n, c_n, rfl, -, -⟩ := hm.bytes.form rfl
    clear hm
    have sz_w2 : w1.heap.size ≤ w2.heap.size := hst.size
    replace q_s := q_s.step hst
    replace q_r := q_r.step hst
    replace O_s := O_s.step hst
    replace hB := hB.step hst
    clear hst
    have HQ := Lib.hid (And.intro q_s (And.intro q_r (And.intro O_s hB)))
    clear q_s q_r O_s hB
    have c_q_s0 := LK.cell HQ.out.1 0
    have c_q_s1 := LK.cell HQ.out.1 1
    have c_q_s2 := LK.cell HQ.out.1 2
    have c_q_s3 := LK.cell HQ.out.1 3
    have c_q_r0 := LK.cell HQ.out.2.1 0
    have c_q_r1 := LK.cell HQ.out.2.1 1
    have c_q_r2 := LK.cell HQ.out.2.1 2
    have c_q_r3 := LK.cell HQ.out.2.1 3
    have z_q_r0 := LK.frozen HQ.out.2.1 0
    have z_q_r1 := LK.frozen HQ.out.2.1 1
    have z_q_r2 := LK.frozen HQ.out.2.1 2
    have z_q_r3 := LK.frozen HQ.out.2.1 3
    simp at c_q_s0 c_q_s1 c_q_s2 c_q_s3 c_q_r0 c_q_r1 c_q_r2 c_q_r3
    have i1 : (es != 0) = true := by simp [hn]
    go_wp2
    refine bodyPost_ret (v := .tuple #[.agg #[.slice none 0 0, .slice none 0 0, .slice none 0 0, .slice none 0 0], .int .i64 es]) (by simp [results, Try.results40, go_sem, c_q_r0, c_q_r1, c_q_r2, c_q_r3]) rfl ⟨_, _, _, _, rfl, ?_⟩
    exact ((MadeL.nil_ (w.heap.size + 2) HQ.out.2.2.2).four (w.heap.size + 1) _ _ _ _ (Nat.le_succ _) (Nat.lt_succ_self _)).made (by omega)
  go_wp2_with fail
  refine (HC.out.2.1 _ _ HQ.out.2.2.1.n).mono ?_
  rintro e w2 ⟨v, rfl, hm⟩
  clear z_q_r0 z_q_r1 z_q_r2 z_q_r3 c_q_s0 c_q_s1 c_q_s2 c_q_s3 c_q_r0 c_q_r1 c_q_r2 c_q_r3
  obtain ⟨q_s, q_r, O_s, hB⟩ := HQ.out
  clear HQ
  have B_n := LM.of hm
  have hst := hm.below
  obtain ⟨a_n, c_n, rfl, -, -⟩ := hm.bytes.form rfl
  clear hm
  have sz_w2 : w1.heap.size ≤ w2.heap.size := hst.size
  replace q_s := q_s.step hst
  replace q_r := q_r.step hst
  replace O_s := O_s.step hst
  replace hB := hB.step hst
  clear hst
  have HQ := Lib.hid (And.intro q_s (And.intro q_r (And.intro O_s (And.intro B_n hB))))
  clear q_s q_r O_s B_n hB
  have c_q_s0 := LK.cell HQ.out.1 0
  have c_q_s1 := LK.cell HQ.out.1 1
  have c_q_s2 := LK.cell HQ.out.1 2
  have c_q_s3 := LK.cell HQ.out.1 3
  have c_q_r0 := LK.cell HQ.out.2.1 0
  have c_q_r1 := LK.cell HQ.out.2.1 1
  have c_q_r2 := LK.cell HQ.out.2.1 2
  have c_q_r3 := LK.cell HQ.out.2.1 3
  simp at c_q_s0 c_q_s1 c_q_s2 c_q_s3 c_q_r0 c_q_r1 c_q_r2 c_q_r3
  go_wp2_with fail
  refine (HC.out.2.2 hf _ _ _ _ _ HQ.out.2.2.1.d HQ.out.2.2.2.1.v HQ.out.2.2.1.l).mono ?_
  rintro e w3 ⟨b1, u1, x1, y1, rfl, hm⟩
  clear c_q_s0 c_q_s1 c_q_s2 c_q_s3 c_q_r0 c_q_r1 c_q_r2 c_q_r3
  obtain ⟨q_s, q_r, O_s, B_n, hB⟩ := HQ.out
  clear HQ
  have P_t := LP.of hm
  have hst := hm.below
  obtain ⟨ab_t, cb_t, rfl, -, -, -, -⟩ := hm.store.v.1.1
  obtain ⟨au_t, cu_t, rfl, -, -, -, -⟩ := hm.store.v.1.2
  obtain ⟨ax_t, cx_t, rfl, -, -⟩ := hm.store.v.2.1.form rfl
  obtain ⟨ay_t, cy_t, rfl, -, -⟩ := hm.store.v.2.2.form rfl
  clear hm
  have sz_w3 : w2.heap.size ≤ w3.heap.size := hst.size
  replace q_s := q_s.step hst
  replace q_r := q_r.step hst
  replace O_s := O_s.step hst
  replace B_n := B_n.step hst
  replace hB := hB.step hst
  clear hst
  have HQ := Lib.hid (And.intro q_s (And.intro q_r (And.intro O_s (And.intro B_n (And.intro P_t hB)))))
  clear q_s q_r O_s B_n P_t hB
  have c_q_s0 := LK.cell HQ.out.1 0
  have c_q_s1 := LK.cell HQ.out.1 1
  have c_q_s2 := LK.cell HQ.out.1 2
  have c_q_s3 := LK.cell HQ.out.1 3
  have c_q_r0 := LK.cell HQ.out.2.1 0
  have c_q_r1 := LK.cell HQ.out.2.1 1
  have c_q_r2 := LK.cell HQ.out.2.1 2
  have c_q_r3 := LK.cell HQ.out.2.1 3
  have z_q_r0 := LK.frozen HQ.out.2.1 0
  have z_q_r1 := LK.frozen HQ.out.2.1 1
  have z_q_r2 := LK.frozen HQ.out.2.1 2
  have z_q_r3 := LK.frozen HQ.out.2.1 3
  simp at c_q_s0 c_q_s1 c_q_s2 c_q_s3 c_q_r0 c_q_r1 c_q_r2 c_q_r3
  go_wp2
  refine bodyPost_ret (v := .tuple #[.agg #[.slice ab_t s.disk.blocks.length cb_t, .slice au_t s.disk.waits.length cu_t, .slice ax_t ot.length cx_t, .slice ay_t s.last.length cy_t], .int .i64 0]) (by simp [results, Try.results40, go_sem, c_q_r0, c_q_r1, c_q_r2, c_q_r3]) rfl ⟨_, _, _, _, rfl, ?_⟩
  exact (((MadeL.mk ((HQ.out.2.2.2.2.1.t).more (by omega) (Lv.hi_le HQ.out.2.2.2.2.1)) HQ.out.2.2.2.2.2 : MadeL w _ (w.heap.size + 2) _ _ _ _ ⟨s.disk, ot, s.last⟩)).four (w.heap.size + 1) _ _ _ _ (Nat.le_succ _) (Nat.lt_succ_self _)).made (by omega)

end Go.Proofs.Ytcibihakjcenaaa

