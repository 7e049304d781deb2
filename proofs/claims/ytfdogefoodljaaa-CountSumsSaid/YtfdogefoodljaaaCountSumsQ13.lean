/- CountSums: the words and contracts, part 13. -/
import Derived.Test.YtfdogefoodljaaaCountSumsQ1
import Derived.Test.YtfdogefoodljaaaCountSumsQ2
import Derived.Test.YtfdogefoodljaaaCountSumsQ4
import Derived.Test.YtfdogefoodljaaaCountSumsQ5
import Derived.Test.YtfdogefoodljaaaCountSumsQ6
import Derived.Test.YtfdogefoodljaaaCountSumsQ12
import Derived.WalkKit
import Derived.WalkLawsBesides
import Derived.WalkSpells
import Derived.Lib.Hide
import Derived.Laws.Rows
import Derived.Laws.AppendOwnNone
import Derived.Maps.AppendAt
import Derived.ProofKit
import Derived.Deep.Slices
import Derived.WideShapes
import Derived.RangeFuncNested
import Derived.RangeFuncBound
import Derived.RangeFuncCalls
import Derived.RangeFuncLeaves
import Derived.RangeFuncBox
import Derived.Shelf.Abstract
import Derived.Shelf.RegionOpen
import Derived.OwnWalkIn
import Derived.TacticsInMore
import Derived.LoopNIn
import Derived.LoopIn
import Derived.Lib.AppendZerosOnto
import Derived.Lib.SliceRun
import Derived.Lib.Walk
import Derived.Deep.LoopGhost
import Derived.Laws.CopyOwn
import Derived.Laws.CopyRow
import Derived.OrdersHeld
import Derived.Deep.QuietTactic
import Derived.BigQuiet
import Derived.StillTailTactics
import Derived.OpenShut
namespace Go.Proofs.Ytfdogefoodljaaa
open Go.RowKit

/-- P holds, wherever the blocks from lo on, below hi, are as they are here. -/
def Lv (lo hi : Nat) (P : World → Prop) (V : World) : Prop := hi ≤ V.heap.size ∧ ∀ V' : World, (∀ k, lo ≤ k → k < hi → V'.heap[k]? = V.heap[k]?) → P V'
section
variable {lo hi : Nat} {P : World → Prop} {V V' : World}
theorem Lv.get (h : Lv lo hi P V) : P V := h.2 V fun _ _ _ => rfl
theorem Lv.hi_le (h : Lv lo hi P V) : hi ≤ V.heap.size := h.1
theorem Lv.step (h : Lv lo hi P V) (hb : Below V.heap.size V V') : Lv lo hi P V' :=
  ⟨Nat.le_trans h.1 hb.size, fun W hW => h.2 W fun k h1 h2 => (hW k h1 h2).trans (hb.block k (Nat.lt_of_lt_of_le h2 h.1))⟩
/-- Blocks from n0 on, below h0, have turned, and no other ones. -/
theorem Lv.out {n0 h0 : Nat} (h : Lv lo hi P V) (hs : V.heap.size ≤ V'.heap.size) (hf : ∀ x, x < V.heap.size → (x < n0 ∨ h0 ≤ x) → V'.heap[x]? = V.heap[x]?) (hd : hi ≤ n0 ∨ h0 ≤ lo) : Lv lo hi P V' :=
  ⟨Nat.le_trans h.1 hs, fun W hW => h.2 W fun k h1 h2 => (hW k h1 h2).trans (hf k (Nat.lt_of_lt_of_le h2 h.1) (by omega))⟩
theorem Lv.mk' (h : hi ≤ V.heap.size) (hk : ∀ V', Kp lo hi V V' → P V') : Lv lo hi P V := ⟨h, fun W hW => hk W fun b o h1 h2 => ⟨heap_cell (hW b h1 h2) o, heap_frozen (hW b h1 h2) o⟩⟩
theorem Lv.imp {Q : World → Prop} (h : Lv lo hi P V) (hi' : ∀ W, P W → Q W) : Lv lo hi Q V := ⟨h.1, fun W hW => hi' W (h.2 W hW)⟩
theorem Lv.and {Q : World → Prop} (h : Lv lo hi P V) (k : Lv lo hi Q V) : Lv lo hi (fun W => P W ∧ Q W) V := ⟨h.1, fun W hW => ⟨h.2 W hW, k.2 W hW⟩⟩
theorem Lv.more {lo' hi' : Nat} (h : Lv lo hi P V) (h1 : lo' ≤ lo) (h2 : hi ≤ hi') (h3 : hi' ≤ V.heap.size) : Lv lo' hi' P V := ⟨h3, fun W hW => h.2 W fun k g1 g2 => hW k (by omega) (by omega)⟩
end
/-- A known block. -/
def LK (g : Nat) (o : Obj) (V : World) : Prop := Lv g (g + 1) (fun W => W.heap[g]? = some o) V
theorem LK.of {V : World} {g : Nat} {o : Obj} (h : V.heap[g]? = some o) : LK g o V := ⟨(Array.getElem?_eq_some_iff.1 h).1, fun _ hW => (hW g (Nat.le_refl _) (Nat.lt_succ_self _)).trans h⟩
theorem LK.new (w : World) (o : Obj) : LK w.heap.size o (w.alloc o) := LK.of (World.alloc_heap_new w o)
theorem LK.blk {V : World} {g : Nat} {o : Obj} (h : LK g o V) : V.heap[g]? = some o := Lv.get h
theorem LK.lt {V : World} {g : Nat} {o : Obj} (h : LK g o V) : g < V.heap.size := Lv.hi_le h
theorem LK.step {V V' : World} {g : Nat} {o : Obj} (h : LK g o V) (hb : Below V.heap.size V V') : LK g o V' := Lv.step h hb
theorem LK.out {V V' : World} {g n0 h0 : Nat} {o : Obj} (h : LK g o V) (hs : V.heap.size ≤ V'.heap.size) (hf : ∀ x, x < V.heap.size → (x < n0 ∨ h0 ≤ x) → V'.heap[x]? = V.heap[x]?) (hd : g < n0 ∨ h0 ≤ g) : LK g o V' := Lv.out h hs hf (by omega)
theorem LK.cell {V : World} {g : Nat} {cs : Array Value} {t : TypeId} {f : Nat × Nat} (h : LK g (.cells cs t f) V) (i : Nat) : V.cell? ⟨g, i, none⟩ = cs[i]? := blk_cell h.blk i
theorem LK.frozen {V : World} {g : Nat} {cs : Array Value} {t : TypeId} (h : LK g (.cells cs t (0, 0)) V) (i : Nat) : V.frozen? ⟨g, i, none⟩ = false := blk_frozen h.blk i
/-- A disk that lies from lo on, below hi. -/
def LD (lo hi : Nat) (b u : Value) (d : DiskL) (V : World) : Prop := Lv lo hi (fun W => DiskV W lo hi b u d) V
theorem LD.of {V : World} {lo hi : Nat} {b u : Value} {d : DiskL} (h : DiskV V lo hi b u d) (hh : hi ≤ V.heap.size) : LD lo hi b u d V := Lv.mk' hh fun _ hk => ⟨Sl.keep h.1 hk, Sl.keep h.2 hk⟩
theorem LD.v {V : World} {lo hi : Nat} {b u : Value} {d : DiskL} (h : LD lo hi b u d V) : DiskV V 0 V.heap.size b u d := DiskV.more (Lv.get h) (Nat.zero_le _) (Lv.hi_le h)
theorem LD.step {V V' : World} {lo hi : Nat} {b u : Value} {d : DiskL} (h : LD lo hi b u d V) (hb : Below V.heap.size V V') : LD lo hi b u d V' := Lv.step h hb
theorem LD.out {V V' : World} {lo hi n0 h0 : Nat} {b u : Value} {d : DiskL} (h : LD lo hi b u d V) (hs : V.heap.size ≤ V'.heap.size) (hf : ∀ x, x < V.heap.size → (x < n0 ∨ h0 ≤ x) → V'.heap[x]? = V.heap[x]?) (hd : hi ≤ n0 ∨ h0 ≤ lo) : LD lo hi b u d V' := Lv.out h hs hf hd
/-- The same, and it may be written. -/
def LT (lo hi : Nat) (b u : Value) (d : DiskL) (V : World) : Prop := Lv lo hi (fun W => DiskT W lo hi b u d) V
theorem DiskT.kept {w w' : World} {lo hi : Nat} {b u : Value} {d : DiskL} (h : DiskT w lo hi b u d) (hk : Kp lo hi w w') : DiskT w' lo hi b u d := ⟨Sl.keep h.1 hk, Sl.keep h.2 hk⟩
theorem LT.of {V V' : World} {b u : Value} {d : DiskL} (h : MadeD V V' b u d) : LT V.heap.size V'.heap.size b u d V' := Lv.mk' (Nat.le_refl _) fun _ hk => h.disk.kept hk
theorem LT.t {V : World} {lo hi : Nat} {b u : Value} {d : DiskL} (h : LT lo hi b u d V) : DiskT V lo hi b u d := Lv.get h
theorem LT.d {V : World} {lo hi : Nat} {b u : Value} {d : DiskL} (h : LT lo hi b u d V) : LD lo hi b u d V := Lv.imp h fun _ k => k.v
theorem LT.v {V : World} {lo hi : Nat} {b u : Value} {d : DiskL} (h : LT lo hi b u d V) : DiskV V 0 V.heap.size b u d := h.d.v
theorem LT.step {V V' : World} {lo hi : Nat} {b u : Value} {d : DiskL} (h : LT lo hi b u d V) (hb : Below V.heap.size V V') : LT lo hi b u d V' := Lv.step h hb
theorem LT.out {V V' : World} {lo hi n0 h0 : Nat} {b u : Value} {d : DiskL} (h : LT lo hi b u d V) (hs : V.heap.size ≤ V'.heap.size) (hf : ∀ x, x < V.heap.size → (x < n0 ∨ h0 ≤ x) → V'.heap[x]? = V.heap[x]?) (hd : hi ≤ n0 ∨ h0 ≤ lo) : LT lo hi b u d V' := Lv.out h hs hf hd
/-- Bytes that lie from lo on, below hi. -/
def LB (lo hi : Nat) (v : Value) (l : List UInt8) (V : World) : Prop := Lv lo hi (fun W => Bytes W lo hi v l) V
theorem LB.of {V : World} {lo hi : Nat} {v : Value} {l : List UInt8} (h : Bytes V lo hi v l) (hh : hi ≤ V.heap.size) : LB lo hi v l V := Lv.mk' hh fun _ hk => h.kept hk
theorem LB.v {V : World} {lo hi : Nat} {v : Value} {l : List UInt8} (h : LB lo hi v l V) : Bytes V 0 V.heap.size v l := Bytes.more (Lv.get h) (Nat.zero_le _) (Lv.hi_le h)
theorem LB.step {V V' : World} {lo hi : Nat} {v : Value} {l : List UInt8} (h : LB lo hi v l V) (hb : Below V.heap.size V V') : LB lo hi v l V' := Lv.step h hb
theorem LB.out {V V' : World} {lo hi n0 h0 : Nat} {v : Value} {l : List UInt8} (h : LB lo hi v l V) (hs : V.heap.size ≤ V'.heap.size) (hf : ∀ x, x < V.heap.size → (x < n0 ∨ h0 ≤ x) → V'.heap[x]? = V.heap[x]?) (hd : hi ≤ n0 ∨ h0 ≤ lo) : LB lo hi v l V' := Lv.out h hs hf hd
/-- The same, and they may be written. -/
def LM (lo hi : Nat) (v : Value) (l : List UInt8) (V : World) : Prop := Lv lo hi (fun W => Bytes W lo hi v l ∧ Thawed W v) V
theorem LM.of {V V' : World} {v : Value} {l : List UInt8} (h : MadeB V V' v l) : LM V.heap.size V'.heap.size v l V' := Lv.mk' (Nat.le_refl _) fun _ hk => ⟨h.bytes.kept hk, thawed_kept h.bytes h.thawed hk⟩
theorem LM.b {V : World} {lo hi : Nat} {v : Value} {l : List UInt8} (h : LM lo hi v l V) : LB lo hi v l V := Lv.imp h fun _ k => k.1
theorem LM.v {V : World} {lo hi : Nat} {v : Value} {l : List UInt8} (h : LM lo hi v l V) : Bytes V 0 V.heap.size v l := h.b.v
theorem LM.m {V : World} {lo hi : Nat} {v : Value} {l : List UInt8} (h : LM lo hi v l V) : Bytes V lo hi v l ∧ Thawed V v := Lv.get h
theorem LM.step {V V' : World} {lo hi : Nat} {v : Value} {l : List UInt8} (h : LM lo hi v l V) (hb : Below V.heap.size V V') : LM lo hi v l V' := Lv.step h hb
theorem LM.out {V V' : World} {lo hi n0 h0 : Nat} {v : Value} {l : List UInt8} (h : LM lo hi v l V) (hs : V.heap.size ≤ V'.heap.size) (hf : ∀ x, x < V.heap.size → (x < n0 ∨ h0 ≤ x) → V'.heap[x]? = V.heap[x]?) (hd : hi ≤ n0 ∨ h0 ≤ lo) : LM lo hi v l V' := Lv.out h hs hf hd
theorem LM.set {V : World} {lo hi b off n c : Nat} {L : List UInt8} (h : LM lo hi (.slice (some ⟨b, off, none⟩) n c) L V) (j : Nat) (x : UInt8) (hj : j < L.length) : LM lo hi (.slice (some ⟨b, off, none⟩) n c) (L.set j x) (V.setCell ⟨b, off + j, none⟩ (bV x)) :=
  Lv.mk' (by rw [World.size_setCell]; exact Lv.hi_le h) fun _ hk => ⟨(h.m.1.set j x hj).kept hk, thawed_kept (h.m.1.set j x hj) (h.m.2.set _ _) hk⟩
/-- A slice that lies from lo on, below hi. -/
def LS {α : Type} (r : Rd α) (lo hi : Nat) (v : Value) (l : List α) (V : World) : Prop := Lv lo hi (fun W => Sl r W lo hi v l) V
theorem LS.of {α : Type} {r : Rd α} {V : World} {lo hi : Nat} {v : Value} {l : List α} (h : Sl r V lo hi v l) (hh : hi ≤ V.heap.size) : LS r lo hi v l V := Lv.mk' hh fun _ hk => h.keep hk
theorem LS.v {α : Type} {r : Rd α} {V : World} {lo hi : Nat} {v : Value} {l : List α} (h : LS r lo hi v l V) : Sl r V 0 V.heap.size v l := Sl.more (Lv.get h) (Nat.zero_le _) (Lv.hi_le h)
theorem LS.step {α : Type} {r : Rd α} {V V' : World} {lo hi : Nat} {v : Value} {l : List α} (h : LS r lo hi v l V) (hb : Below V.heap.size V V') : LS r lo hi v l V' := Lv.step h hb
theorem LS.out {α : Type} {r : Rd α} {V V' : World} {lo hi n0 h0 : Nat} {v : Value} {l : List α} (h : LS r lo hi v l V) (hs : V.heap.size ≤ V'.heap.size) (hf : ∀ x, x < V.heap.size → (x < n0 ∨ h0 ≤ x) → V'.heap[x]? = V.heap[x]?) (hd : hi ≤ n0 ∨ h0 ≤ lo) : LS r lo hi v l V' := Lv.out h hs hf hd
/-- Nothing below w has turned. -/
def LW (w V : World) : Prop := Below w.heap.size w V
theorem LW.step {w V V' : World} (h : LW w V) (hb : Below V.heap.size V V') : LW w V' := below_step h (Below.size h) hb
end Go.Proofs.Ytfdogefoodljaaa

namespace Go.Proofs.Ytfdogefoodljaaa

def half (s : BitVec 32) : BitVec 32 := (s >>> 1) ^^^ (if s.getLsbD 0 then 0xedb88320#32 else 0#32)
def halves : Nat → BitVec 32 → BitVec 32
  | 0, s => s
  | n + 1, s => half (halves n s)
theorem halves_add (s : BitVec 32) (n : Nat) : ∀ m, halves (n + m) s = halves m (halves n s)
  | 0 => rfl
  | m + 1 => by rw [← Nat.add_assoc, halves, halves_add s n m, halves]

theorem half_xor (a b : BitVec 32) : half (a ^^^ b) = half a ^^^ half b := by
  unfold half
  rw [BitVec.ushiftRight_xor_distrib, BitVec.getLsbD_xor]
  cases ha : a.getLsbD 0 <;> cases hb : b.getLsbD 0
  · simp
  · simp [BitVec.xor_assoc]
  · simp only [Bool.xor_false, if_true, if_false, Bool.false_eq_true, BitVec.xor_zero]
    ac_rfl
  · simp only [Bool.xor_true, Bool.not_true, if_true, if_false, Bool.false_eq_true, BitVec.xor_zero]
    have e : (a >>> 1 ^^^ 3988292384#32) ^^^ (b >>> 1 ^^^ 3988292384#32) = a >>> 1 ^^^ b >>> 1 ^^^ (3988292384#32 ^^^ 3988292384#32) := by ac_rfl
    rw [e]; simp
theorem halves_xor (a b : BitVec 32) : ∀ n, halves n (a ^^^ b) = halves n a ^^^ halves n b
  | 0 => rfl
  | n + 1 => by rw [halves, halves_xor a b n, half_xor]; rfl
theorem half_top (s : BitVec 32) : (half s).getLsbD 31 = s.getLsbD 0 := by
  unfold half
  rw [BitVec.getLsbD_xor, BitVec.getLsbD_ushiftRight]
  cases h : s.getLsbD 0 <;> simp [BitVec.getLsbD_of_ge]
theorem half_eq_zero {s : BitVec 32} (h : half s = 0#32) : s = 0#32 := by
  have h0 : s.getLsbD 0 = false := by rw [← half_top, h]; rfl
  have h1 : s >>> 1 = 0#32 := by
    unfold half at h
    rw [h0] at h
    simpa using h
  apply BitVec.eq_of_getLsbD_eq
  intro i hi
  cases i with
  | zero => rw [h0]; rfl
  | succ i =>
    have := congrArg (fun x => x.getLsbD i) h1
    simp only [BitVec.getLsbD_ushiftRight] at this
    rw [Nat.add_comm]
    simpa using this
theorem halves_eq_zero {s : BitVec 32} : ∀ n, halves n s = 0#32 → s = 0#32
  | 0, h => h
  | n + 1, h => halves_eq_zero n (half_eq_zero h)
theorem halves_inj {a b : BitVec 32} {n : Nat} (h : halves n a = halves n b) : a = b := by
  have h1 : halves n (a ^^^ b) = 0#32 := by rw [halves_xor, h]; simp
  have h2 := halves_eq_zero n h1
  have h3 : a ^^^ b ^^^ b = b := by rw [h2]; simp
  rwa [BitVec.xor_assoc, BitVec.xor_self, BitVec.xor_zero] at h3

/-- What is even is only moved. -/
theorem halves_even (s : BitVec 32) : ∀ n, (∀ i, i < n → s.getLsbD i = false) → halves n s = s >>> n
  | 0, _ => by simp [halves]
  | n + 1, h => by
    rw [halves, halves_even s n (fun i hi => h i (by omega)), half]
    have h0 : (s >>> n).getLsbD 0 = false := by rw [BitVec.getLsbD_ushiftRight]; simpa using h n (by omega)
    rw [h0]
    simp [BitVec.shiftRight_add]
/-- A table of four bits serves. -/
theorem halves_four (s : BitVec 32) : halves 4 s = (s >>> 4) ^^^ halves 4 (s &&& 15#32) := by
  have e : s = (s &&& 0xfffffff0#32) ^^^ (s &&& 15#32) := by
    apply BitVec.eq_of_getLsbD_eq
    intro i hi
    rw [BitVec.getLsbD_xor, BitVec.getLsbD_and, BitVec.getLsbD_and]
    have hk : ∀ k : Fin 32, ((0xfffffff0#32).getLsbD k.val ^^ (15#32).getLsbD k.val) = true := by decide
    have := hk ⟨i, hi⟩
    cases h1 : (0xfffffff0#32).getLsbD i <;> cases h2 : (15#32).getLsbD i <;> simp_all
  have h1 : halves 4 (s &&& 0xfffffff0#32) = (s &&& 0xfffffff0#32) >>> 4 := by
    apply halves_even
    intro i hi
    rw [BitVec.getLsbD_and]
    have : (0xfffffff0#32).getLsbD i = false := by
      match i, hi with
      | 0, _ => decide
      | 1, _ => decide
      | 2, _ => decide
      | 3, _ => decide
    rw [this]; simp
  have h2 : (s &&& 0xfffffff0#32) >>> 4 = s >>> 4 := by
    apply BitVec.eq_of_getLsbD_eq
    intro i hi
    rw [BitVec.getLsbD_ushiftRight, BitVec.getLsbD_ushiftRight, BitVec.getLsbD_and]
    by_cases h : 4 + i < 32
    · have : (0xfffffff0#32).getLsbD (4 + i) = true := by
        have hk : ∀ k : Fin 28, (0xfffffff0#32).getLsbD (4 + k.val) = true := by decide
        exact hk ⟨i, by omega⟩
      rw [this]; simp
    · rw [BitVec.getLsbD_of_ge s (4 + i) (by omega)]; simp
  conv => lhs; rw [e, halves_xor, h1, h2]

def b32 (x : UInt8) : BitVec 32 := BitVec.ofNat 32 x.toNat
def stepB (s : BitVec 32) (x : UInt8) : BitVec 32 := halves 8 (s ^^^ b32 x)
def crcS (s : BitVec 32) (l : List UInt8) : BitVec 32 := l.foldl stepB s
def crc (l : List UInt8) : BitVec 32 := ~~~ (crcS (BitVec.allOnes 32) l)
theorem crcS_nil (s : BitVec 32) : crcS s [] = s := rfl
theorem crcS_cons (s : BitVec 32) (x : UInt8) (l : List UInt8) : crcS s (x :: l) = crcS (stepB s x) l := rfl
theorem crcS_append (s : BitVec 32) (a b : List UInt8) : crcS s (a ++ b) = crcS (crcS s a) b := by simp [crcS]
theorem stepB_four (s : BitVec 32) (x : UInt8) : stepB s x = halves 4 (halves 4 (s ^^^ b32 x)) := halves_add _ 4 4
theorem crcS_inj (l : List UInt8) : ∀ s t : BitVec 32, crcS s l = crcS t l → s = t := by
  induction l with
  | nil => exact fun s t h => h
  | cons x l ih =>
    intro s t h
    have h1 := halves_inj (ih _ _ h)
    have h2 : s ^^^ b32 x ^^^ b32 x = t ^^^ b32 x ^^^ b32 x := by rw [h1]
    simpa [BitVec.xor_assoc] using h2

/-- Some bytes as bits, the lowest first. -/
def leB : List UInt8 → BitVec 32
  | [] => 0#32
  | x :: w => b32 x ^^^ (leB w <<< 8)
theorem b32_bit (x : UInt8) (i : Nat) : (b32 x).getLsbD i = (decide (i < 32) && x.toNat.testBit i) := by simp [b32, BitVec.getLsbD_ofNat]
theorem u8_bit (x : UInt8) (i : Nat) (h : 8 ≤ i) : x.toNat.testBit i = false := by
  apply Nat.testBit_lt_two_pow
  exact Nat.lt_of_lt_of_le x.toNat_lt (Nat.pow_le_pow_right (by decide) h)
theorem leB_high : ∀ (w : List UInt8) (i : Nat), 8 * w.length ≤ i → (leB w).getLsbD i = false
  | [], i, _ => by simp [leB]
  | x :: w, i, h => by
    simp only [List.length_cons] at h
    rw [leB, BitVec.getLsbD_xor, b32_bit, u8_bit x i (by omega), BitVec.getLsbD_shiftLeft, leB_high w (i - 8) (by omega)]
    simp
theorem leB_inj : ∀ (w v : List UInt8), w.length = v.length → w.length ≤ 4 → leB w = leB v → w = v
  | [], [], _, _, _ => rfl
  | x :: w, y :: v, hl, h4, h => by
    simp only [List.length_cons] at hl h4
    have hb : ∀ i, (leB (x :: w)).getLsbD i = (leB (y :: v)).getLsbD i := fun i => by rw [h]
    have hxy : x = y := by
      apply UInt8.toNat_inj.1
      apply Nat.eq_of_testBit_eq
      intro i
      by_cases hi : i < 8
      · have := hb i
        simp only [leB, BitVec.getLsbD_xor, b32_bit, BitVec.getLsbD_shiftLeft, hi] at this
        simpa [show i < 32 by omega] using this
      · rw [u8_bit x i (by omega), u8_bit y i (by omega)]
    have hwv : leB w = leB v := by
      apply BitVec.eq_of_getLsbD_eq
      intro i hi
      by_cases hi2 : i < 24
      · have := hb (i + 8)
        simp only [leB, BitVec.getLsbD_xor, b32_bit, u8_bit _ (i + 8) (Nat.le_add_left _ _), BitVec.getLsbD_shiftLeft] at this
        simpa [show i + 8 < 32 by omega, show ¬ (i + 8 < 8) by omega] using this
      · rw [leB_high w i (by omega), leB_high v i (by omega)]
    rw [hxy, leB_inj w v (by omega) (by omega) hwv]
  | [], _ :: _, h, _, _ => by simp at h
  | _ :: _, [], h, _, _ => by simp at h
theorem crcS_le : ∀ (w : List UInt8) (s : BitVec 32), w.length ≤ 4 → crcS s w = halves (8 * w.length) (s ^^^ leB w)
  | [], s, _ => by simp [crcS_nil, leB, halves]
  | x :: w, s, h => by
    simp only [List.length_cons] at h
    rw [crcS_cons, crcS_le w _ (by omega), stepB, leB, List.length_cons, show 8 * (w.length + 1) = 8 + 8 * w.length by omega, halves_add]
    congr 1
    have e : halves 8 (leB w <<< 8) = leB w := by
      rw [halves_even _ 8 (fun i hi => by simp [hi])]
      apply BitVec.eq_of_getLsbD_eq
      intro i hi
      rw [BitVec.getLsbD_ushiftRight, BitVec.getLsbD_shiftLeft]
      by_cases hi2 : i < 24
      · simp [show 8 + i < 32 by omega]
      · rw [leB_high w i (by omega)]
        simp
        intro h; omega
    rw [← BitVec.xor_assoc, halves_xor _ (leB w <<< 8), e]
theorem crc_window (p w v r : List UInt8) (hl : w.length = v.length) (h4 : w.length ≤ 4) (hne : w ≠ v) : crc (p ++ w ++ r) ≠ crc (p ++ v ++ r) := by
  intro h
  unfold crc at h
  have h1 := congrArg (fun x => ~~~ x) h
  simp only [BitVec.not_not] at h1
  rw [crcS_append, crcS_append, crcS_append _ (p ++ v), crcS_append _ p v] at h1
  have h2 := crcS_inj r _ _ h1
  rw [crcS_le w _ h4, crcS_le v _ (by omega), hl] at h2
  have h3 := halves_inj h2
  have h5 : leB w = leB v := by
    have := congrArg (fun x => crcS (BitVec.allOnes 32) p ^^^ x) h3
    simpa [← BitVec.xor_assoc] using this
  exact hne (leB_inj w v hl h4 h5)

open Go in
theorem xor_u32 (a b : BitVec 32) : bits .xor .u32 (a.toNat : Int) (b.toNat : Int) = ((a ^^^ b).toNat : Int) := by
  simp only [bits, IntKind.bits]
  rw [BitVec.ofInt_natCast, BitVec.ofInt_natCast, BitVec.ofNat_toNat, BitVec.ofNat_toNat]
  simp only [BitVec.setWidth_eq]
  rw [IntKind.wrap_u32]
  have := (a ^^^ b).isLt
  show ((a ^^^ b).toNat : Int) % 4294967296 = _
  omega
open Go in
theorem and_u32 (a b : BitVec 32) : bits .and .u32 (a.toNat : Int) (b.toNat : Int) = ((a &&& b).toNat : Int) := by
  simp only [bits, IntKind.bits]
  rw [BitVec.ofInt_natCast, BitVec.ofInt_natCast, BitVec.ofNat_toNat, BitVec.ofNat_toNat]
  simp only [BitVec.setWidth_eq]
  rw [IntKind.wrap_u32]
  have := (a &&& b).isLt
  show ((a &&& b).toNat : Int) % 4294967296 = _
  omega
theorem b32_nat (x : UInt8) : (b32 x).toNat = x.toNat := by
  have := x.toNat_lt
  simp only [b32, BitVec.toNat_ofNat]
  omega
theorem shr_nat (a : BitVec 32) (n : Nat) : (a >>> n).toNat = a.toNat / 2 ^ n := by rw [BitVec.toNat_ushiftRight, Nat.shiftRight_eq_div_pow]
end Go.Proofs.Ytfdogefoodljaaa

