/- DropDoes: the words and contracts, part 7. -/
import Derived.Test.YtkfgegdnpinbdaaDropDoesQ1
import Derived.Test.YtkfgegdnpinbdaaDropDoesQ2
import Derived.Test.YtkfgegdnpinbdaaDropDoesQ3
import Derived.Test.YtkfgegdnpinbdaaDropDoesQ4
import Derived.Test.YtkfgegdnpinbdaaDropDoesQ5
import Derived.Test.YtkfgegdnpinbdaaDropDoesQ6
import Derived.WalkKit
import Derived.WalkLawsBesides
import Derived.WalkSpells
import Derived.Lib.Hide
import Derived.Laws.Rows
import Derived.Laws.AppendOwnNone
import Derived.Maps.AppendAt
import Derived.ProofKit
import Derived.Deep.Slices
import Derived.WideShapes
import Derived.RangeFuncNested
import Derived.RangeFuncBound
import Derived.RangeFuncCalls
import Derived.RangeFuncLeaves
import Derived.RangeFuncBox
import Derived.Shelf.Abstract
import Derived.Shelf.RegionOpen
import Derived.OwnWalkIn
import Derived.TacticsInMore
import Derived.LoopNIn
import Derived.LoopIn
import Derived.Lib.AppendZerosOnto
import Derived.Lib.SliceRun
import Derived.Lib.Walk
import Derived.Deep.LoopGhost
import Derived.Laws.CopyOwn
import Derived.Laws.CopyRow
import Derived.OrdersHeld
import Derived.Deep.QuietTactic
import Derived.BigQuiet
import Derived.StillTailTactics
import Derived.OpenShut
import Derived.KernelRfl
import Derived.Deep.DeepCutAuto
import Derived.Laws.MakeOwn
import Derived.Deep.RegionHeld
import Derived.BigFrameIn
namespace Go.Proofs.Ytkfgegdnpinbdaa
open Go.RowKit

/-- The greatest byte. -/
def maxL (l : List UInt8) : Nat := l.foldl (fun m x => max m x.toNat) 0
theorem maxL_step (l : List UInt8) (k : Nat) (hk : k < l.length) : maxL (l.take (k + 1)) = max (maxL (l.take k)) (l.getD k 0).toNat := by
  unfold maxL
  rw [List.take_succ_eq_append_getElem hk, List.foldl_append]
  simp [hk]
/-- A table may be. -/
def mayT (l : List UInt8) : Bool := l.length == 256 && maxL (l.take 8) == 0
theorem mayT_len {l : List UInt8} (h : mayT l = true) : l.length = 256 := by
  unfold mayT at h
  simp at h
  exact h.1
theorem mayT_set (l : List UInt8) (i : Nat) (x : UInt8) (h : 8 ≤ i) : mayT (l.set i x) = mayT l := by
  unfold mayT
  rw [List.length_set, List.take_set_of_le h]

set_option maxHeartbeats 1000000 in
/-- slices.Max. -/
theorem max_any (v : Value) (l : List UInt8) (w : World) (hI : Bytes w 0 w.heap.size v l) (h0 : 0 < l.length) :
    Calls Try.prog 83 #[v] w fun e w' => e = .returned (.int .u8 (maxL l : Nat)) ∧ w' = w := by
  obtain ⟨a, c, rfl, g1, g2, g3, -⟩ := hI
  unfold maxLen at g2
  obtain ⟨b, off, rfl, _, _, hc⟩ := g3 h0
  have hc' : ∀ j, j < l.length → w.cell? ⟨b, off + j, none⟩ = some (.int .u8 ((l.getD j 0).toNat : Int)) := fun j hj => hc j (l.getD j 0) (by simp [hj])
  have hc0 : w.cell? ⟨b, off, none⟩ = some (.int .u8 ((l.getD 0 0).toNat : Int)) := by simpa using hc' 0 h0
  clear hc g3
  go_enter Try.func83, Try.ntmps83
  go_wp2
  go_loopg [3, 4] l.length (fun g m i wr => ∃ k : Nat, 0 < k ∧ k ≤ l.length ∧ l.length - k ≤ g ∧ i = .int .i64 k ∧ m = .int .u8 (maxL (l.take k) : Nat) ∧ wr = w)
  case atStart => exact ⟨1, Nat.one_pos, h0, by omega, rfl, by rw [maxL_step l 0 h0]; simp [maxL, h0], rfl⟩
  case round =>
    obtain ⟨k, hk0, hk, hg, rfl, rfl, rfl⟩ := hrel
    by_cases hlt : k < l.length
    · have ck := hc' k hlt
      have S := Lib.hid (maxL_step l k hlt)
      clear hc' hc0
      generalize maxL (l.take k) = mm at *
      go_wp2
      go_roundg (l.length - (k + 1))
      case measure => omega
      case rel => exact ⟨k + 1, Nat.succ_pos k, by omega, Nat.le_refl _, by go_num, by rw [S.out]; simp [hlt]; omega, rfl⟩
    · have hkl : k = l.length := by omega
      subst hkl
      clear hc' hc0
      rw [List.take_length]
      go_wp2
      go_ret
      exact ⟨rfl, rfl⟩

set_option maxHeartbeats 1000000 in
/-- count.Check. -/
theorem ccheck_any (v : Value) (l : List UInt8) (w : World) (hI : Bytes w 0 w.heap.size v l) :
    Calls Try.prog 52 #[v] w fun e w' => e = .returned (.int .i64 (if mayT l then 0 else 8)) ∧ w' = w := by
  by_cases h : l.length = 256
  · obtain ⟨b, off, c, rfl, -, hc2, hc3, hc4, -⟩ := hI.at_n h (by omega)
    unfold maxLen at hc4
    have hm := max_any (.slice (some ⟨b, off, none⟩) 8 c) (l.take 8) w (hI.pre 8 (by omega)) (by simp; omega)
    have hM : mayT l = (maxL (l.take 8) == 0) := by unfold mayT; simp [h]
    rw [hM]
    clear hM
    generalize maxL (l.take 8) = m at *
    go_enter Try.func52, Try.ntmps52
    go_wp2_with fail
    refine hm.mono ?_
    rintro e w1 ⟨rfl, rfl⟩
    by_cases h1 : m = 0
    · subst h1
      go_wp2
      go_ret
      exact ⟨rfl, rfl⟩
    · have h2 : ¬ (m == 0) = true := by simp [h1]
      go_wp2
      go_ret
      exact ⟨rfl, rfl⟩
  · have hM : mayT l = false := by unfold mayT; simp [h]
    obtain ⟨a, c, rfl, g1, g2, -, -⟩ := hI
    rw [hM]
    have h1 : ¬ (l.length : Int) = 256 := by omega
    go_enter Try.func52, Try.ntmps52
    go_wp2
    go_ret
    exact ⟨rfl, rfl⟩

end Go.Proofs.Ytkfgegdnpinbdaa

namespace Go.Proofs.Ytkfgegdnpinbdaa

theorem u8_inj {x y : UInt8} (h : x.toNat = y.toNat) : x = y := UInt8.toNat_inj.1 h
theorem u8_up {x : UInt8} (h : x ≠ 255) : (x + 1).toNat = x.toNat + 1 := by
  have h1 : x.toNat ≠ 255 := fun e => h (u8_inj e)
  have h2 := UInt8.toNat_lt x
  rw [UInt8.toNat_add, show (1 : UInt8).toNat = 1 from rfl]
  omega
theorem u8_down {x : UInt8} (h : x ≠ 0) : (x + 255).toNat = x.toNat - 1 := by
  have h1 : x.toNat ≠ 0 := fun e => h (u8_inj e)
  have h2 := UInt8.toNat_lt x
  rw [UInt8.toNat_add, show (255 : UInt8).toNat = 255 from rfl]
  omega
theorem u8_up0 {x : UInt8} (h : x ≠ 255) : x + 1 ≠ 0 := fun e => by
  have := u8_up h
  rw [e, show (0 : UInt8).toNat = 0 from rfl] at this
  omega
theorem cgetD_set_self (l : List UInt8) (i : Nat) (x : UInt8) (h : i < l.length) : (l.set i x).getD i 0 = x := by simp [h]
theorem bget_set_ne (l : List UInt8) (i j : Nat) (x : UInt8) (h : i ≠ j) : (l.set i x).getD j 0 = l.getD j 0 := by simp [List.getElem?_set_ne h]
end Go.Proofs.Ytkfgegdnpinbdaa

namespace Go.Proofs.Ytkfgegdnpinbdaa
open Go.RowKit

/-- P holds, wherever the blocks from lo on, below hi, are as they are here. -/
def Lv (lo hi : Nat) (P : World → Prop) (V : World) : Prop := hi ≤ V.heap.size ∧ ∀ V' : World, (∀ k, lo ≤ k → k < hi → V'.heap[k]? = V.heap[k]?) → P V'
section
variable {lo hi : Nat} {P : World → Prop} {V V' : World}
theorem Lv.get (h : Lv lo hi P V) : P V := h.2 V fun _ _ _ => rfl
theorem Lv.hi_le (h : Lv lo hi P V) : hi ≤ V.heap.size := h.1
theorem Lv.step (h : Lv lo hi P V) (hb : Below V.heap.size V V') : Lv lo hi P V' :=
  ⟨Nat.le_trans h.1 hb.size, fun W hW => h.2 W fun k h1 h2 => (hW k h1 h2).trans (hb.block k (Nat.lt_of_lt_of_le h2 h.1))⟩
/-- Blocks from n0 on, below h0, have turned, and no other ones. -/
theorem Lv.out {n0 h0 : Nat} (h : Lv lo hi P V) (hs : V.heap.size ≤ V'.heap.size) (hf : ∀ x, x < V.heap.size → (x < n0 ∨ h0 ≤ x) → V'.heap[x]? = V.heap[x]?) (hd : hi ≤ n0 ∨ h0 ≤ lo) : Lv lo hi P V' :=
  ⟨Nat.le_trans h.1 hs, fun W hW => h.2 W fun k h1 h2 => (hW k h1 h2).trans (hf k (Nat.lt_of_lt_of_le h2 h.1) (by omega))⟩
theorem Lv.mk' (h : hi ≤ V.heap.size) (hk : ∀ V', Kp lo hi V V' → P V') : Lv lo hi P V := ⟨h, fun W hW => hk W fun b o h1 h2 => ⟨heap_cell (hW b h1 h2) o, heap_frozen (hW b h1 h2) o⟩⟩
theorem Lv.imp {Q : World → Prop} (h : Lv lo hi P V) (hi' : ∀ W, P W → Q W) : Lv lo hi Q V := ⟨h.1, fun W hW => hi' W (h.2 W hW)⟩
theorem Lv.and {Q : World → Prop} (h : Lv lo hi P V) (k : Lv lo hi Q V) : Lv lo hi (fun W => P W ∧ Q W) V := ⟨h.1, fun W hW => ⟨h.2 W hW, k.2 W hW⟩⟩
theorem Lv.more {lo' hi' : Nat} (h : Lv lo hi P V) (h1 : lo' ≤ lo) (h2 : hi ≤ hi') (h3 : hi' ≤ V.heap.size) : Lv lo' hi' P V := ⟨h3, fun W hW => h.2 W fun k g1 g2 => hW k (by omega) (by omega)⟩
end
/-- A known block. -/
def LK (g : Nat) (o : Obj) (V : World) : Prop := Lv g (g + 1) (fun W => W.heap[g]? = some o) V
theorem LK.of {V : World} {g : Nat} {o : Obj} (h : V.heap[g]? = some o) : LK g o V := ⟨(Array.getElem?_eq_some_iff.1 h).1, fun _ hW => (hW g (Nat.le_refl _) (Nat.lt_succ_self _)).trans h⟩
theorem LK.new (w : World) (o : Obj) : LK w.heap.size o (w.alloc o) := LK.of (World.alloc_heap_new w o)
theorem LK.blk {V : World} {g : Nat} {o : Obj} (h : LK g o V) : V.heap[g]? = some o := Lv.get h
theorem LK.lt {V : World} {g : Nat} {o : Obj} (h : LK g o V) : g < V.heap.size := Lv.hi_le h
theorem LK.step {V V' : World} {g : Nat} {o : Obj} (h : LK g o V) (hb : Below V.heap.size V V') : LK g o V' := Lv.step h hb
theorem LK.out {V V' : World} {g n0 h0 : Nat} {o : Obj} (h : LK g o V) (hs : V.heap.size ≤ V'.heap.size) (hf : ∀ x, x < V.heap.size → (x < n0 ∨ h0 ≤ x) → V'.heap[x]? = V.heap[x]?) (hd : g < n0 ∨ h0 ≤ g) : LK g o V' := Lv.out h hs hf (by omega)
theorem LK.cell {V : World} {g : Nat} {cs : Array Value} {t : TypeId} {f : Nat × Nat} (h : LK g (.cells cs t f) V) (i : Nat) : V.cell? ⟨g, i, none⟩ = cs[i]? := blk_cell h.blk i
theorem LK.frozen {V : World} {g : Nat} {cs : Array Value} {t : TypeId} (h : LK g (.cells cs t (0, 0)) V) (i : Nat) : V.frozen? ⟨g, i, none⟩ = false := blk_frozen h.blk i
/-- A disk that lies from lo on, below hi. -/
def LD (lo hi : Nat) (b u : Value) (d : DiskL) (V : World) : Prop := Lv lo hi (fun W => DiskV W lo hi b u d) V
theorem LD.of {V : World} {lo hi : Nat} {b u : Value} {d : DiskL} (h : DiskV V lo hi b u d) (hh : hi ≤ V.heap.size) : LD lo hi b u d V := Lv.mk' hh fun _ hk => ⟨Sl.keep h.1 hk, Sl.keep h.2 hk⟩
theorem LD.v {V : World} {lo hi : Nat} {b u : Value} {d : DiskL} (h : LD lo hi b u d V) : DiskV V 0 V.heap.size b u d := DiskV.more (Lv.get h) (Nat.zero_le _) (Lv.hi_le h)
theorem LD.step {V V' : World} {lo hi : Nat} {b u : Value} {d : DiskL} (h : LD lo hi b u d V) (hb : Below V.heap.size V V') : LD lo hi b u d V' := Lv.step h hb
theorem LD.out {V V' : World} {lo hi n0 h0 : Nat} {b u : Value} {d : DiskL} (h : LD lo hi b u d V) (hs : V.heap.size ≤ V'.heap.size) (hf : ∀ x, x < V.heap.size → (x < n0 ∨ h0 ≤ x) → V'.heap[x]? = V.heap[x]?) (hd : hi ≤ n0 ∨ h0 ≤ lo) : LD lo hi b u d V' := Lv.out h hs hf hd
/-- The same, and it may be written. -/
def LT (lo hi : Nat) (b u : Value) (d : DiskL) (V : World) : Prop := Lv lo hi (fun W => DiskT W lo hi b u d) V
theorem DiskT.kept {w w' : World} {lo hi : Nat} {b u : Value} {d : DiskL} (h : DiskT w lo hi b u d) (hk : Kp lo hi w w') : DiskT w' lo hi b u d := ⟨Sl.keep h.1 hk, Sl.keep h.2 hk⟩
theorem LT.of {V V' : World} {b u : Value} {d : DiskL} (h : MadeD V V' b u d) : LT V.heap.size V'.heap.size b u d V' := Lv.mk' (Nat.le_refl _) fun _ hk => h.disk.kept hk
theorem LT.t {V : World} {lo hi : Nat} {b u : Value} {d : DiskL} (h : LT lo hi b u d V) : DiskT V lo hi b u d := Lv.get h
theorem LT.d {V : World} {lo hi : Nat} {b u : Value} {d : DiskL} (h : LT lo hi b u d V) : LD lo hi b u d V := Lv.imp h fun _ k => k.v
theorem LT.v {V : World} {lo hi : Nat} {b u : Value} {d : DiskL} (h : LT lo hi b u d V) : DiskV V 0 V.heap.size b u d := h.d.v
theorem LT.step {V V' : World} {lo hi : Nat} {b u : Value} {d : DiskL} (h : LT lo hi b u d V) (hb : Below V.heap.size V V') : LT lo hi b u d V' := Lv.step h hb
theorem LT.out {V V' : World} {lo hi n0 h0 : Nat} {b u : Value} {d : DiskL} (h : LT lo hi b u d V) (hs : V.heap.size ≤ V'.heap.size) (hf : ∀ x, x < V.heap.size → (x < n0 ∨ h0 ≤ x) → V'.heap[x]? = V.heap[x]?) (hd : hi ≤ n0 ∨ h0 ≤ lo) : LT lo hi b u d V' := Lv.out h hs hf hd
/-- Bytes that lie from lo on, below hi. -/
def LB (lo hi : Nat) (v : Value) (l : List UInt8) (V : World) : Prop := Lv lo hi (fun W => Bytes W lo hi v l) V
theorem LB.of {V : World} {lo hi : Nat} {v : Value} {l : List UInt8} (h : Bytes V lo hi v l) (hh : hi ≤ V.heap.size) : LB lo hi v l V := Lv.mk' hh fun _ hk => h.kept hk
theorem LB.v {V : World} {lo hi : Nat} {v : Value} {l : List UInt8} (h : LB lo hi v l V) : Bytes V 0 V.heap.size v l := Bytes.more (Lv.get h) (Nat.zero_le _) (Lv.hi_le h)
theorem LB.step {V V' : World} {lo hi : Nat} {v : Value} {l : List UInt8} (h : LB lo hi v l V) (hb : Below V.heap.size V V') : LB lo hi v l V' := Lv.step h hb
theorem LB.out {V V' : World} {lo hi n0 h0 : Nat} {v : Value} {l : List UInt8} (h : LB lo hi v l V) (hs : V.heap.size ≤ V'.heap.size) (hf : ∀ x, x < V.heap.size → (x < n0 ∨ h0 ≤ x) → V'.heap[x]? = V.heap[x]?) (hd : hi ≤ n0 ∨ h0 ≤ lo) : LB lo hi v l V' := Lv.out h hs hf hd
/-- The same, and they may be written. -/
def LM (lo hi : Nat) (v : Value) (l : List UInt8) (V : World) : Prop := Lv lo hi (fun W => Bytes W lo hi v l ∧ Thawed W v) V
theorem LM.of {V V' : World} {v : Value} {l : List UInt8} (h : MadeB V V' v l) : LM V.heap.size V'.heap.size v l V' := Lv.mk' (Nat.le_refl _) fun _ hk => ⟨h.bytes.kept hk, thawed_kept h.bytes h.thawed hk⟩
theorem LM.b {V : World} {lo hi : Nat} {v : Value} {l : List UInt8} (h : LM lo hi v l V) : LB lo hi v l V := Lv.imp h fun _ k => k.1
theorem LM.v {V : World} {lo hi : Nat} {v : Value} {l : List UInt8} (h : LM lo hi v l V) : Bytes V 0 V.heap.size v l := h.b.v
theorem LM.m {V : World} {lo hi : Nat} {v : Value} {l : List UInt8} (h : LM lo hi v l V) : Bytes V lo hi v l ∧ Thawed V v := Lv.get h
theorem LM.step {V V' : World} {lo hi : Nat} {v : Value} {l : List UInt8} (h : LM lo hi v l V) (hb : Below V.heap.size V V') : LM lo hi v l V' := Lv.step h hb
theorem LM.out {V V' : World} {lo hi n0 h0 : Nat} {v : Value} {l : List UInt8} (h : LM lo hi v l V) (hs : V.heap.size ≤ V'.heap.size) (hf : ∀ x, x < V.heap.size → (x < n0 ∨ h0 ≤ x) → V'.heap[x]? = V.heap[x]?) (hd : hi ≤ n0 ∨ h0 ≤ lo) : LM lo hi v l V' := Lv.out h hs hf hd
theorem LM.set {V : World} {lo hi b off n c : Nat} {L : List UInt8} (h : LM lo hi (.slice (some ⟨b, off, none⟩) n c) L V) (j : Nat) (x : UInt8) (hj : j < L.length) : LM lo hi (.slice (some ⟨b, off, none⟩) n c) (L.set j x) (V.setCell ⟨b, off + j, none⟩ (bV x)) :=
  Lv.mk' (by rw [World.size_setCell]; exact Lv.hi_le h) fun _ hk => ⟨(h.m.1.set j x hj).kept hk, thawed_kept (h.m.1.set j x hj) (h.m.2.set _ _) hk⟩
/-- A slice that lies from lo on, below hi. -/
def LS {α : Type} (r : Rd α) (lo hi : Nat) (v : Value) (l : List α) (V : World) : Prop := Lv lo hi (fun W => Sl r W lo hi v l) V
theorem LS.of {α : Type} {r : Rd α} {V : World} {lo hi : Nat} {v : Value} {l : List α} (h : Sl r V lo hi v l) (hh : hi ≤ V.heap.size) : LS r lo hi v l V := Lv.mk' hh fun _ hk => h.keep hk
theorem LS.v {α : Type} {r : Rd α} {V : World} {lo hi : Nat} {v : Value} {l : List α} (h : LS r lo hi v l V) : Sl r V 0 V.heap.size v l := Sl.more (Lv.get h) (Nat.zero_le _) (Lv.hi_le h)
theorem LS.step {α : Type} {r : Rd α} {V V' : World} {lo hi : Nat} {v : Value} {l : List α} (h : LS r lo hi v l V) (hb : Below V.heap.size V V') : LS r lo hi v l V' := Lv.step h hb
theorem LS.out {α : Type} {r : Rd α} {V V' : World} {lo hi n0 h0 : Nat} {v : Value} {l : List α} (h : LS r lo hi v l V) (hs : V.heap.size ≤ V'.heap.size) (hf : ∀ x, x < V.heap.size → (x < n0 ∨ h0 ≤ x) → V'.heap[x]? = V.heap[x]?) (hd : hi ≤ n0 ∨ h0 ≤ lo) : LS r lo hi v l V' := Lv.out h hs hf hd
/-- Nothing below w has turned. -/
def LW (w V : World) : Prop := Below w.heap.size w V
theorem LW.step {w V V' : World} (h : LW w V) (hb : Below V.heap.size V V') : LW w V' := below_step h (Below.size h) hb
theorem LW.outB {w V V' : World} {n0 : Nat} (h : LW w V) (hb : Below n0 V V') (hn : w.heap.size ≤ n0) : LW w V' := Below.trans h (hb.mono hn)
end Go.Proofs.Ytkfgegdnpinbdaa

namespace Go.Proofs.Ytkfgegdnpinbdaa

def half (s : BitVec 32) : BitVec 32 := (s >>> 1) ^^^ (if s.getLsbD 0 then 0xedb88320#32 else 0#32)
def halves : Nat → BitVec 32 → BitVec 32
  | 0, s => s
  | n + 1, s => half (halves n s)
theorem halves_add (s : BitVec 32) (n : Nat) : ∀ m, halves (n + m) s = halves m (halves n s)
  | 0 => rfl
  | m + 1 => by rw [← Nat.add_assoc, halves, halves_add s n m, halves]

theorem half_xor (a b : BitVec 32) : half (a ^^^ b) = half a ^^^ half b := by
  unfold half
  rw [BitVec.ushiftRight_xor_distrib, BitVec.getLsbD_xor]
  cases ha : a.getLsbD 0 <;> cases hb : b.getLsbD 0
  · simp
  · simp [BitVec.xor_assoc]
  · simp only [Bool.xor_false, if_true, if_false, Bool.false_eq_true, BitVec.xor_zero]
    ac_rfl
  · simp only [Bool.xor_true, Bool.not_true, if_true, if_false, Bool.false_eq_true, BitVec.xor_zero]
    have e : (a >>> 1 ^^^ 3988292384#32) ^^^ (b >>> 1 ^^^ 3988292384#32) = a >>> 1 ^^^ b >>> 1 ^^^ (3988292384#32 ^^^ 3988292384#32) := by ac_rfl
    rw [e]; simp
theorem halves_xor (a b : BitVec 32) : ∀ n, halves n (a ^^^ b) = halves n a ^^^ halves n b
  | 0 => rfl
  | n + 1 => by rw [halves, halves_xor a b n, half_xor]; rfl
/-- What is even is only moved. -/
theorem halves_even (s : BitVec 32) : ∀ n, (∀ i, i < n → s.getLsbD i = false) → halves n s = s >>> n
  | 0, _ => by simp [halves]
  | n + 1, h => by
    rw [halves, halves_even s n (fun i hi => h i (by omega)), half]
    have h0 : (s >>> n).getLsbD 0 = false := by rw [BitVec.getLsbD_ushiftRight]; simpa using h n (by omega)
    rw [h0]
    simp [BitVec.shiftRight_add]
/-- A table of four bits serves. -/
theorem halves_four (s : BitVec 32) : halves 4 s = (s >>> 4) ^^^ halves 4 (s &&& 15#32) := by
  have e : s = (s &&& 0xfffffff0#32) ^^^ (s &&& 15#32) := by
    apply BitVec.eq_of_getLsbD_eq
    intro i hi
    rw [BitVec.getLsbD_xor, BitVec.getLsbD_and, BitVec.getLsbD_and]
    have hk : ∀ k : Fin 32, ((0xfffffff0#32).getLsbD k.val ^^ (15#32).getLsbD k.val) = true := by decide
    have := hk ⟨i, hi⟩
    cases h1 : (0xfffffff0#32).getLsbD i <;> cases h2 : (15#32).getLsbD i <;> simp_all
  have h1 : halves 4 (s &&& 0xfffffff0#32) = (s &&& 0xfffffff0#32) >>> 4 := by
    apply halves_even
    intro i hi
    rw [BitVec.getLsbD_and]
    have : (0xfffffff0#32).getLsbD i = false := by
      match i, hi with
      | 0, _ => decide
      | 1, _ => decide
      | 2, _ => decide
      | 3, _ => decide
    rw [this]; simp
  have h2 : (s &&& 0xfffffff0#32) >>> 4 = s >>> 4 := by
    apply BitVec.eq_of_getLsbD_eq
    intro i hi
    rw [BitVec.getLsbD_ushiftRight, BitVec.getLsbD_ushiftRight, BitVec.getLsbD_and]
    by_cases h : 4 + i < 32
    · have : (0xfffffff0#32).getLsbD (4 + i) = true := by
        have hk : ∀ k : Fin 28, (0xfffffff0#32).getLsbD (4 + k.val) = true := by decide
        exact hk ⟨i, by omega⟩
      rw [this]; simp
    · rw [BitVec.getLsbD_of_ge s (4 + i) (by omega)]; simp
  conv => lhs; rw [e, halves_xor, h1, h2]

def b32 (x : UInt8) : BitVec 32 := BitVec.ofNat 32 x.toNat
def stepB (s : BitVec 32) (x : UInt8) : BitVec 32 := halves 8 (s ^^^ b32 x)
def crcS (s : BitVec 32) (l : List UInt8) : BitVec 32 := l.foldl stepB s
def crc (l : List UInt8) : BitVec 32 := ~~~ (crcS (BitVec.allOnes 32) l)
theorem crcS_append (s : BitVec 32) (a b : List UInt8) : crcS s (a ++ b) = crcS (crcS s a) b := by simp [crcS]
theorem stepB_four (s : BitVec 32) (x : UInt8) : stepB s x = halves 4 (halves 4 (s ^^^ b32 x)) := halves_add _ 4 4
open Go in
theorem xor_u32 (a b : BitVec 32) : bits .xor .u32 (a.toNat : Int) (b.toNat : Int) = ((a ^^^ b).toNat : Int) := by
  simp only [bits, IntKind.bits]
  rw [BitVec.ofInt_natCast, BitVec.ofInt_natCast, BitVec.ofNat_toNat, BitVec.ofNat_toNat]
  simp only [BitVec.setWidth_eq]
  rw [IntKind.wrap_u32]
  have := (a ^^^ b).isLt
  show ((a ^^^ b).toNat : Int) % 4294967296 = _
  omega
open Go in
theorem and_u32 (a b : BitVec 32) : bits .and .u32 (a.toNat : Int) (b.toNat : Int) = ((a &&& b).toNat : Int) := by
  simp only [bits, IntKind.bits]
  rw [BitVec.ofInt_natCast, BitVec.ofInt_natCast, BitVec.ofNat_toNat, BitVec.ofNat_toNat]
  simp only [BitVec.setWidth_eq]
  rw [IntKind.wrap_u32]
  have := (a &&& b).isLt
  show ((a &&& b).toNat : Int) % 4294967296 = _
  omega
theorem b32_nat (x : UInt8) : (b32 x).toNat = x.toNat := by
  have := x.toNat_lt
  simp only [b32, BitVec.toNat_ofNat]
  omega
theorem shr_nat (a : BitVec 32) (n : Nat) : (a >>> n).toNat = a.toNat / 2 ^ n := by rw [BitVec.toNat_ushiftRight, Nat.shiftRight_eq_div_pow]
end Go.Proofs.Ytkfgegdnpinbdaa

namespace Go.Proofs.Ytkfgegdnpinbdaa
open Go.RowKit

def u32v (s : BitVec 32) : Value := .int .u32 (s.toNat : Int)
def tabV (k : Nat) : Array Value := ((List.range 16).map fun i => if i < k then u32v (halves 4 (BitVec.ofNat 32 i)) else .int .u32 0).toArray
theorem tabV_set (n : Nat) (h : n < 16) (v : Value) (hv : v = u32v (halves 4 (BitVec.ofNat 32 n))) : (tabV n).setIfInBounds n v = tabV (n + 1) := by
  subst hv
  apply Array.ext_getElem?
  intro i
  rw [Array.getElem?_setIfInBounds]
  by_cases hi : n = i
  · subst hi
    simp [tabV, h]
  · rw [if_neg hi]
    have : (i < n + 1) = (i < n) := by apply propext; omega
    by_cases h16 : i < 16
    · simp [tabV, h16, this]
    · simp [tabV, h16]
theorem tabV_at (i : Nat) (h : i < 16) : (tabV 16)[i]? = some (u32v (halves 4 (BitVec.ofNat 32 i))) := by simp [tabV, h]
theorem tabV_zero : tabV 0 = #[.int .u32 0, .int .u32 0, .int .u32 0, .int .u32 0, .int .u32 0, .int .u32 0, .int .u32 0, .int .u32 0, .int .u32 0, .int .u32 0, .int .u32 0, .int .u32 0, .int .u32 0, .int .u32 0, .int .u32 0, .int .u32 0] := rfl
theorem tabV_lit : tabV 16 = #[.int .u32 0, .int .u32 498536548, .int .u32 997073096, .int .u32 651767980, .int .u32 1994146192, .int .u32 1802195444, .int .u32 1303535960, .int .u32 1342533948, .int .u32 3988292384, .int .u32 4027552580, .int .u32 3604390888, .int .u32 3412177804, .int .u32 2607071920, .int .u32 2262029012, .int .u32 2685067896, .int .u32 3183342108] := by kernel_rfl
theorem half_nat (s : BitVec 32) : bits BinOp.xor IntKind.u32 ((s.toNat : Int) / 2) (3988292384 * bits BinOp.and IntKind.u32 (s.toNat : Int) 1 % 4294967296) = ((half s).toNat : Int) := by
  have h1 : ((s.toNat : Int) / (2 : Int)) = ((s >>> 1).toNat : Int) := by rw [shr_nat]; omega
  have h2 := and_u32 s 1#32
  have h3 : (s &&& 1#32) = if s.getLsbD 0 then 1#32 else 0#32 := by
    apply BitVec.eq_of_getLsbD_eq
    intro i hi
    cases i with
    | zero => cases h : s.getLsbD 0 <;> simp [h, -BitVec.getLsbD_eq_getElem]
    | succ i => cases h : s.getLsbD 0 <;> simp [BitVec.getLsbD_one]
  have h4 : (3988292384 * bits BinOp.and IntKind.u32 (s.toNat : Int) 1 % 4294967296) = ((if s.getLsbD 0 then 0xedb88320#32 else 0#32 : BitVec 32).toNat : Int) := by
    rw [show (1 : Int) = ((1#32).toNat : Int) by decide, h2, h3]
    cases s.getLsbD 0 <;> decide
  rw [h1, h4, xor_u32]
  rfl

set_option maxHeartbeats 1000000 in
theorem fold_any (w : World) : Calls Try.prog 123 #[] w fun e w' => e = .returned (.agg (tabV 16)) ∧ Below w.heap.size w w' := by
  go_enter Try.func123, Try.ntmps123
  go_wp2
  go_loopw [3] (fun k wr => ∃ n : Nat, n ≤ 16 ∧ k = .int .i64 n ∧ wr = w.alloc (.cells (tabV n) 164)) (fun k _ => 16 - (intOf k).toNat)
  case atStart => exact ⟨0, by omega, rfl, by rw [tabV_zero]⟩
  case round =>
    obtain ⟨n, hn, rfl, rfl⟩ := hrel
    by_cases h : n < 16
    · have hcell : (tabV n)[n]? = some (.int .u32 0) := by simp [tabV, h]
      have htab := fun v hv => tabV_set n h v hv
      have HT := Lib.hid htab
      clear htab
      go_wp2
      go_loop [2, 8] (fun s k => ∃ j : Nat, j ≤ 4 ∧ k = .int .i64 j ∧ s = u32v (halves j (BitVec.ofNat 32 n))) (fun _ k => 4 - (intOf k).toNat)
      case atStart => exact ⟨0, by omega, rfl, by rw [halves, u32v, BitVec.toNat_ofNat, Nat.mod_eq_of_lt (by omega)]⟩
      case round =>
        obtain ⟨j, hj, rfl, hs⟩ := hrel
        unfold u32v at hs
        subst hs
        have hb := (halves j (BitVec.ofNat 32 n)).isLt
        have hf : j < 4 → half (halves j (BitVec.ofNat 32 n)) = halves (j + 1) (BitVec.ofNat 32 n) := fun _ => rfl
        have HF := Lib.hid hf
        have he : j = 4 → halves j (BitVec.ofNat 32 n) = halves 4 (BitVec.ofNat 32 n) := fun h => by rw [h]
        have HE := Lib.hid he
        clear hf he
        generalize halves j (BitVec.ofNat 32 n) = s at *
        by_cases h4 : j < 4
        · go_wp2
          go_round
          case rel => exact ⟨j + 1, by omega, by go_num, by rw [half_nat, HF.out h4]; rfl⟩
          case measure => simp [intOf]; omega
        · go_wp2
          go_roundw
          case rel => exact ⟨n + 1, by omega, by go_num, by rw [HT.out _ (by rw [HE.out (by omega)]; rfl)]⟩
          case measure => simp [intOf]; omega
    · obtain rfl : n = 16 := by omega
      rw [tabV_lit]
      go_wp2
      exact bodyPost_ret (v := .agg #[.int .u32 0, .int .u32 498536548, .int .u32 997073096, .int .u32 651767980, .int .u32 1994146192, .int .u32 1802195444, .int .u32 1303535960, .int .u32 1342533948, .int .u32 3988292384, .int .u32 4027552580, .int .u32 3604390888, .int .u32 3412177804, .int .u32 2607071920, .int .u32 2262029012, .int .u32 2685067896, .int .u32 3183342108]) (by simp [results, Try.results123, go_sem]) rfl ⟨by rw [tabV_lit], (Below.refl _ _).alloc (Nat.le_refl _) _⟩

theorem four_nat (s : BitVec 32) : bits BinOp.xor IntKind.u32 ((s.toNat : Int) / (16 : Int)) ((halves 4 (s &&& 15#32)).toNat : Int) = ((halves 4 s).toNat : Int) := by
  have h1 : ((s.toNat : Int) / (16 : Int)) = ((s >>> 4).toNat : Int) := by rw [shr_nat]; omega
  rw [h1, xor_u32, ← halves_four]
theorem and15 (s : BitVec 32) : ∃ i : Nat, i < 16 ∧ bits BinOp.and IntKind.u32 (s.toNat : Int) 15 = (i : Int) ∧ halves 4 (BitVec.ofNat 32 i) = halves 4 (s &&& 15#32) := by
  have h := and_u32 s 15#32
  refine ⟨(s &&& 15#32).toNat, ?_, h, by rw [BitVec.ofNat_toNat]; simp⟩
  rw [BitVec.toNat_and]
  exact Nat.lt_of_le_of_lt Nat.and_le_right (by decide)

set_option maxHeartbeats 1000000 in
theorem of_any (v : Value) (l : List UInt8) (w : World) (hI : Bytes w 0 w.heap.size v l) : Calls Try.prog 106 #[v] w fun e w' => e = .returned (u32v (crc l)) ∧ Below w.heap.size w w' := by
  obtain ⟨a, c, rfl, g1, g2, g3, _⟩ := id hI
  unfold maxLen at g2
  have hfold := fold_any
  have HF := Lib.hid hfold
  clear hfold
  go_enter Try.func106, Try.ntmps106
  go_wp2_with fail
  refine (HF.out _).mono ?_
  rw [tabV_lit]
  rintro e w1 ⟨rfl, hB⟩
  have hI1 := hI.step hB
  clear g3 hI HF
  go_wp2
  rw [← tabV_lit]
  have hI2 := hI1.step ((Below.refl w1.heap.size w1).alloc (Nat.le_refl _) (.cells (tabV 16) 164))
  obtain ⟨W, hW⟩ : ∃ W, w1.alloc (.cells (tabV 16) 164) = W := ⟨_, rfl⟩
  have htab : ∀ i : Nat, i < 16 → W.cell? ⟨w1.heap.size, i, none⟩ = some (u32v (halves 4 (BitVec.ofNat 32 i))) := fun i hi => by rw [← hW, World.cell?_alloc_new]; exact tabV_at i hi
  have hBW : Below w.heap.size w W := by rw [← hW]; exact hB.alloc hB.size _
  rw [hW] at hI2 ⊢
  generalize w1.heap.size = tb at *
  have HT := Lib.hid htab
  have HI := Lib.hid hI2
  clear hI1 hB hW htab hI2
  go_loop [4, 10] (fun s i => ∃ k : Nat, k ≤ l.length ∧ i = .int .i64 k ∧ s = u32v (crcS (BitVec.allOnes 32) (l.take k))) (fun _ i => l.length - (intOf i).toNat)
  case atStart => exact ⟨0, Nat.zero_le _, rfl, rfl⟩
  case round =>
    obtain ⟨k, hk, rfl, hs⟩ := hrel
    unfold u32v at hs
    subst hs
    by_cases hlt : k < l.length
    · obtain ⟨b, off, c', he, _, hb, _, _, hc⟩ := HI.out.at_ (by omega)
      cases he
      have hx := hc k l[k] (by simp [hlt])
      have hsn : crcS (BitVec.allOnes 32) (l.take (k + 1)) = stepB (crcS (BitVec.allOnes 32) (l.take k)) l[k] := by rw [List.take_succ_eq_append_getElem hlt, crcS_append]; rfl
      have HS := Lib.hid hsn
      clear hsn hc
      generalize crcS (BitVec.allOnes 32) (l.take k) = s at *
      generalize l[k] = x at *
      unfold bV at hx
      have hxl : (x.toNat : Int) < 256 := by have := x.toNat_lt; omega
      have e1 : bits BinOp.xor IntKind.u32 (s.toNat : Int) (x.toNat : Int) = ((s ^^^ b32 x).toNat : Int) := by rw [← b32_nat, xor_u32]
      have hs1 : stepB s x = halves 4 (halves 4 (s ^^^ b32 x)) := stepB_four s x
      have HS1 := Lib.hid hs1
      clear hs1
      generalize s ^^^ b32 x = s1 at *
      obtain ⟨i1, hi1, e2, e3⟩ := and15 s1
      have t1 := HT.out i1 hi1
      have e4 := four_nat s1
      rw [← e3] at e4
      generalize halves 4 (BitVec.ofNat 32 i1) = y1 at *
      generalize halves 4 s1 = s2 at *
      obtain ⟨i2, hi2, e5, e6⟩ := and15 s2
      have t2 := HT.out i2 hi2
      have e7 := four_nat s2
      rw [← e6] at e7
      generalize halves 4 (BitVec.ofNat 32 i2) = y2 at *
      generalize halves 4 s2 = s3 at *
      unfold u32v at t1 t2
      have b1 := s1.isLt
      have b2 := s2.isLt
      clear e3 e6
      go_wp2
      go_round
      case rel => exact ⟨k + 1, by omega, by go_num, by rw [HS.out, HS1.out]; rfl⟩
      case measure => simp [intOf]; omega
    · obtain rfl : k = l.length := by omega
      rw [List.take_length]
      have hfin : u32v (crc l) = .int .u32 (bits BinOp.xor IntKind.u32 IntKind.u32.max ((crcS (BitVec.allOnes 32) l).toNat : Int)) := by
        rw [show IntKind.u32.max = ((BitVec.allOnes 32).toNat : Int) by decide, xor_u32, BitVec.allOnes_xor]
        rfl
      have HFin := Lib.hid hfin
      have hbd := (crcS (BitVec.allOnes 32) l).isLt
      clear hfin
      generalize crcS (BitVec.allOnes 32) l = s at *
      go_wp2
      go_ret
      exact ⟨by rw [HFin.out]; rfl, hBW⟩
end Go.Proofs.Ytkfgegdnpinbdaa

namespace Go.Proofs.Ytkfgegdnpinbdaa
open Go.RowKit

def KeepC (n₀ Bs : Nat) (A B : World) : Prop := Below n₀ A B ∧ B.cell? ⟨Bs, 0, none⟩ = A.cell? ⟨Bs, 0, none⟩ ∧ B.cell? ⟨Bs + 1, 0, none⟩ = A.cell? ⟨Bs + 1, 0, none⟩
theorem KeepC.refl (n₀ Bs : Nat) (A : World) : KeepC n₀ Bs A A := ⟨Below.refl _ _, rfl, rfl⟩
theorem KeepC.trans {n₀ Bs : Nat} {A B C : World} (h : KeepC n₀ Bs A B) (k : KeepC n₀ Bs B C) : KeepC n₀ Bs A C := ⟨h.1.trans k.1, k.2.1.trans h.2.1, k.2.2.trans h.2.2⟩
end Go.Proofs.Ytkfgegdnpinbdaa

namespace Go.Proofs.Ytkfgegdnpinbdaa
open Go.RowKit Go.Shelf
attribute [local go_sem] Oper.semAt_some

theorem blk_grown {W W' : World} {row : Option Nat} (hg : W.grownBy W' row) (hr : ∀ r, row = some r → ∃ o : Obj, W.heap[r]? = some o ∧ o.isCells = false) {g : Nat} {cs : Array Value} {T : TypeId} {f : Nat × Nat} (h : W.heap[g]? = some (.cells cs T f)) : W'.heap[g]? = some (.cells cs T f) := by
  refine (hg.block g (Array.getElem?_eq_some_iff.1 h).1 (fun e => ?_)).trans h
  obtain ⟨o, ho, hc⟩ := hr g e.symm
  rw [h] at ho
  cases ho
  cases hc
end Go.Proofs.Ytkfgegdnpinbdaa

namespace Go.Proofs.Ytkfgegdnpinbdaa
open Go.RowKit

/-- The last 124 bytes of a sealed block, and the block. -/
def padL (l : List UInt8) : List UInt8 := l ++ List.replicate (124 - l.length) 0
def sealL (l : List UInt8) : List UInt8 := fourL (crc (padL l)).toNat ++ padL l
theorem padL_length (l : List UInt8) (h : l.length ≤ 124) : (padL l).length = 124 := by simp [padL]; omega
theorem fourL_length (n : Nat) : (fourL n).length = 4 := rfl
theorem sealL_length (l : List UInt8) (h : l.length ≤ 124) : (sealL l).length = 128 := by simp [sealL, fourL_length, padL_length l h]
theorem splice_pad (l : List UInt8) (h : l.length ≤ 124) : splice (List.replicate 124 (0 : UInt8)) 0 (l.take (min l.length 124)) = padL l := by
  rw [Nat.min_eq_left h, List.take_length]
  simp only [splice, padL, List.take_zero, List.nil_append, Nat.zero_add, List.drop_replicate]

set_option maxHeartbeats 1000000 in
theorem seal_yes (v : Value) (l : List UInt8) (w : World) (hI : Bytes w 0 w.heap.size v l) (hl : l.length ≤ 124) :
    Calls Try.prog 118 #[v] w fun e w' => ∃ u, e = .returned (.tuple #[u, .int .i64 0]) ∧ MadeB w w' u (sealL l) := by
  obtain ⟨a, c, rfl, g1, g2, _, _⟩ := id hI
  go_enter Try.func118, Try.ntmps118
  go_wp2_with (first
    | (refine wpList_makeB rfl (.const (.int .i64 124)) (.const (.int .i64 124)) 26 rfl 5 Try.underlying26 info_u8 124 rfl rfl (by omega) ?_; intro w1 hrow hb1)
    | (refine wpList_copyB rfl (.tmp 9) (.tmp 10) 26 26 rfl 5 Try.underlying26 info_u8 w.heap.size 0 124 124 rfl (List.replicate 124 0) hrow _ _ _ l rfl (hI.step hb1) (by rw [List.length_replicate]; omega) w.heap.size (Nat.le_refl _) ?_; intro w2 hrow2 hb2))
  rw [splice_pad l hl] at hrow2
  have hB2 := hb1.trans hb2
  have hp := padL_length l hl
  have hbp : Bytes w2 0 w2.heap.size (.slice (some ⟨w.heap.size, 0, none⟩) 124 124) (padL l) := by
    have := hrow2.bytes (by unfold maxLen; omega)
    rw [hp] at this
    exact this.more (Nat.zero_le _) hrow2.lt
  have hc := of_any _ _ _ hbp
  have hpl := fun k h => concat_any k h
  clear hpl hrow hb1 hb2
  have HL := Lib.hid hp
  have HR := Lib.hid hrow2
  have Hc := Lib.hid hc
  clear hp hrow2 hc
  refine Hc.out.mono ?_
  rintro e w3 ⟨rfl, hb3⟩
  have hlt := (crc (padL l)).isLt
  have hbp3 := hbp.step hb3
  have hB3 := hB2.trans (hb3.mono hB2.size)
  go_wp2_with fail
  refine (four_any _ _ (by omega)).mono ?_
  rintro e w4 ⟨v4, rfl, hm4⟩
  have hbp4 := hbp3.step hm4.below
  have hB4 := hB3.trans (hm4.below.mono hB3.size)
  have hb4 := hm4.bytes.all0
  have HP := Lib.hid (And.intro hbp4 hb4)
  obtain ⟨a4, c4, rfl, _, _, _, _⟩ := id hb4
  clear hbp hbp3 hbp4 hm4 hb4 hb3 hB2 hB3 hI
  have hlast : ∀ t, Calls Try.prog 131 #[.slice (some ⟨w4.heap.size, 0, none⟩) 2 2] (w4.alloc (.cells #[.slice a4 4 c4, .slice (some ⟨w.heap.size, 0, none⟩) 124 124] t))
      fun e w' => ∃ u, e = .returned u ∧ MadeB (w4.alloc (.cells #[.slice a4 4 c4, .slice (some ⟨w.heap.size, 0, none⟩) 124 124] t)) w' u (sealL l) := fun t => by
    have hb := (Below.refl w4.heap.size w4).alloc (Nat.le_refl _) (.cells #[.slice a4 4 c4, .slice (some ⟨w.heap.size, 0, none⟩) 124 124] t)
    have h := concat_any [(.slice a4 4 c4, fourL (crc (padL l)).toNat), (.slice (some ⟨w.heap.size, 0, none⟩) 124 124, padL l)] w4.heap.size 0 2 (w4.alloc (.cells #[.slice a4 4 c4, .slice (some ⟨w.heap.size, 0, none⟩) 124 124] t)) (by simp)
      (fun i p hp => by
        rw [Nat.zero_add, World.cell?_alloc_new]
        match i, hp with
        | 0, hp => cases hp; rfl
        | 1, hp => cases hp; rfl)
      (fun p hp => by
        simp only [List.mem_cons, List.not_mem_nil, or_false] at hp
        rcases hp with rfl | rfl
        · exact HP.out.2.step hb
        · exact HP.out.1.step hb)
      (by simp) (by omega) (by have := HL.out; simp [catL, this, fourL])
    rw [show catL [(.slice a4 4 c4, fourL (crc (padL l)).toNat), (.slice (some ⟨w.heap.size, 0, none⟩) 124 124, padL l)] = sealL l by simp [catL, sealL]] at h
    exact h
  have hl4 : (fourL (crc (padL l)).toNat).length = 4 := rfl
  rw [hl4] at *
  clear hl4
  have HP' := Lib.hid hB4
  go_wp2_with fail
  refine (hlast _).mono ?_
  rintro e w5 ⟨u, rfl, hm5⟩
  go_wp2
  go_ret2
  have hb := (Below.refl w4.heap.size w4).alloc (Nat.le_refl _) (.cells #[.slice a4 4 c4, .slice (some ⟨w.heap.size, 0, none⟩) 124 124] 26)
  exact ⟨u, rfl, hm5.bytes.more (Nat.le_trans hB4.size hb.size) (Nat.le_refl _), hm5.thawed, below_step hB4 hB4.size (below_step hb hb.size hm5.below)⟩

/-- Does a block open? -/
def opensL (l : List UInt8) : Bool := getN l 0 4 == (crc (l.drop 4)).toNat
def openE (l : List UInt8) : Int := if l.length = 128 then (if opensL l then 0 else 8) else 3
def openL (l : List UInt8) : List UInt8 := if openE l = 0 then l.drop 4 else []

set_option maxHeartbeats 1000000 in
theorem open_any (v : Value) (l : List UInt8) (w : World) (hI : Bytes w 0 w.heap.size v l) :
    Calls Try.prog 81 #[v] w fun e w' => ∃ u, e = .returned (.tuple #[u, .int .i64 (openE l)]) ∧ MadeB w w' u (openL l) := by
  by_cases hl : l.length = 128
  · obtain ⟨b, off, c, rfl, g0, g1, g2, g3, g4⟩ := hI.at_ (by omega)
    clear g4
    rw [hl] at g2 hI ⊢
    unfold maxLen at g3
    have hcut := hI.cut 4 124 (c - 4) (by omega) (by omega) (by unfold maxLen; omega)
    rw [List.take_of_length_le (by simp; omega)] at hcut
    have hdl : (l.drop 4).length = 124 := by simp; omega
    have hget := getFour_any _ l 0 w hI
    have hE0 : getE l 0 4 = 0 := if_pos (by simp; omega)
    have hgl := getN_lt l 0 4
    rw [hE0] at hget
    have hc := of_any _ _ _ hcut
    have hcl := fun w1 h => clone_any _ _ w1 (hcut.step (w' := w1) h) (by omega)
    have hof := fun w1 h => of_any _ _ w1 (hcut.step (w' := w1) h)
    have hrel : opensL l = true ↔ (getN l 0 4 : Int) = ((crc (l.drop 4)).toNat : Int) := by simp only [opensL, beq_iff_eq]; omega
    unfold openL openE
    rw [if_pos hl]
    have hlt := (crc (l.drop 4)).isLt
    clear hcut hc hE0 hI
    unfold u32v at hof
    generalize crc (l.drop 4) = C at *
    generalize C.toNat = cn at *
    generalize getN l 0 4 = gn at *
    generalize l.drop 4 = d at *
    have HH := Lib.hid (And.intro hcl hof)
    clear hcl hof
    by_cases ho : opensL l = true
    · rw [hrel] at ho
      rw [if_pos (hrel.2 ho), if_pos rfl]
      obtain rfl : gn = cn := by omega
      clear hrel ho hdl
      go_enter Try.func81, Try.ntmps81
      go_wp2_with fail
      refine hget.mono ?_
      rintro e w1 ⟨rfl, hb1⟩
      go_wp2_with fail
      refine (HH.out.2 w1 hb1).mono ?_
      rintro e w2 ⟨rfl, hb2⟩
      have hb12 := below_step hb1 hb1.size hb2
      go_wp2_with fail
      refine (HH.out.1 w2 hb12).mono ?_
      rintro e w3 ⟨u, rfl, hm⟩
      go_wp2
      go_ret2
      exact ⟨u, rfl, hm.bytes.more hb12.size (Nat.le_refl _), hm.thawed, below_step hb12 hb12.size hm.below⟩
    · have hne : ¬ ((gn : Int) = (cn : Int)) := fun h => ho (hrel.2 h)
      rw [if_neg ho, if_neg (by decide)]
      clear hrel ho hdl
      go_enter Try.func81, Try.ntmps81
      go_wp2_with fail
      refine hget.mono ?_
      rintro e w1 ⟨rfl, hb1⟩
      go_wp2_with fail
      refine (HH.out.2 w1 hb1).mono ?_
      rintro e w2 ⟨rfl, hb2⟩
      go_wp2
      go_ret2
      exact ⟨_, rfl, MadeB.nil_ (below_step hb1 hb1.size hb2)⟩
  · have e1 : openE l = 3 := by simp [openE, hl]
    have e2 : openL l = [] := by simp [openL, e1]
    rw [e1, e2]
    obtain ⟨a, c, rfl, g1, g2, _, _⟩ := id hI
    clear hI e1 e2
    go_enter Try.func81, Try.ntmps81
    go_wp2
    go_ret2
    exact ⟨_, rfl, MadeB.nil_ (Below.refl _ _)⟩
end Go.Proofs.Ytkfgegdnpinbdaa

namespace Go.Proofs.Ytkfgegdnpinbdaa
open Go.RowKit

theorem half_odd (s : BitVec 32) (h : (s.toNat : Int) % 2 = 1) : bits BinOp.xor IntKind.u32 ((s.toNat : Int) / 2) 3988292384 = ((half s).toNat : Int) := by
  have := half_nat s
  have e : bits BinOp.and IntKind.u32 (s.toNat : Int) 1 = 1 := by
    rw [show (1 : Int) = ((1#32).toNat : Int) by decide, and_u32, BitVec.toNat_and, show (1#32).toNat = 1 from rfl, Nat.and_one_is_mod]
    omega
  rw [e] at this
  exact this
theorem half_evn (s : BitVec 32) (h : ¬ (s.toNat : Int) % 2 = 1) : (s.toNat : Int) / 2 = ((half s).toNat : Int) := by
  have hb : s.getLsbD 0 = false := by
    simp only [BitVec.getLsbD, Nat.testBit_zero]
    simp; omega
  unfold half
  rw [hb]
  simp only [Bool.false_eq_true, if_false, BitVec.xor_zero, shr_nat]
  omega

set_option maxHeartbeats 1000000 in
theorem halved_any (s : BitVec 32) (many : Nat) (w : World) (hm : many ≤ 1000) : Calls Try.prog 137 #[u32v s, .int .i64 many] w fun e w' => e = .returned (u32v (halves many s)) ∧ w = w' := by
  unfold u32v
  go_enter Try.func137, Try.ntmps137
  go_wp2
  go_loop [0, 5] (fun v k => ∃ j : Nat, j ≤ many ∧ k = .int .i64 j ∧ v = u32v (halves j s)) (fun _ k => many - (intOf k).toNat)
  case atStart => exact ⟨0, Nat.zero_le _, rfl, rfl⟩
  case round =>
    obtain ⟨j, hj, rfl, hs⟩ := hrel
    unfold u32v at hs
    subst hs
    by_cases hlt : j < many
    · have hb := (halves j s).isLt
      have hf : half (halves j s) = halves (j + 1) s := rfl
      have HF := Lib.hid hf
      clear hf
      generalize halves j s = q at *
      by_cases ho : (q.toNat : Int) % 2 = 1
      · go_wp2
        go_round
        case rel => exact ⟨j + 1, by omega, by go_num, by rw [← HF.out, u32v, ← half_odd q ho]⟩
        case measure => simp [intOf]; omega
      · go_wp2
        go_round
        case rel => exact ⟨j + 1, by omega, by go_num, by rw [← HF.out, u32v, ← half_evn q ho]⟩
        case measure => simp [intOf]; omega
    · obtain rfl : j = many := by omega
      go_wp2
      go_ret
      exact ⟨rfl, rfl⟩
theorem rem15 (s : BitVec 32) : ∃ i : Nat, i < 16 ∧ (s.toNat : Int) % 16 = (i : Int) ∧ halves 4 (BitVec.ofNat 32 i) = halves 4 (s &&& 15#32) := by
  obtain ⟨i, h1, h2, h3⟩ := and15 s
  refine ⟨i, h1, ?_, h3⟩
  rw [show (15 : Int) = ((15#32).toNat : Int) by decide, and_u32, BitVec.toNat_and, show (15#32).toNat = 2 ^ 4 - 1 from rfl, Nat.and_two_pow_sub_one_eq_mod] at h2
  omega

set_option maxHeartbeats 2000000 in
theorem rof_any (v : Value) (l : List UInt8) (w : World) (hI : Bytes w 0 w.heap.size v l) : Calls Try.prog 125 #[v] w fun e w' => e = .returned (u32v (crc l)) ∧ Below w.heap.size w w' := by
  obtain ⟨a, c, rfl, g1, g2, g3, _⟩ := id hI
  unfold maxLen at g2
  go_enter Try.func125, Try.ntmps125
  go_wp2
  go_loopw [4] (fun k wr => ∃ n : Nat, n ≤ 16 ∧ k = .int .i64 n ∧ wr = w.alloc (.cells (tabV n) 164)) (fun k _ => 16 - (intOf k).toNat)
  case atStart => exact ⟨0, by omega, rfl, by rw [tabV_zero]⟩
  case round =>
    obtain ⟨n, hn, rfl, rfl⟩ := hrel
    by_cases h : n < 16
    · have hcell : (tabV n)[n]? = some (.int .u32 0) := by simp [tabV, h]
      have htab := fun v hv => tabV_set n h v hv
      have hH := halved_any (BitVec.ofNat 32 n) 4 (w.alloc (.cells (tabV n) 164)) (by omega)
      rw [show u32v (BitVec.ofNat 32 n) = .int .u32 n by rw [u32v, BitVec.toNat_ofNat, Nat.mod_eq_of_lt (by omega)]] at hH
      unfold u32v at hH
      have HH := Lib.hid hH
      have HT := Lib.hid htab
      have hn' : (n : Int) < 16 := by omega
      clear htab hH
      go_wp2_with (go_at_call 137; refine HH.out.mono ?_; rintro e w' ⟨rfl, rfl⟩)
      go_roundw
      case rel => exact ⟨n + 1, by omega, by go_num, by rw [← HT.out _ rfl]; rfl⟩
      case measure => simp [intOf]; omega
    · obtain rfl : n = 16 := by omega
      rw [tabV_lit]
      go_wp2
      rw [← tabV_lit]
      have hI2 := hI.step ((Below.refl w.heap.size w).alloc (Nat.le_refl _) (.cells (tabV 16) 164))
      have hBW := (Below.refl w.heap.size w).alloc (Nat.le_refl _) (.cells (tabV 16) 164)
      have htab : ∀ i : Nat, i < 16 → (w.alloc (.cells (tabV 16) 164)).cell? ⟨w.heap.size, i, none⟩ = some (u32v (halves 4 (BitVec.ofNat 32 i))) := fun i hi => by rw [World.cell?_alloc_new]; exact tabV_at i hi
      generalize w.alloc (.cells (tabV 16) 164) = W at *
      have HB := Lib.hid hBW
      clear hI g3 hBW
      generalize w.heap.size = tb at htab ⊢
      have HT := Lib.hid htab
      have HI := Lib.hid hI2
      clear htab hI2
      go_loop [5, 6] (fun s i => ∃ k : Nat, k ≤ l.length ∧ i = .int .i64 k ∧ s = u32v (crcS (BitVec.allOnes 32) (l.take k))) (fun _ i => l.length - (intOf i).toNat)
      case atStart => exact ⟨0, Nat.zero_le _, rfl, rfl⟩
      case round =>
        obtain ⟨k, hk, rfl, hs⟩ := hrel
        unfold u32v at hs
        subst hs
        by_cases hlt : k < l.length
        · obtain ⟨b, off, c', he, _, hb, _, _, hc⟩ := HI.out.at_ (by omega)
          cases he
          have hx := hc k l[k] (by simp [hlt])
          have hsn : crcS (BitVec.allOnes 32) (l.take (k + 1)) = stepB (crcS (BitVec.allOnes 32) (l.take k)) l[k] := by rw [List.take_succ_eq_append_getElem hlt, crcS_append]; rfl
          have HS := Lib.hid hsn
          clear hsn hc
          generalize crcS (BitVec.allOnes 32) (l.take k) = s at *
          generalize l[k] = x at *
          unfold bV at hx
          have hxl : (x.toNat : Int) < 256 := by have := x.toNat_lt; omega
          have e1 : bits BinOp.xor IntKind.u32 (s.toNat : Int) (x.toNat : Int) = ((s ^^^ b32 x).toNat : Int) := by rw [← b32_nat, xor_u32]
          have hs1 : stepB s x = halves 4 (halves 4 (s ^^^ b32 x)) := stepB_four s x
          have HS1 := Lib.hid hs1
          clear hs1
          generalize s ^^^ b32 x = s1 at *
          obtain ⟨i1, hi1, e2, e3⟩ := rem15 s1
          have t1 := HT.out i1 hi1
          have e4 := four_nat s1
          rw [← e3] at e4
          generalize halves 4 (BitVec.ofNat 32 i1) = y1 at *
          generalize halves 4 s1 = s2 at *
          obtain ⟨i2, hi2, e5, e6⟩ := rem15 s2
          have t2 := HT.out i2 hi2
          have e7 := four_nat s2
          rw [← e6] at e7
          generalize halves 4 (BitVec.ofNat 32 i2) = y2 at *
          generalize halves 4 s2 = s3 at *
          unfold u32v at t1 t2
          have b1 := s1.isLt
          have b2 := s2.isLt
          clear e3 e6
          go_wp2
          go_round
          case rel => exact ⟨k + 1, by omega, by go_num, by rw [HS.out, HS1.out]; rfl⟩
          case measure => simp [intOf]; omega
        · obtain rfl : k = l.length := by omega
          rw [List.take_length]
          have hfin : u32v (crc l) = .int .u32 (bits BinOp.xor IntKind.u32 ((crcS (BitVec.allOnes 32) l).toNat : Int) 4294967295) := by
            rw [show (4294967295 : Int) = ((BitVec.allOnes 32).toNat : Int) by decide, xor_u32, BitVec.xor_allOnes]
            rfl
          have HFin := Lib.hid hfin
          have hbd := (crcS (BitVec.allOnes 32) l).isLt
          clear hfin
          generalize crcS (BitVec.allOnes 32) l = s at *
          go_wp2
          go_ret
          exact ⟨by rw [HFin.out]; rfl, HB.out⟩
end Go.Proofs.Ytkfgegdnpinbdaa

namespace Go.Proofs.Ytkfgegdnpinbdaa
open Go.RowKit

theorem maxL_zero (l : List UInt8) : maxL l = 0 ↔ ∀ x ∈ l, x = 0 := by
  have h : ∀ (l : List UInt8) (m : Nat), l.foldl (fun m x => max m x.toNat) m = 0 ↔ m = 0 ∧ ∀ x ∈ l, x = 0 := by
    intro l
    induction l with
    | nil => intro m; simp
    | cons y l ih =>
      intro m
      rw [List.foldl_cons, ih]
      constructor
      · rintro ⟨h1, h2⟩
        have h3 : y.toNat = 0 := by omega
        have h4 : y = 0 := UInt8.toNat_inj.1 (by rw [h3]; rfl)
        exact ⟨by omega, fun x hx => by rcases List.mem_cons.1 hx with e | hx; (exact e.trans h4); (exact h2 x hx)⟩
      · rintro ⟨h1, h2⟩
        have h4 := h2 y (List.mem_cons_self ..)
        subst h4
        exact ⟨by subst h1; rfl, fun x hx => h2 x (List.mem_cons_of_mem _ hx)⟩
  have := h l 0
  unfold maxL
  rw [this]
  exact ⟨fun h => h.2, fun h => ⟨rfl, h⟩⟩
theorem mayT_iff {l : List UInt8} (hl : l.length = 256) : mayT l = true ↔ ∀ i, i < 8 → l.getD i 0 = 0 := by
  unfold mayT
  simp only [Bool.and_eq_true, beq_iff_eq, hl, true_and]
  rw [maxL_zero]
  constructor
  · intro h i hi
    apply h
    rw [List.mem_take_iff_getElem]
    exact ⟨i, by omega, by simp [show i < l.length by omega]⟩
  · intro h x hx
    rw [List.mem_take_iff_getElem] at hx
    obtain ⟨i, hi, rfl⟩ := hx
    have := h i (by omega)
    rw [List.getD_eq_getElem?_getD, List.getElem?_eq_getElem (by omega)] at this
    exact this

set_option maxRecDepth 100000 in
set_option maxHeartbeats 1000000 in
theorem rmayt_any (v : Value) (l : List UInt8) (w : World) (hI : Bytes w 0 w.heap.size v l) :
    Calls Try.prog 77 #[v] w fun e w' => e = .returned (.bool (mayT l)) ∧ w' = w := by
  by_cases h : l.length = 256
  · obtain ⟨b, off, c, rfl, -, hc2, hc3, hc4, hcell⟩ := hI.at_n h (by omega)
    unfold maxLen at hc4
    have HM := Lib.hid (mayT_iff h)
    have HC := Lib.hid hcell
    generalize mayT l = m at *
    clear hcell hI
    go_enter Try.func77, Try.ntmps77
    go_wp2
    go_loop [3] (fun i => ∃ k : Nat, k ≤ 8 ∧ i = .int .i64 k ∧ ∀ j, j < k → l.getD j 0 = 0) (fun i => 8 - (intOf i).toNat)
    case atStart => exact ⟨0, Nat.zero_le _, rfl, fun j hj => absurd hj (Nat.not_lt_zero _)⟩
    case round =>
    obtain ⟨k, hk, rfl, hall⟩ := hrel
    by_cases hlt : k < 8
    · have hc := HC.out k (l.getD k 0) (by simp [show k < l.length by omega])
      obtain ⟨x, hx⟩ : ∃ x, l.getD k 0 = x := ⟨_, rfl⟩
      rw [hx] at hc
      simp only [bV] at hc
      have HX := Lib.hid (And.intro hx hall)
      clear hx hall
      by_cases h0 : x = 0
      · subst h0
        go_wp2
        go_round
        case rel => exact ⟨k + 1, by omega, by go_num, fun j hj => by
          by_cases e : j = k
          · subst e; exact HX.out.1
          · exact HX.out.2 j (by omega)⟩
        case measure => simp [intOf]; omega
      · have h1 : ((x.toNat : Int) != 0) = true := by
          rw [bne_iff_ne]
          intro e
          exact h0 (UInt8.toNat_inj.1 (by simpa using e))
        have hm : m = false := by
          rw [Bool.eq_false_iff]
          intro e
          exact h0 (HX.out.1.symm.trans (HM.out.1 e k hlt))
        subst hm
        go_wp2
        go_ret
        exact ⟨rfl, rfl⟩
    obtain rfl : k = 8 := by omega
    have hm := HM.out.2 hall
    subst hm
    clear hall
    go_wp2
    go_ret
    exact ⟨rfl, rfl⟩
  · have hM : mayT l = false := by unfold mayT; simp [h]
    obtain ⟨a, c, rfl, g1, g2, -, -⟩ := hI
    rw [hM]
    have h1 : ¬ (l.length : Int) = 256 := by omega
    go_enter Try.func77, Try.ntmps77
    go_wp2
    go_ret
    exact ⟨rfl, rfl⟩

set_option maxRecDepth 100000 in
set_option maxHeartbeats 1000000 in
theorem rwitht_any (v : Value) (l : List UInt8) (q : Nat) (x : UInt8) (w : World) (hI : Bytes w 0 w.heap.size v l) (hl : l.length = 256) (hq : q < 256) :
    Calls Try.prog 45 #[v, .int .i64 q, bV x] w fun e w' => ∃ u, e = .returned u ∧ MadeB w w' u (l.set q x) := by
  obtain ⟨a, c, rfl, g1, g2⟩ := hI.form hl
  have hx : (x.toNat : Int) < 256 := by have := x.toNat_lt; omega
  have HI := Lib.hid hI
  have HL := Lib.hid hl
  unfold maxLen at g2
  clear hI hl
  simp only [bV]
  go_enter Try.func45, Try.ntmps45
  go_wp2_with (at_builtin; refine wpList_appB rfl _ _ 26 rfl w.heap.size 5 Try.underlying26 info_u8 _ [] rfl (OwnB.nil_ _ _ _) 0 w.heap.size _ l rfl HI.out (by have := HL.out; show 0 + l.length ≤ _; omega) (Nat.le_refl _) ?_; intro v1 w1 hown hB)
  rw [List.nil_append] at hown
  have hm := hown.made hB
  obtain ⟨b, off, c1, rfl, -, z2, z3, z4, z5⟩ := hm.bytes.at_n HL.out (by omega)
  have hcell := z5 q (l.getD q 0) (by simp [HL.out, hq])
  have hfz := hm.thawed b off _ _ rfl q hq
  have hst := hm.bytes.set q x (by rw [HL.out]; exact hq)
  have htt := hm.thawed.set ⟨b, off + q, none⟩ (bV x)
  have hw : w.heap.size ≤ b := by
    obtain ⟨b', off', c', e, h1, -⟩ := hm.bytes.at_n HL.out (by omega)
    cases e
    exact h1
  have hBf := hB.setCell (p := ⟨b, off + q, none⟩) hw (bV x)
  simp only [bV] at hcell
  unfold maxLen at z4
  have HF := Lib.hid (And.intro hst (And.intro htt hBf))
  clear hst htt hBf hm hown hB z5
  have hq1 : (q : Int) < 256 := by omega
  have hq0 : ¬ (256 : Int) ≤ q := by omega
  go_wp2
  go_ret
  obtain ⟨hst, htt, hBf⟩ := HF.out
  exact ⟨_, rfl, by rw [World.size_setCell]; exact hst, htt, hBf⟩


end Go.Proofs.Ytkfgegdnpinbdaa

