/- RoomNames: the words and contracts, part 7. -/
import Derived.Test.YtbddbadmfhplmaaRoomNamesQ1
import Derived.Test.YtbddbadmfhplmaaRoomNamesQ2
import Derived.Test.YtbddbadmfhplmaaRoomNamesQ3
import Derived.Test.YtbddbadmfhplmaaRoomNamesQ4
import Derived.Test.YtbddbadmfhplmaaRoomNamesQ5
import Derived.Test.YtbddbadmfhplmaaRoomNamesQ6
import Derived.WalkKit
import Derived.WalkLawsBesides
import Derived.WalkSpells
import Derived.Lib.Hide
import Derived.Laws.Rows
import Derived.Laws.AppendOwnNone
import Derived.Maps.AppendAt
import Derived.RangeFuncNested
import Derived.RangeFuncBound
import Derived.RangeFuncCalls
import Derived.RangeFuncLeaves
import Derived.RangeFuncBox
import Derived.Shelf.Abstract
import Derived.Shelf.RegionOpen
import Derived.OwnWalkIn
import Derived.TacticsInMore
import Derived.LoopNIn
import Derived.LoopIn
import Derived.ProofKit
import Derived.Deep.Slices
import Derived.WideShapes
import Derived.OrdersHeld
import Derived.Deep.QuietTactic
import Derived.BigQuiet
import Derived.StillTailTactics
import Derived.OpenShut
import Derived.Lib.SliceRun
import Derived.Lib.AppendZerosOnto
import Derived.Lib.Walk
import Derived.Deep.LoopGhost
import Derived.Laws.CopyOwn
import Derived.Deep.DeepCutAuto
import Derived.Laws.CopyRow
import Derived.Laws.MakeOwn
namespace Go.Proofs.Ytbddbadmfhplmaa
open Go.RowKit

theorem TwinAt.bytes {B : Nat} {w : World} {gb gw g : Nat} {cur : Array Value} {d : DiskL} (h : TwinAt B w gb gw g cur d) (hT : (datD d).flatten.length ≤ 100000000) (j o : Nat) (hj : j < (datD d).length) (ho : 0 < ((datD d).getD j []).length → o = posD (datD d) j) :
    Bytes w g (g + 1) (.slice (some ⟨g, o, none⟩) ((datD d).getD j []).length ((datD d).getD j []).length) ((datD d).getD j []) ∧ Thawed w (.slice (some ⟨g, o, none⟩) ((datD d).getD j []).length ((datD d).getD j []).length) := by
  refine ⟨?_, fun b off m c he i _ => by cases he; exact h.row.frozen _⟩
  have hle : ((datD d).getD j []).length ≤ maxLen := by
    have := posD_succ (datD d) j hj
    have := posD_le (datD d) (j + 1)
    unfold maxLen
    omega
  refine ⟨_, _, rfl, Nat.le_refl _, hle, fun hp => ⟨g, o, rfl, Nat.le_refl _, Nat.lt_succ_self _, fun i x hx => ?_⟩, fun h => by cases h⟩
  rw [h.row.cell, ho hp]
  have hc := cut_laid (datD d) j hj
  rw [← hc, List.getElem?_take] at hx
  split at hx
  · rw [List.getElem?_drop] at hx
    rw [hx]; rfl
  · cases hx
theorem TwinAt.bl' {B : Nat} {w : World} {gb gw g : Nat} {cur : Array Value} {d : DiskL} (h : TwinAt B w gb gw g cur d) (hT : (datD d).flatten.length ≤ 100000000) (hn : d.blocks.length ≤ 100000) :
    Sl rBytesT w B w.heap.size (.slice (some ⟨gb, 0, none⟩) d.blocks.length d.blocks.length) d.blocks := by
  refine ⟨_, _, rfl, Nat.le_refl _, by unfold maxLen; omega, fun hp => ⟨gb, 0, rfl, h.lo.2.1, h.hi.2.1, fun i x hx => ?_⟩, fun h => by cases h⟩
  have hi : i < d.blocks.length := (List.getElem?_eq_some_iff.1 hx).1
  rw [get_l d.blocks [] i hi] at hx
  cases hx
  obtain ⟨o, h1, h2⟩ := h.bl i hi
  have hb := h.bytes hT i o (by rw [datD_length]; omega) (by rw [datD_b d i hi]; exact h2)
  rw [datD_b d i hi] at hb
  exact ⟨_, by simpa [rBytesT] using h1, hb.1.more h.lo.1 h.hi.1, hb.2⟩
theorem TwinAt.wt' {B : Nat} {w : World} {gb gw g : Nat} {cur : Array Value} {d : DiskL} (h : TwinAt B w gb gw g cur d) (hT : (datD d).flatten.length ≤ 100000000) (i : Nat) (hi : i < d.waits.length) :
    cur[i * 2]? = some (.int .i64 (d.waits.getD i ⟨0, []⟩).at_) ∧ ∃ v, cur[i * 2 + 1]? = some v ∧ Bytes w g (g + 1) v (d.waits.getD i ⟨0, []⟩).data ∧ Thawed w v := by
  obtain ⟨h0, o, h1, h2⟩ := h.wt i hi
  have hb := h.bytes hT (d.blocks.length + i) o (by rw [datD_length]; omega) (by rw [datD_w d i hi]; exact h2)
  rw [datD_w d i hi] at hb
  exact ⟨h0, _, h1, hb⟩
theorem TwinAt.disk {B : Nat} {w : World} {gb gw g : Nat} {cur : Array Value} {d : DiskL} (h : TwinAt B w gb gw g cur d) (hT : (datD d).flatten.length ≤ 100000000) (hn : d.blocks.length ≤ 100000) (hn2 : d.waits.length ≤ 100000) :
    DiskT w B w.heap.size (.slice (some ⟨gb, 0, none⟩) d.blocks.length d.blocks.length) (.slice (some ⟨gw, 0, none⟩) d.waits.length (d.waits.length + 1)) d := by
  refine ⟨h.bl' hT hn, _, _, rfl, Nat.le_succ _, by unfold maxLen; omega, fun hp => ⟨gw, 0, rfl, h.lo.2.2, h.hi.2.2, fun i x hx => ?_⟩, fun h => by cases h⟩
  have hi : i < d.waits.length := (List.getElem?_eq_some_iff.1 hx).1
  rw [get_l d.waits ⟨0, []⟩ i hi] at hx
  cases hx
  obtain ⟨h0, v, h1, h2, h3⟩ := h.wt' hT i hi
  refine ⟨?_, h.wf i hi, v, ?_, h2.more h.lo.1 h.hi.1, h3⟩
  · show w.cell? ⟨gw, 0 + i * 2 + 0, none⟩ = _
    rw [blk_cell h.wcur, Nat.zero_add, Nat.add_zero]
    exact h0
  · show w.cell? ⟨gw, 0 + i * 2 + 1, none⟩ = _
    rw [blk_cell h.wcur, Nat.zero_add]
    exact h1
/-- The bytes of a disk that may be are few. -/
theorem may_len {d : DiskL} (h : mayD d = true) : d.blocks.length = 256 ∧ d.waits.length ≤ 4096 ∧ (∀ x ∈ d.blocks, x.length = 128) ∧ (∀ x ∈ d.waits, 0 ≤ x.at_ ∧ x.at_ < 256 ∧ x.data.length = 128) := by
  unfold mayD okW at h
  simp only [Bool.and_eq_true, beq_iff_eq, decide_eq_true_eq, List.all_eq_true] at h
  obtain ⟨⟨⟨h1, h2⟩, h3⟩, h4⟩ := h
  exact ⟨h1, h2, h3, fun x hx => ⟨(h4 x hx).1.1, (h4 x hx).1.2, (h4 x hx).2⟩⟩
theorem flat_le (L : List (List UInt8)) (n : Nat) (h : ∀ x ∈ L, x.length ≤ n) : L.flatten.length ≤ L.length * n := by
  induction L with
  | nil => simp
  | cons a l ih =>
    have h1 := h a (List.mem_cons_self ..)
    have h2 := ih (fun x hx => h x (List.mem_cons_of_mem _ hx))
    rw [List.flatten_cons, List.length_append, List.length_cons, Nat.succ_mul]
    omega
theorem dat_le {d : DiskL} (h1 : d.blocks.length ≤ 300) (h2 : d.waits.length ≤ 5000) (h3 : ∀ x ∈ d.blocks, x.length ≤ 128) (h4 : ∀ x ∈ d.waits, x.data.length ≤ 128) : (datD d).flatten.length ≤ 100000000 := by
  have := flat_le (datD d) 128 (fun x hx => by
    rcases List.mem_append.1 hx with h | h
    · exact h3 x h
    · obtain ⟨y, hy, rfl⟩ := List.mem_map.1 h
      exact h4 y hy)
  rw [datD_length] at this
  omega
end Go.Proofs.Ytbddbadmfhplmaa

namespace Go.Proofs.Ytbddbadmfhplmaa
open Go.RowKit

/-- A store that may be. -/
def mayS (s : StoreL) : Bool := mayD s.disk && (mayT s.now && mayT s.last)
def errS (s : StoreL) : Int := if mayS s then 0 else 8
def noS : StoreL := ⟨⟨[], []⟩, [], []⟩
/-- The four slices of a store. -/
def StoreV (w : World) (lo hi : Nat) (b u x y : Value) (s : StoreL) : Prop := DiskV w lo hi b u s.disk ∧ Bytes w lo hi x s.now ∧ Bytes w lo hi y s.last
/-- The same, and it may be written. -/
def StoreT (w : World) (lo hi : Nat) (b u x y : Value) (s : StoreL) : Prop := DiskT w lo hi b u s.disk ∧ (Bytes w lo hi x s.now ∧ Thawed w x) ∧ (Bytes w lo hi y s.last ∧ Thawed w y)
section
variable {w w' V V' : World} {lo hi : Nat} {b u x y : Value} {s : StoreL}
theorem StoreT.v (h : StoreT w lo hi b u x y s) : StoreV w lo hi b u x y s := ⟨h.1.v, h.2.1.1, h.2.2.1⟩
theorem StoreV.more {lo' hi' : Nat} (h : StoreV w lo hi b u x y s) (h1 : lo' ≤ lo) (h2 : hi ≤ hi') : StoreV w lo' hi' b u x y s := ⟨DiskV.more h.1 h1 h2, h.2.1.more h1 h2, h.2.2.more h1 h2⟩
theorem StoreV.keep (h : StoreV w lo hi b u x y s) (hk : Kp lo hi w w') : StoreV w' lo hi b u x y s := ⟨⟨Sl.keep h.1.1 hk, Sl.keep h.1.2 hk⟩, h.2.1.kept hk, h.2.2.kept hk⟩
theorem StoreT.more {lo' hi' : Nat} (h : StoreT w lo hi b u x y s) (h1 : lo' ≤ lo) (h2 : hi ≤ hi') : StoreT w lo' hi' b u x y s := ⟨DiskT.more h.1 h1 h2, ⟨h.2.1.1.more h1 h2, h.2.1.2⟩, ⟨h.2.2.1.more h1 h2, h.2.2.2⟩⟩
theorem StoreT.keep (h : StoreT w lo hi b u x y s) (hk : Kp lo hi w w') : StoreT w' lo hi b u x y s := ⟨h.1.kept hk, ⟨h.2.1.1.kept hk, thawed_kept h.2.1.1 h.2.1.2 hk⟩, ⟨h.2.2.1.kept hk, thawed_kept h.2.2.1 h.2.2.2 hk⟩⟩
/-- A store in new memory. -/
structure MadeS (w w' : World) (b u x y : Value) (s : StoreL) : Prop where
  store : StoreT w' w.heap.size w'.heap.size b u x y s
  below : Below w.heap.size w w'
theorem MadeS.nil_ (h : Below w.heap.size w w') : MadeS w w' (.slice none 0 0) (.slice none 0 0) (.slice none 0 0) (.slice none 0 0) noS :=
  ⟨⟨(MadeD.nil_ h).disk, ⟨(MadeB.nil_ h).bytes, (MadeB.nil_ h).thawed⟩, ⟨(MadeB.nil_ h).bytes, (MadeB.nil_ h).thawed⟩⟩, h⟩
theorem MadeS.v0 (h : MadeS w w' b u x y s) : StoreV w' 0 w'.heap.size b u x y s := h.store.v.more (Nat.zero_le _) (Nat.le_refl _)
/-- A store that lies from lo on, below hi, for as long as this stays. -/
def LO (lo hi : Nat) (b u x y : Value) (s : StoreL) (V : World) : Prop := Lv lo hi (fun W => StoreV W lo hi b u x y s) V
theorem LO.of (h : StoreV V lo hi b u x y s) (hh : hi ≤ V.heap.size) : LO lo hi b u x y s V := Lv.mk' hh fun _ hk => h.keep hk
theorem LO.v (h : LO lo hi b u x y s V) : StoreV V 0 V.heap.size b u x y s := (Lv.get h).more (Nat.zero_le _) (Lv.hi_le h)
theorem LO.d (h : LO lo hi b u x y s V) : DiskV V 0 V.heap.size b u s.disk := h.v.1
theorem LO.n (h : LO lo hi b u x y s V) : Bytes V 0 V.heap.size x s.now := h.v.2.1
theorem LO.l (h : LO lo hi b u x y s V) : Bytes V 0 V.heap.size y s.last := h.v.2.2
theorem LO.step (h : LO lo hi b u x y s V) (hb : Below V.heap.size V V') : LO lo hi b u x y s V' := Lv.step h hb
theorem LO.out {n0 h0 : Nat} (h : LO lo hi b u x y s V) (hs : V.heap.size ≤ V'.heap.size) (hf : ∀ x, x < V.heap.size → (x < n0 ∨ h0 ≤ x) → V'.heap[x]? = V.heap[x]?) (hd : hi ≤ n0 ∨ h0 ≤ lo) : LO lo hi b u x y s V' := Lv.out h hs hf hd
/-- The same, and it may be written. -/
def LP (lo hi : Nat) (b u x y : Value) (s : StoreL) (V : World) : Prop := Lv lo hi (fun W => StoreT W lo hi b u x y s) V
theorem LP.of (h : MadeS V V' b u x y s) : LP V.heap.size V'.heap.size b u x y s V' := Lv.mk' (Nat.le_refl _) fun _ hk => h.store.keep hk
theorem LP.t (h : LP lo hi b u x y s V) : StoreT V lo hi b u x y s := Lv.get h
theorem LP.o (h : LP lo hi b u x y s V) : LO lo hi b u x y s V := Lv.imp h fun _ k => k.v
theorem LP.v (h : LP lo hi b u x y s V) : StoreV V 0 V.heap.size b u x y s := h.o.v
theorem LP.d (h : LP lo hi b u x y s V) : DiskV V 0 V.heap.size b u s.disk := h.v.1
theorem LP.n (h : LP lo hi b u x y s V) : Bytes V 0 V.heap.size x s.now := h.v.2.1
theorem LP.l (h : LP lo hi b u x y s V) : Bytes V 0 V.heap.size y s.last := h.v.2.2
theorem LP.step (h : LP lo hi b u x y s V) (hb : Below V.heap.size V V') : LP lo hi b u x y s V' := Lv.step h hb
theorem LP.out {n0 h0 : Nat} (h : LP lo hi b u x y s V) (hs : V.heap.size ≤ V'.heap.size) (hf : ∀ x, x < V.heap.size → (x < n0 ∨ h0 ≤ x) → V'.heap[x]? = V.heap[x]?) (hd : hi ≤ n0 ∨ h0 ≤ lo) : LP lo hi b u x y s V' := Lv.out h hs hf hd
end
theorem five_new (w : World) (o1 o2 o3 o4 o5 : Obj) : (((((w.alloc o1).alloc o2).alloc o3).alloc o4).alloc o5).heap[w.heap.size]? = some o1 ∧ (((((w.alloc o1).alloc o2).alloc o3).alloc o4).alloc o5).heap[w.heap.size + 1]? = some o2 ∧
    (((((w.alloc o1).alloc o2).alloc o3).alloc o4).alloc o5).heap[w.heap.size + 2]? = some o3 ∧ (((((w.alloc o1).alloc o2).alloc o3).alloc o4).alloc o5).heap[w.heap.size + 3]? = some o4 ∧ (((((w.alloc o1).alloc o2).alloc o3).alloc o4).alloc o5).heap[w.heap.size + 4]? = some o5 := by
  have h := three_new w o1 o2 o3
  have e4 := World.alloc_heap_new (((w.alloc o1).alloc o2).alloc o3) o4
  have e5 := World.alloc_heap_new ((((w.alloc o1).alloc o2).alloc o3).alloc o4) o5
  refine ⟨?_, ?_, ?_, ?_, ?_⟩
  · rw [Below.heap_alloc _ o5 w.heap.size (by simp only [World.size_alloc]; omega), Below.heap_alloc _ o4 w.heap.size (by simp only [World.size_alloc]; omega)]; exact h.1
  · rw [Below.heap_alloc _ o5 (w.heap.size + 1) (by simp only [World.size_alloc]; omega), Below.heap_alloc _ o4 (w.heap.size + 1) (by simp only [World.size_alloc]; omega)]; exact h.2.1
  · rw [Below.heap_alloc _ o5 (w.heap.size + 2) (by simp only [World.size_alloc]; omega), Below.heap_alloc _ o4 (w.heap.size + 2) (by simp only [World.size_alloc]; omega)]; exact h.2.2
  · rw [Below.heap_alloc _ o5 (w.heap.size + 3) (by simp only [World.size_alloc]; omega)]; simpa using e4
  · simpa using e5
/-- A store elsewhere turns nothing between lo and hi. -/
theorem kp_at {lo hi r : Nat} (z : World) (i : Nat) (a : Value) (h : r < lo ∨ hi ≤ r) : Kp lo hi z (z.setCell ⟨r, i, none⟩ a) := fun b o h1 h2 =>
  ⟨heap_cell (set_other z r i a b (by omega)) o, heap_frozen (set_other z r i a b (by omega)) o⟩
theorem kp_four {lo hi r : Nat} (z : World) (a b c d : Value) (h : r < lo ∨ hi ≤ r) : Kp lo hi z ((((z.setCell ⟨r, 0, none⟩ a).setCell ⟨r, 1, none⟩ b).setCell ⟨r, 2, none⟩ c).setCell ⟨r, 3, none⟩ d) :=
  (((kp_at z 0 a h).trans (kp_at _ 1 b h)).trans (kp_at _ 2 c h)).trans (kp_at _ 3 d h)
theorem below_four {n r : Nat} (z : World) (a b c d : Value) (h : n ≤ r) : Below n z ((((z.setCell ⟨r, 0, none⟩ a).setCell ⟨r, 1, none⟩ b).setCell ⟨r, 2, none⟩ c).setCell ⟨r, 3, none⟩ d) :=
  ((((Below.refl n z).setCell (p := ⟨r, 0, none⟩) h a).setCell (p := ⟨r, 1, none⟩) h b).setCell (p := ⟨r, 2, none⟩) h c).setCell (p := ⟨r, 3, none⟩) h d
theorem StoreT.nil_ (w : World) (lo hi : Nat) : StoreT w lo hi (.slice none 0 0) (.slice none 0 0) (.slice none 0 0) (.slice none 0 0) noS :=
  ⟨DiskT.nil_ w lo hi, ⟨Bytes.nil_ _ _ _, Thawed.nil_ _⟩, ⟨Bytes.nil_ _ _ _, Thawed.nil_ _⟩⟩
/-- A store that lies behind lo; stores between w and lo do not touch it. -/
structure MadeL (w z : World) (lo : Nat) (b u x y : Value) (s : StoreL) : Prop where
  store : StoreT z lo z.heap.size b u x y s
  below : Below w.heap.size w z
theorem MadeL.set {w z : World} {lo : Nat} {b u x y : Value} {s : StoreL} (h : MadeL w z lo b u x y s) (r i : Nat) (a : Value) (h1 : w.heap.size ≤ r) (h2 : r < lo) : MadeL w (z.setCell ⟨r, i, none⟩ a) lo b u x y s :=
  ⟨by have := h.store.keep (kp_at z i a (lo := lo) (hi := z.heap.size) (.inl h2)); rwa [World.size_setCell], h.below.setCell (p := ⟨r, i, none⟩) h1 a⟩
theorem MadeL.made {w z : World} {lo : Nat} {b u x y : Value} {s : StoreL} (h : MadeL w z lo b u x y s) (h1 : w.heap.size ≤ lo) : MadeS w z b u x y s := ⟨h.store.more h1 (Nat.le_refl _), h.below⟩
theorem MadeL.nil_ {w z : World} (lo : Nat) (h : Below w.heap.size w z) : MadeL w z lo (.slice none 0 0) (.slice none 0 0) (.slice none 0 0) (.slice none 0 0) noS := ⟨StoreT.nil_ _ _ _, h⟩
theorem MadeL.four {w z : World} {lo : Nat} {b u x y : Value} {s : StoreL} (h : MadeL w z lo b u x y s) (r : Nat) (a1 a2 a3 a4 : Value) (h1 : w.heap.size ≤ r) (h2 : r < lo) :
    MadeL w ((((z.setCell ⟨r, 0, none⟩ a1).setCell ⟨r, 1, none⟩ a2).setCell ⟨r, 2, none⟩ a3).setCell ⟨r, 3, none⟩ a4) lo b u x y s :=
  (((h.set r 0 a1 h1 h2).set r 1 a2 h1 h2).set r 2 a3 h1 h2).set r 3 a4 h1 h2
end Go.Proofs.Ytbddbadmfhplmaa

namespace Go.Proofs.Ytbddbadmfhplmaa
open Go.RowKit

def newD : DiskL := ⟨List.replicate 256 (List.replicate 128 0), []⟩

set_option maxRecDepth 100000 in
set_option maxHeartbeats 1000000 in
/-- dev.New. -/
theorem dnew_any (w : World) :
    Calls Try.prog 62 #[] w fun e w' => ∃ b, e = .returned (.agg #[b, .slice none 0 0]) ∧ MadeD w w' b (.slice none 0 0) newD := by
  have hm1 : ∀ W : World, (Instr.makeSlice 22 (.int .i64 256) (.int .i64 256)).run Try.prog W = .ok (.slice (some ⟨W.heap.size, 0, none⟩) 256 256) (W.alloc (.cells (madeCells #[.slice none 0 0] 256) 26)) :=
    run_makeN (P := Try.prog) 22 26 (.slice none 0 0) #[.slice none 0 0] 1 24 Try.underlying22 (by kernel_rfl) rfl 256 256 256 rfl (by omega) (by omega) (by omega)
  have hm2 : ∀ W : World, (Instr.makeSlice 26 (.int .i64 128) (.int .i64 128)).run Try.prog W = .ok (.slice (some ⟨W.heap.size, 0, none⟩) 128 128) (W.alloc (.cells (madeCells #[.int .u8 0] 128) 5)) :=
    run_makeN (P := Try.prog) 26 5 (.int .u8 0) #[.int .u8 0] 1 1 Try.underlying26 info_u8 rfl 128 128 128 rfl (by omega) (by omega) (by omega)
  have hz : madeCells #[.int .u8 0] 128 = ((List.replicate 128 (0 : UInt8)).map bV).toArray := by kernel_rfl
  have hs1 : (madeCells #[.slice none 0 0] 256).size = 256 := size_madeCells _ _
  have HZ := Lib.hid hz
  have HS1 := Lib.hid hs1
  clear hz hs1
  generalize madeCells #[.int .u8 0] 128 = Z at *
  generalize madeCells #[.slice none 0 0] 256 = Y at *
  go_enter Try.func62, Try.ntmps62
  go_upto_region 2 with (fail)
  have hq := three_new w (.cells #[.slice none 0 0, .slice none 0 0] 25) (.cells Y 26) (.cells #[.slice (some ⟨w.heap.size + 1, 0, none⟩) 256 256, .slice none 0 0] 25)
  have hB : Below w.heap.size w (((w.alloc (.cells #[.slice none 0 0, .slice none 0 0] 25)).alloc (.cells Y 26)).alloc (.cells #[.slice (some ⟨w.heap.size + 1, 0, none⟩) 256 256, .slice none 0 0] 25)) := (((Below.refl _ w).alloc (Nat.le_refl _) _).alloc (by simp) _).alloc (by simp; omega) _
  obtain ⟨w3, hw3⟩ : ∃ w3, ((w.alloc (.cells #[.slice none 0 0, .slice none 0 0] 25)).alloc (.cells Y 26)).alloc (.cells #[.slice (some ⟨w.heap.size + 1, 0, none⟩) 256 256, .slice none 0 0] 25) = w3 := ⟨_, rfl⟩
  rw [hw3] at hq hB ⊢
  clear hw3
  obtain ⟨q0, q1, q2⟩ := hq
  have c2 := blk_cell q2 0
  simp at c2
  have HQ := Lib.hid (And.intro q0 (And.intro q1 (And.intro q2 hB)))
  clear q0 q1 q2 hB
  go_wp2_with fail
  go_loopw [8] (fun i wr => ∃ (k : Nat) (cur : Array Value), k ≤ 256 ∧ i = .int .i64 k ∧ wr.heap[w.heap.size + 1]? = some (.cells cur 26 (0, 0)) ∧ cur.size = 256 ∧ wr.heap[w.heap.size]? = some (.cells #[.slice none 0 0, .slice none 0 0] 25 (0, 0)) ∧ wr.heap[w.heap.size + 2]? = some (.cells #[.slice (some ⟨w.heap.size + 1, 0, none⟩) 256 256, .slice none 0 0] 25 (0, 0)) ∧ Below w.heap.size w wr ∧
    ∀ j, j < k → ∃ g, cur[j]? = some (.slice (some ⟨g, 0, none⟩) 128 128) ∧ w.heap.size + 2 < g ∧ RowB wr g 5 (List.replicate 128 0)) (fun i _ => 256 - (intOf i).toNat)
  case atStart => exact ⟨0, Y, Nat.zero_le _, rfl, HQ.out.2.1, HS1.out, HQ.out.1, HQ.out.2.2.1, HQ.out.2.2.2, fun j hj => absurd hj (Nat.not_lt_zero _)⟩
  case round =>
  obtain ⟨k, cur, hk, rfl, r1, hsz, r0, r2, hB, hj⟩ := hrel
  have l2 := (Array.getElem?_eq_some_iff.1 r2).1
  have l1 : w.heap.size + 1 < wr.heap.size := by omega
  have d0 := blk_cell r2 0
  simp at d0
  by_cases hlt : k < 256
  · obtain ⟨old, hold⟩ : ∃ u, cur[k]? = some u := ⟨_, Array.getElem?_eq_getElem (by omega)⟩
    have ck := (blk_cell r1 k).trans hold
    have fk := blk_frozen r1 k
    have HR := Lib.hid (And.intro r1 (And.intro hsz (And.intro r0 (And.intro r2 (And.intro hB hj)))))
    clear r1 hsz r0 r2 hB hj hold
    go_wp2_with fail
    go_region
    all_goals
      go_wp2
      go_roundw
      case measure => simp [intOf]; omega
    obtain ⟨r1, hsz, r0, r2, hB, hj⟩ := HR.out
    have hset := set_block r1 k (.slice (some ⟨wr.heap.size, 0, none⟩) 128 128)
    have hoth := fun x hx => set_other wr (w.heap.size + 1) k (.slice (some ⟨wr.heap.size, 0, none⟩) 128 128) x hx
    have hBz := hB.setCell (p := ⟨w.heap.size + 1, k, none⟩) (Nat.le_succ _) (.slice (some ⟨wr.heap.size, 0, none⟩) 128 128)
    have hszz : (wr.setCell ⟨w.heap.size + 1, k, none⟩ (.slice (some ⟨wr.heap.size, 0, none⟩) 128 128)).heap.size = wr.heap.size := World.size_setCell _ _ _
    obtain ⟨wz, hwz⟩ : ∃ wz, wr.setCell ⟨w.heap.size + 1, k, none⟩ (.slice (some ⟨wr.heap.size, 0, none⟩) 128 128) = wz := ⟨_, rfl⟩
    rw [hwz] at hset hoth hBz hszz ⊢
    have hal := fun x hx => Below.heap_alloc wz (.cells Z 5) x hx
    have hnew := World.alloc_heap_new wz (.cells Z 5)
    refine ⟨k + 1, _, by omega, by go_num, (hal _ (by omega)).trans hset, by rw [Array.size_setIfInBounds]; exact hsz, (hal _ (by omega)).trans ((hoth _ (by omega)).trans r0), (hal _ (by omega)).trans ((hoth _ (by omega)).trans r2), (hBz.alloc (by omega) _).drew, fun j hjk => ?_⟩
    rcases Nat.lt_succ_iff_lt_or_eq.1 hjk with hjk | rfl
    · obtain ⟨g, h1, h2, h3⟩ := hj j hjk
      have := h3.lt
      exact ⟨g, by rw [Array.getElem?_setIfInBounds_ne (by omega)]; exact h1, h2, (hal _ (by omega)).trans ((hoth _ (by omega)).trans h3)⟩
    · refine ⟨wr.heap.size, by rw [Array.getElem?_setIfInBounds_self_of_lt (by omega)], l2, ?_⟩
      show (wz.alloc (.cells Z 5)).heap[wr.heap.size]? = _
      rw [← hszz, hnew, HZ.out]
  obtain rfl : k = 256 := by omega
  have e0 := blk_cell r0 0
  have e1 := blk_cell r0 1
  have f0 := blk_frozen r0 0
  have f1 := blk_frozen r0 1
  have d1 := blk_cell r2 1
  simp at e0 e1 d1
  have HR := Lib.hid (And.intro r1 (And.intro hsz (And.intro hB hj)))
  clear r1 hsz r0 r2 hB hj
  go_wp2
  refine bodyPost_ret (v := .agg #[.slice (some ⟨w.heap.size + 1, 0, none⟩) 256 256, .slice none 0 0]) (by simp [results, Try.results62, go_sem, e0, e1]) rfl ?_
  obtain ⟨r1, hsz, hB, hj⟩ := HR.out
  have hs : ∀ x, x ≠ w.heap.size → ((wr.setCell ⟨w.heap.size, 0, none⟩ (.slice (some ⟨w.heap.size + 1, 0, none⟩) 256 256)).setCell ⟨w.heap.size, 1, none⟩ (.slice none 0 0)).heap[x]? = wr.heap[x]? := fun x hx => (set_other _ _ _ _ x hx).trans (set_other wr _ _ _ x hx)
  have hz : ((wr.setCell ⟨w.heap.size, 0, none⟩ (.slice (some ⟨w.heap.size + 1, 0, none⟩) 256 256)).setCell ⟨w.heap.size, 1, none⟩ (.slice none 0 0)).heap.size = wr.heap.size := by rw [World.size_setCell, World.size_setCell]
  refine ⟨_, rfl, ⟨⟨_, _, rfl, Nat.le_refl _, by unfold maxLen; simp, fun _ => ⟨w.heap.size + 1, 0, rfl, Nat.le_succ _, by rw [hz]; exact l1, fun i x hx => ?_⟩, fun h => by cases h⟩, Sl.nil_ _ _ _⟩, (hB.setCell (p := ⟨w.heap.size, 0, none⟩) (Nat.le_refl _) _).setCell (p := ⟨w.heap.size, 1, none⟩) (Nat.le_refl _) _⟩
  have hi : i < 256 := by simpa [newD] using (List.getElem?_eq_some_iff.1 hx).1
  have ex : x = List.replicate 128 0 := by
    have := List.mem_of_getElem? hx
    exact List.eq_of_mem_replicate this
  subst ex
  obtain ⟨g, h1, h2, h3⟩ := hj i hi
  have h3' := (hs g (by omega)).trans h3
  have hb := RowB.bytes h3' (by unfold maxLen; simp)
  have hlt := h3.lt
  refine ⟨.slice (some ⟨g, 0, none⟩) 128 128, ?_, hb.more (by omega) (by rw [hz]; omega), RowB.thawed h3' _ _⟩
  show World.cell? _ ⟨w.heap.size + 1, 0 + i * 1 + 0, none⟩ = _
  rw [heap_cell (hs _ (by omega)), blk_cell r1, Nat.zero_add, Nat.mul_one, Nat.add_zero]
  exact h1
end Go.Proofs.Ytbddbadmfhplmaa

namespace Go.Proofs.Ytbddbadmfhplmaa
open Go.RowKit Go.Shelf
attribute [local go_sem] Oper.semAt_some

/-- What is in cells stays. -/
def CK (W W' : World) : Prop := W.heap.size ≤ W'.heap.size ∧ ∀ a v, W.cell? a = some v → W'.cell? a = some v ∧ W'.frozen? a = W.frozen? a
theorem CK.refl (W : World) : CK W W := ⟨Nat.le_refl _, fun _ _ h => ⟨h, rfl⟩⟩
theorem CK.bytes {W W' : World} (h : CK W W') {lo hi : Nat} {v : Value} {l : List UInt8} (hb : Bytes W lo hi v l) : Bytes W' lo hi v l := by
  obtain ⟨a, c, e, h1, h2, h3, h4⟩ := hb
  refine ⟨a, c, e, h1, h2, fun hp => ?_, h4⟩
  obtain ⟨b, off, ea, hlo, hhi, hc⟩ := h3 hp
  exact ⟨b, off, ea, hlo, hhi, fun i x hx => (h.2 _ _ (hc i x hx)).1⟩
theorem CK.thawed {W W' : World} (h : CK W W') {lo hi : Nat} {v : Value} {l : List UInt8} (hb : Bytes W lo hi v l) (ht : Thawed W v) : Thawed W' v := by
  intro b off n c e i hi'
  obtain ⟨a, c', e', h1, h2, h3, h4⟩ := hb
  subst e
  cases e'
  obtain ⟨b', off', ea, hlo, hhi, hc⟩ := h3 (by omega)
  cases ea
  have := hc i (l[i]'hi') (by simp)
  exact (h.2 _ _ this).2.trans (ht _ _ _ _ rfl i hi')
end Go.Proofs.Ytbddbadmfhplmaa

