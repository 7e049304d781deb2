/- NodeNames: the words and contracts, part 4. -/
import Derived.Test.YtfdogefoodljaaaNodeNamesQ1
import Derived.Test.YtfdogefoodljaaaNodeNamesQ2
import Derived.Test.YtfdogefoodljaaaNodeNamesQ3
import Derived.WalkKit
import Derived.WalkLawsBesides
import Derived.WalkSpells
import Derived.Lib.Hide
import Derived.Laws.Rows
import Derived.Laws.AppendOwnNone
import Derived.Maps.AppendAt
import Derived.ProofKit
import Derived.Deep.Slices
import Derived.WideShapes
import Derived.RangeFuncNested
import Derived.RangeFuncBound
import Derived.RangeFuncCalls
import Derived.RangeFuncLeaves
import Derived.RangeFuncBox
import Derived.Shelf.Abstract
import Derived.Shelf.RegionOpen
import Derived.OwnWalkIn
import Derived.TacticsInMore
import Derived.LoopNIn
import Derived.LoopIn
import Derived.Lib.AppendZerosOnto
import Derived.Lib.SliceRun
import Derived.Lib.Walk
import Derived.Deep.LoopGhost
import Derived.Laws.CopyOwn
import Derived.Laws.CopyRow
namespace Go.Proofs.Ytfdogefoodljaaa
open Go.RowKit

theorem thawed_kept {w w' : World} {lo hi : Nat} {v : Value} {l : List UInt8} (h : Bytes w lo hi v l) (ht : Thawed w v) (hk : Kp lo hi w w') : Thawed w' v := by
  intro b off n c e i hi'
  obtain ⟨a, c', e', h1, h2, h3, h4⟩ := h
  subst e
  cases e'
  obtain ⟨b', off', ea, hlo, hhi, _⟩ := h3 (by omega)
  cases ea
  exact ((hk b (off + i) hlo hhi).2).trans (ht _ _ _ _ rfl i hi')
def rBytesT : Rd (List UInt8) where
  n := 1
  R w lo hi x f := ∃ v, f 0 = some v ∧ Bytes w lo hi v x ∧ Thawed w v
  keep hk h := by obtain ⟨v, h1, h2, h3⟩ := h; exact ⟨v, h1, h2.kept hk, thawed_kept h2 h3 hk⟩
  more h1 h2 h := by obtain ⟨v, g1, g2, g3⟩ := h; exact ⟨v, g1, g2.more h1 h2, g3⟩
  ext he h := by obtain ⟨v, g1, g2, g3⟩ := h; exact ⟨v, (he 0 (by decide)) ▸ g1, g2, g3⟩
def rWriteT : Rd WrL where
  n := 2
  R w lo hi x f := f 0 = some (.int .i64 x.at_) ∧ (Lit.int .i64 x.at_).wf = true ∧ ∃ v, f 1 = some v ∧ Bytes w lo hi v x.data ∧ Thawed w v
  keep hk h := by obtain ⟨g0, g1, v, h1, h2, h3⟩ := h; exact ⟨g0, g1, v, h1, h2.kept hk, thawed_kept h2 h3 hk⟩
  more h1 h2 h := by obtain ⟨g0, g1, v, k1, k2, k3⟩ := h; exact ⟨g0, g1, v, k1, k2.more h1 h2, k3⟩
  ext he h := by obtain ⟨g0, g1, v, k1, k2, k3⟩ := h; exact ⟨(he 0 (by decide)) ▸ g0, g1, v, (he 1 (by decide)) ▸ k1, k2, k3⟩
theorem Sl.imp {α : Type} {r r' : Rd α} {w : World} {lo hi : Nat} {v : Value} {l : List α} (h : Sl r w lo hi v l) (hn : r'.n = r.n) (hi' : ∀ x f, r.R w lo hi x f → r'.R w lo hi x f) : Sl r' w lo hi v l := by
  obtain ⟨a, c, e, h1, h2, h3, h4⟩ := h
  refine ⟨a, c, e, h1, h2, fun hp => ?_, h4⟩
  obtain ⟨b, off, ea, hlo, hhi, hc⟩ := h3 hp
  exact ⟨b, off, ea, hlo, hhi, fun i x hx => by rw [hn]; exact hi' _ _ (hc i x hx)⟩
/-- A disk whose bytes may be written. -/
def DiskT (w : World) (lo hi : Nat) (b u : Value) (d : DiskL) : Prop := Sl rBytesT w lo hi b d.blocks ∧ Sl rWriteT w lo hi u d.waits
theorem DiskT.v {w : World} {lo hi : Nat} {b u : Value} {d : DiskL} (h : DiskT w lo hi b u d) : DiskV w lo hi b u d :=
  ⟨h.1.imp rfl fun _ _ ⟨v, g1, g2, _⟩ => ⟨v, g1, g2⟩, h.2.imp rfl fun _ _ ⟨g0, g1, v, g2, g3, _⟩ => ⟨g0, g1, v, g2, g3⟩⟩
theorem DiskV.step {w w' : World} {lo : Nat} {b u : Value} {d : DiskL} (h : DiskV w lo w.heap.size b u d) (hb : Below w.heap.size w w') : DiskV w' lo w'.heap.size b u d := ⟨h.1.step hb, h.2.step hb⟩
theorem DiskT.below {w w' : World} {lo hi B : Nat} {b u : Value} {d : DiskL} (h : DiskT w lo hi b u d) (hb : Below B w w') (hB : hi ≤ B) : DiskT w' lo hi b u d := ⟨h.1.below hb hB, h.2.below hb hB⟩
theorem DiskT.more {w : World} {lo hi lo' hi' : Nat} {b u : Value} {d : DiskL} (h : DiskT w lo hi b u d) (h1 : lo' ≤ lo) (h2 : hi ≤ hi') : DiskT w lo' hi' b u d := ⟨h.1.more h1 h2, h.2.more h1 h2⟩
theorem DiskV.more {w : World} {lo hi lo' hi' : Nat} {b u : Value} {d : DiskL} (h : DiskV w lo hi b u d) (h1 : lo' ≤ lo) (h2 : hi ≤ hi') : DiskV w lo' hi' b u d := ⟨h.1.more h1 h2, h.2.more h1 h2⟩
theorem DiskV.nil_ (w : World) (lo hi : Nat) : DiskV w lo hi (.slice none 0 0) (.slice none 0 0) ⟨[], []⟩ := ⟨Sl.nil_ _ _ _, Sl.nil_ _ _ _⟩
theorem DiskT.nil_ (w : World) (lo hi : Nat) : DiskT w lo hi (.slice none 0 0) (.slice none 0 0) ⟨[], []⟩ := ⟨Sl.nil_ _ _ _, Sl.nil_ _ _ _⟩
/-- A disk that a call made. -/
structure MadeD (w w' : World) (b u : Value) (d : DiskL) : Prop where
  disk : DiskT w' w.heap.size w'.heap.size b u d
  below : Below w.heap.size w w'
theorem MadeD.nil_ {w w' : World} (h : Below w.heap.size w w') : MadeD w w' (.slice none 0 0) (.slice none 0 0) ⟨[], []⟩ := ⟨DiskT.nil_ _ _ _, h⟩
theorem MadeD.v0 {w w' : World} {b u : Value} {d : DiskL} (h : MadeD w w' b u d) : DiskV w' 0 w'.heap.size b u d := h.disk.v.more (Nat.zero_le _) (Nat.le_refl _)

/-- Where the k-th list begins. -/
def posD (D : List (List UInt8)) (k : Nat) : Nat := (D.take k).flatten.length
theorem flat_split (D : List (List UInt8)) (k : Nat) : D.flatten = (D.take k).flatten ++ (D.drop k).flatten := by
  rw [← List.flatten_append, List.take_append_drop]
theorem flat_succ (D : List (List UInt8)) (k : Nat) (h : k < D.length) : (D.take (k + 1)).flatten = (D.take k).flatten ++ D.getD k [] := by
  rw [List.take_add_one, List.flatten_append]
  simp [h]
theorem posD_succ (D : List (List UInt8)) (k : Nat) (h : k < D.length) : posD D (k + 1) = posD D k + (D.getD k []).length := by
  unfold posD
  rw [flat_succ D k h, List.length_append]
theorem posD_le (D : List (List UInt8)) (k : Nat) : posD D k ≤ D.flatten.length := by
  have := congrArg List.length (flat_split D k)
  rw [List.length_append] at this
  unfold posD
  omega
theorem cut_laid (D : List (List UInt8)) (j : Nat) (h : j < D.length) : (D.flatten.drop (posD D j)).take (D.getD j []).length = D.getD j [] := by
  rw [flat_split D j, show posD D j = (D.take j).flatten.length from rfl, List.drop_left]
  have e : D.getD j [] = D[j] := by simp [h]
  rw [List.drop_eq_getElem_cons h, List.flatten_cons, e, List.take_left]
/-- All the bytes of a disk. -/
def datD (d : DiskL) : List (List UInt8) := d.blocks ++ d.waits.map WrL.data
theorem datD_length (d : DiskL) : (datD d).length = d.blocks.length + d.waits.length := by simp [datD]
theorem datD_b (d : DiskL) (k : Nat) (h : k < d.blocks.length) : (datD d).getD k [] = d.blocks.getD k [] := by
  simp [datD, List.getElem?_append_left h]
theorem datD_w (d : DiskL) (k : Nat) (h : k < d.waits.length) : (datD d).getD (d.blocks.length + k) [] = (d.waits.getD k ⟨0, []⟩).data := by
  simp [datD, h]

/-- But for three blocks all that was there is as it was. -/
def Oth3 (a b c : Nat) (w w' : World) : Prop := w.heap.size ≤ w'.heap.size ∧ ∀ k, k < w.heap.size → k ≠ a → k ≠ b → k ≠ c → w'.heap[k]? = w.heap[k]?
theorem Oth3.refl (a b c : Nat) (w : World) : Oth3 a b c w w := ⟨Nat.le_refl _, fun _ _ _ _ _ => rfl⟩
theorem Oth3.trans {a b c : Nat} {w w1 w2 : World} (h : Oth3 a b c w w1) (k : Oth3 a b c w1 w2) : Oth3 a b c w w2 := ⟨Nat.le_trans h.1 k.1, fun x h0 h1 h2 h3 => (k.2 x (Nat.lt_of_lt_of_le h0 h.1) h1 h2 h3).trans (h.2 x h0 h1 h2 h3)⟩
theorem set_other (w : World) (c o : Nat) (u : Value) (k : Nat) (h : k ≠ c) : (w.setCell ⟨c, o, none⟩ u).heap[k]? = w.heap[k]? := by
  simp [World.setCell, Array.getElem?_modify, Ne.symm h]
theorem Oth3.set_ {a b c : Nat} (w : World) (o : Nat) (u : Value) : Oth3 a b c w (w.setCell ⟨c, o, none⟩ u) := ⟨Nat.le_of_eq (World.size_setCell _ _ _).symm, fun k _ _ _ h => set_other w c o u k h⟩
theorem heap_cell {w w' : World} {b : Nat} (h : w'.heap[b]? = w.heap[b]?) (o : Nat) : w'.cell? ⟨b, o, none⟩ = w.cell? ⟨b, o, none⟩ := by
  unfold World.cell?
  simp [h]
theorem heap_frozen {w w' : World} {b : Nat} (h : w'.heap[b]? = w.heap[b]?) (o : Nat) : w'.frozen? ⟨b, o, none⟩ = w.frozen? ⟨b, o, none⟩ := by
  unfold World.frozen?
  simp [h]
end Go.Proofs.Ytfdogefoodljaaa

