/- RoomNames: the words and contracts, part 2. -/
import Derived.Test.YtbddbadmfhplmaaRoomNamesQ1
import Derived.WalkKit
import Derived.WalkLawsBesides
import Derived.WalkSpells
import Derived.Lib.Hide
import Derived.Laws.Rows
import Derived.Laws.AppendOwnNone
import Derived.Maps.AppendAt
import Derived.ProofKit
import Derived.Deep.Slices
import Derived.WideShapes
import Derived.RangeFuncNested
import Derived.RangeFuncBound
import Derived.RangeFuncCalls
import Derived.RangeFuncLeaves
import Derived.RangeFuncBox
import Derived.Shelf.Abstract
import Derived.Shelf.RegionOpen
import Derived.OwnWalkIn
import Derived.TacticsInMore
import Derived.LoopNIn
import Derived.LoopIn
import Derived.Lib.AppendZerosOnto
import Derived.Lib.SliceRun
import Derived.Lib.Walk
import Derived.Deep.LoopGhost
import Derived.Laws.CopyOwn
import Derived.Laws.CopyRow
import Derived.OrdersHeld
import Derived.Deep.QuietTactic
import Derived.BigQuiet
namespace Go.Proofs.Ytbddbadmfhplmaa
open Go.RowKit

theorem thawed_kept {w w' : World} {lo hi : Nat} {v : Value} {l : List UInt8} (h : Bytes w lo hi v l) (ht : Thawed w v) (hk : Kp lo hi w w') : Thawed w' v := by
  intro b off n c e i hi'
  obtain ⟨a, c', e', h1, h2, h3, h4⟩ := h
  subst e
  cases e'
  obtain ⟨b', off', ea, hlo, hhi, _⟩ := h3 (by omega)
  cases ea
  exact ((hk b (off + i) hlo hhi).2).trans (ht _ _ _ _ rfl i hi')
def rBytesT : Rd (List UInt8) where
  n := 1
  R w lo hi x f := ∃ v, f 0 = some v ∧ Bytes w lo hi v x ∧ Thawed w v
  keep hk h := by obtain ⟨v, h1, h2, h3⟩ := h; exact ⟨v, h1, h2.kept hk, thawed_kept h2 h3 hk⟩
  more h1 h2 h := by obtain ⟨v, g1, g2, g3⟩ := h; exact ⟨v, g1, g2.more h1 h2, g3⟩
  ext he h := by obtain ⟨v, g1, g2, g3⟩ := h; exact ⟨v, (he 0 (by decide)) ▸ g1, g2, g3⟩
def rWriteT : Rd WrL where
  n := 2
  R w lo hi x f := f 0 = some (.int .i64 x.at_) ∧ (Lit.int .i64 x.at_).wf = true ∧ ∃ v, f 1 = some v ∧ Bytes w lo hi v x.data ∧ Thawed w v
  keep hk h := by obtain ⟨g0, g1, v, h1, h2, h3⟩ := h; exact ⟨g0, g1, v, h1, h2.kept hk, thawed_kept h2 h3 hk⟩
  more h1 h2 h := by obtain ⟨g0, g1, v, k1, k2, k3⟩ := h; exact ⟨g0, g1, v, k1, k2.more h1 h2, k3⟩
  ext he h := by obtain ⟨g0, g1, v, k1, k2, k3⟩ := h; exact ⟨(he 0 (by decide)) ▸ g0, g1, v, (he 1 (by decide)) ▸ k1, k2, k3⟩
theorem Sl.imp {α : Type} {r r' : Rd α} {w : World} {lo hi : Nat} {v : Value} {l : List α} (h : Sl r w lo hi v l) (hn : r'.n = r.n) (hi' : ∀ x f, r.R w lo hi x f → r'.R w lo hi x f) : Sl r' w lo hi v l := by
  obtain ⟨a, c, e, h1, h2, h3, h4⟩ := h
  refine ⟨a, c, e, h1, h2, fun hp => ?_, h4⟩
  obtain ⟨b, off, ea, hlo, hhi, hc⟩ := h3 hp
  exact ⟨b, off, ea, hlo, hhi, fun i x hx => by rw [hn]; exact hi' _ _ (hc i x hx)⟩
/-- A disk whose bytes may be written. -/
def DiskT (w : World) (lo hi : Nat) (b u : Value) (d : DiskL) : Prop := Sl rBytesT w lo hi b d.blocks ∧ Sl rWriteT w lo hi u d.waits
theorem DiskT.v {w : World} {lo hi : Nat} {b u : Value} {d : DiskL} (h : DiskT w lo hi b u d) : DiskV w lo hi b u d :=
  ⟨h.1.imp rfl fun _ _ ⟨v, g1, g2, _⟩ => ⟨v, g1, g2⟩, h.2.imp rfl fun _ _ ⟨g0, g1, v, g2, g3, _⟩ => ⟨g0, g1, v, g2, g3⟩⟩
theorem DiskV.step {w w' : World} {lo : Nat} {b u : Value} {d : DiskL} (h : DiskV w lo w.heap.size b u d) (hb : Below w.heap.size w w') : DiskV w' lo w'.heap.size b u d := ⟨h.1.step hb, h.2.step hb⟩
theorem DiskT.below {w w' : World} {lo hi B : Nat} {b u : Value} {d : DiskL} (h : DiskT w lo hi b u d) (hb : Below B w w') (hB : hi ≤ B) : DiskT w' lo hi b u d := ⟨h.1.below hb hB, h.2.below hb hB⟩
theorem DiskT.more {w : World} {lo hi lo' hi' : Nat} {b u : Value} {d : DiskL} (h : DiskT w lo hi b u d) (h1 : lo' ≤ lo) (h2 : hi ≤ hi') : DiskT w lo' hi' b u d := ⟨h.1.more h1 h2, h.2.more h1 h2⟩
theorem DiskV.more {w : World} {lo hi lo' hi' : Nat} {b u : Value} {d : DiskL} (h : DiskV w lo hi b u d) (h1 : lo' ≤ lo) (h2 : hi ≤ hi') : DiskV w lo' hi' b u d := ⟨h.1.more h1 h2, h.2.more h1 h2⟩
theorem DiskV.nil_ (w : World) (lo hi : Nat) : DiskV w lo hi (.slice none 0 0) (.slice none 0 0) ⟨[], []⟩ := ⟨Sl.nil_ _ _ _, Sl.nil_ _ _ _⟩
theorem DiskT.nil_ (w : World) (lo hi : Nat) : DiskT w lo hi (.slice none 0 0) (.slice none 0 0) ⟨[], []⟩ := ⟨Sl.nil_ _ _ _, Sl.nil_ _ _ _⟩
/-- A disk that a call made. -/
structure MadeD (w w' : World) (b u : Value) (d : DiskL) : Prop where
  disk : DiskT w' w.heap.size w'.heap.size b u d
  below : Below w.heap.size w w'
theorem MadeD.nil_ {w w' : World} (h : Below w.heap.size w w') : MadeD w w' (.slice none 0 0) (.slice none 0 0) ⟨[], []⟩ := ⟨DiskT.nil_ _ _ _, h⟩
theorem MadeD.v0 {w w' : World} {b u : Value} {d : DiskL} (h : MadeD w w' b u d) : DiskV w' 0 w'.heap.size b u d := h.disk.v.more (Nat.zero_le _) (Nat.le_refl _)

theorem named_w {B : Nat} {a w : World} (_ : Below B a w) : ∃ v, v = w := ⟨_, rfl⟩

/-- Where the k-th list begins. -/
def posD (D : List (List UInt8)) (k : Nat) : Nat := (D.take k).flatten.length
/-- What is laid when k lists are laid. -/
def laid (D : List (List UInt8)) (k : Nat) : List UInt8 := (D.take k).flatten ++ List.replicate (D.flatten.length - posD D k) 0
theorem flat_split (D : List (List UInt8)) (k : Nat) : D.flatten = (D.take k).flatten ++ (D.drop k).flatten := by
  rw [← List.flatten_append, List.take_append_drop]
theorem flat_succ (D : List (List UInt8)) (k : Nat) (h : k < D.length) : (D.take (k + 1)).flatten = (D.take k).flatten ++ D.getD k [] := by
  rw [List.take_add_one, List.flatten_append]
  simp [h]
theorem posD_zero (D : List (List UInt8)) : posD D 0 = 0 := by simp [posD]
theorem posD_succ (D : List (List UInt8)) (k : Nat) (h : k < D.length) : posD D (k + 1) = posD D k + (D.getD k []).length := by
  unfold posD
  rw [flat_succ D k h, List.length_append]
theorem posD_le (D : List (List UInt8)) (k : Nat) : posD D k ≤ D.flatten.length := by
  have := congrArg List.length (flat_split D k)
  rw [List.length_append] at this
  unfold posD
  omega
theorem posD_all (D : List (List UInt8)) : posD D D.length = D.flatten.length := by simp [posD]
theorem laid_zero (D : List (List UInt8)) : laid D 0 = List.replicate D.flatten.length 0 := by simp [laid, posD]
theorem laid_length (D : List (List UInt8)) (k : Nat) : (laid D k).length = D.flatten.length := by
  have := posD_le D k
  unfold laid
  rw [List.length_append, List.length_replicate]
  unfold posD at *
  omega
theorem laid_all (D : List (List UInt8)) : laid D D.length = D.flatten := by simp [laid, posD_all]
theorem splice_laid (D : List (List UInt8)) (k o : Nat) (h : k < D.length) (ho : posD D k < D.flatten.length → o = posD D k) : splice (laid D k) o (D.getD k []) = laid D (k + 1) := by
  have h1 := posD_succ D k h
  have h2 := flat_succ D k h
  have h3 := posD_le D (k + 1)
  rcases Nat.eq_zero_or_pos (D.getD k []).length with h0 | h0
  · have e : D.getD k [] = [] := List.eq_nil_of_length_eq_zero h0
    rw [e] at h1 h2 ⊢
    simp only [List.length_nil, Nat.add_zero, List.append_nil] at h1 h2
    unfold laid
    rw [h1, h2]
    simp [splice]
  · obtain rfl := ho (by omega)
    unfold laid splice
    rw [h2, h1]
    have e1 : (D.take k).flatten.length = posD D k := rfl
    rw [List.take_left' e1, List.drop_append, e1, show posD D k + (D.getD k []).length - posD D k = (D.getD k []).length by omega, List.drop_eq_nil_of_le (by omega), List.nil_append, List.drop_replicate, List.append_assoc]
    congr 3
    omega
theorem cut_laid (D : List (List UInt8)) (j : Nat) (h : j < D.length) : (D.flatten.drop (posD D j)).take (D.getD j []).length = D.getD j [] := by
  rw [flat_split D j, show posD D j = (D.take j).flatten.length from rfl, List.drop_left]
  have e : D.getD j [] = D[j] := by simp [h]
  rw [List.drop_eq_getElem_cons h, List.flatten_cons, e, List.take_left]
/-- All the bytes of a disk. -/
def datD (d : DiskL) : List (List UInt8) := d.blocks ++ d.waits.map WrL.data
theorem datD_length (d : DiskL) : (datD d).length = d.blocks.length + d.waits.length := by simp [datD]
theorem datD_b (d : DiskL) (k : Nat) (h : k < d.blocks.length) : (datD d).getD k [] = d.blocks.getD k [] := by
  simp [datD, List.getElem?_append_left h]
theorem datD_w (d : DiskL) (k : Nat) (h : k < d.waits.length) : (datD d).getD (d.blocks.length + k) [] = (d.waits.getD k ⟨0, []⟩).data := by
  simp [datD, h]

/-- But for three blocks all that was there is as it was. -/
def Oth3 (a b c : Nat) (w w' : World) : Prop := w.heap.size ≤ w'.heap.size ∧ ∀ k, k < w.heap.size → k ≠ a → k ≠ b → k ≠ c → w'.heap[k]? = w.heap[k]?
theorem Oth3.refl (a b c : Nat) (w : World) : Oth3 a b c w w := ⟨Nat.le_refl _, fun _ _ _ _ _ => rfl⟩
theorem Oth3.trans {a b c : Nat} {w w1 w2 : World} (h : Oth3 a b c w w1) (k : Oth3 a b c w1 w2) : Oth3 a b c w w2 := ⟨Nat.le_trans h.1 k.1, fun x h0 h1 h2 h3 => (k.2 x (Nat.lt_of_lt_of_le h0 h.1) h1 h2 h3).trans (h.2 x h0 h1 h2 h3)⟩
theorem Oth3.of2 {a b c : Nat} {w w1 : World} (h : w1.heap.size = w.heap.size) (k : ∀ x, x ≠ a → x ≠ b → w1.heap[x]? = w.heap[x]?) : Oth3 a b c w w1 := ⟨Nat.le_of_eq h.symm, fun x _ h1 h2 _ => k x h1 h2⟩
theorem Oth3.ofB {a b c : Nat} {w w1 : World} (h : Below w.heap.size w w1) : Oth3 a b c w w1 := ⟨h.size, fun x h0 _ _ _ => h.block x h0⟩
theorem set_other (w : World) (c o : Nat) (u : Value) (k : Nat) (h : k ≠ c) : (w.setCell ⟨c, o, none⟩ u).heap[k]? = w.heap[k]? := by
  simp [World.setCell, Array.getElem?_modify, Ne.symm h]
theorem Oth3.set_ {a b c : Nat} (w : World) (o : Nat) (u : Value) : Oth3 a b c w (w.setCell ⟨c, o, none⟩ u) := ⟨Nat.le_of_eq (World.size_setCell _ _ _).symm, fun k _ _ _ h => set_other w c o u k h⟩
theorem heap_cell {w w' : World} {b : Nat} (h : w'.heap[b]? = w.heap[b]?) (o : Nat) : w'.cell? ⟨b, o, none⟩ = w.cell? ⟨b, o, none⟩ := by
  unfold World.cell?
  simp [h]
theorem heap_frozen {w w' : World} {b : Nat} (h : w'.heap[b]? = w.heap[b]?) (o : Nat) : w'.frozen? ⟨b, o, none⟩ = w.frozen? ⟨b, o, none⟩ := by
  unfold World.frozen?
  simp [h]
end Go.Proofs.Ytbddbadmfhplmaa

namespace Go.Proofs.Ytbddbadmfhplmaa
open Go.RowKit

/-- What is in cells stays. -/
def CKc (w w' : World) : Prop := ∀ a v, w.cell? a = some v → w'.cell? a = some v ∧ w'.frozen? a = w.frozen? a
theorem CKc.refl (w : World) : CKc w w := fun _ _ h => ⟨h, rfl⟩
theorem CKc.trans {a b c : World} (h : CKc a b) (k : CKc b c) : CKc a c := fun p v e => ⟨(k p v (h p v e).1).1, ((k p v (h p v e).1).2).trans (h p v e).2⟩
theorem Bytes.ck {w w' : World} (h : CKc w w') {lo hi : Nat} {v : Value} {l : List UInt8} (hb : Bytes w lo hi v l) : Bytes w' lo hi v l := by
  obtain ⟨a, c, e, h1, h2, h3, h4⟩ := hb
  refine ⟨a, c, e, h1, h2, fun hp => ?_, h4⟩
  obtain ⟨b, off, ea, hlo, hhi, hc⟩ := h3 hp
  exact ⟨b, off, ea, hlo, hhi, fun i x hx => (h _ _ (hc i x hx)).1⟩
theorem thawed_ck {w w' : World} (h : CKc w w') {lo hi : Nat} {v : Value} {l : List UInt8} (hb : Bytes w lo hi v l) (ht : Thawed w v) : Thawed w' v := by
  intro b off n c e i hi
  obtain ⟨a, c', e', h1, h2, h3, h4⟩ := hb
  subst e
  cases e'
  obtain ⟨b', off', ea, _, hhi, hc⟩ := h3 (by omega)
  cases ea
  have hil : l[i]? = some (l[i]'hi) := by simp [hi]
  rw [(h _ _ (hc i _ hil)).2]
  exact ht _ _ _ _ rfl i hi
def RdCK {α : Type} (r : Rd α) : Prop := ∀ {w w' : World} {lo hi : Nat} {x : α} {f g : Nat → Option Value}, CKc w w' → (∀ j v, f j = some v → g j = some v) → r.R w lo hi x f → r.R w' lo hi x g
theorem rBytesT_ck : RdCK rBytesT := fun hc hg h => by obtain ⟨v, h1, h2, h3⟩ := h; exact ⟨v, hg _ _ h1, h2.ck hc, thawed_ck hc h2 h3⟩
theorem rWriteT_ck : RdCK rWriteT := fun hc hg h => by obtain ⟨g0, g1, v, h1, h2, h3⟩ := h; exact ⟨hg _ _ g0, g1, v, hg _ _ h1, h2.ck hc, thawed_ck hc h2 h3⟩
theorem Sl.ck {α : Type} {r : Rd α} (hr : RdCK r) {w w' : World} {lo hi : Nat} {v : Value} {l : List α} (h : Sl r w lo hi v l) (hc : CKc w w') : Sl r w' lo hi v l := by
  obtain ⟨a, c, e, h1, h2, h3, h4⟩ := h
  refine ⟨a, c, e, h1, h2, fun hp => ?_, h4⟩
  obtain ⟨b, off, ea, hlo, hhi, hx⟩ := h3 hp
  exact ⟨b, off, ea, hlo, hhi, fun i x hxi => hr hc (fun j v hv => (hc _ _ hv).1) (hx i x hxi)⟩
/-- The world without some blocks. -/
def hideW (w : World) (S : Nat → Bool) : World := { w with heap := w.heap.mapIdx fun i o => if S i then .cells #[] 0 (0, 0) else o }
theorem hideW_get (w : World) (S : Nat → Bool) (k : Nat) (h : S k = false) : (hideW w S).heap[k]? = w.heap[k]? := by
  unfold hideW
  simp only [Array.getElem?_mapIdx]
  cases w.heap[k]? with
  | none => rfl
  | some o => simp [h]
theorem hideW_cell (w : World) (S : Nat → Bool) (a : Addr) (h : S a.block = false) : (hideW w S).cell? a = w.cell? a := World.cell?_of_block (hideW_get w S _ h)
theorem hideW_frozen (w : World) (S : Nat → Bool) (a : Addr) (h : S a.block = false) : (hideW w S).frozen? a = w.frozen? a := World.frozen?_of_block (hideW_get w S _ h)
theorem hideW_no (w : World) (S : Nat → Bool) (a : Addr) (h : S a.block = true) : (hideW w S).cell? a = none := by
  unfold World.cell? hideW
  simp only [Array.getElem?_mapIdx]
  cases w.heap[a.block]? with
  | none => rfl
  | some o => simp [h]
theorem hideW_ck {w w' : World} {S S' : Nat → Bool} (h : ∀ k, k < w.heap.size → S k = false → S' k = false ∧ w'.heap[k]? = w.heap[k]?) : CKc (hideW w S) (hideW w' S') := by
  intro a v hv
  have hS : S a.block = false := by
    cases e : S a.block with
    | false => rfl
    | true => rw [hideW_no w S a e] at hv; cases hv
  rw [hideW_cell w S a hS] at hv
  obtain ⟨h1, h2⟩ := h a.block (cell_lt' hv) hS
  rw [hideW_cell w' S' a h1, hideW_frozen w' S' a h1, hideW_frozen w S a hS, World.cell?_of_block h2, World.frozen?_of_block h2]
  exact ⟨hv, rfl⟩
/-- Blocks S, and the row's own. -/
def andOwn (S : Nat → Bool) (v : Value) (k : Nat) : Bool := S k || decide (v.ownBlock = some k)
theorem andOwn_no {S : Nat → Bool} {v : Value} {k : Nat} (h : andOwn S v k = false) : S k = false ∧ v.ownBlock ≠ some k := by
  unfold andOwn at h
  simpa using h
/-- A row of the call's own that holds l: what its elements point to lies neither in the row nor in the blocks S. -/
def OwnR {α : Type} (r : Rd α) (base : Nat) (T : TypeId) (lo : Nat) (S : Nat → Bool) (w : World) (v : Value) (l : List α) : Prop :=
  (∀ g, v.ownBlock = some g → S g = false) ∧ ∃ xs, w.ownsRow base T r.n v l.length xs ∧ ∀ j x, l[j]? = some x → r.R (hideW w (andOwn S v)) lo w.heap.size x (fun i => xs[j * r.n + i]?)
theorem OwnR.nil_ {α : Type} (r : Rd α) (base : Nat) (T : TypeId) (lo : Nat) (S : Nat → Bool) (w : World) : OwnR r base T lo S w (.slice none 0 0) ([] : List α) :=
  ⟨fun g h => (by cases h), [], World.ownsRow_nil _ _ _ _, fun j x h => (by simp at h)⟩
theorem OwnR.lt {α : Type} {r : Rd α} {base : Nat} {T : TypeId} {lo : Nat} {S : Nat → Bool} {w : World} {v : Value} {l : List α} (h : OwnR r base T lo S w v l) : ∀ k, v.ownBlock = some k → base ≤ k ∧ k < w.heap.size := by
  obtain ⟨-, xs, h1, -⟩ := h
  exact h1.lt
theorem OwnR.form {α : Type} {r : Rd α} {base : Nat} {T : TypeId} {lo : Nat} {S : Nat → Bool} {w : World} {v : Value} {l : List α} (h : OwnR r base T lo S w v l) : ∃ ad c, v = .slice ad l.length c ∧ c ≤ maxLen := by
  obtain ⟨-, xs, h1, -⟩ := h
  rcases h1.2 with ⟨rfl, h0⟩ | ⟨g, cap, cur, rfl, -, -, -, h2, -⟩
  · exact ⟨none, 0, by rw [h0], Nat.zero_le _⟩
  · exact ⟨_, _, rfl, h2⟩
theorem OwnR.to {α : Type} {r : Rd α} (hr : RdCK r) {base : Nat} {T : TypeId} {lo : Nat} {S : Nat → Bool} {w w' : World} {v : Value} {l : List α} (h : OwnR r base T lo S w v l)
    (hs : w.heap.size ≤ w'.heap.size) (hk : ∀ k, k < w.heap.size → S k = false → w'.heap[k]? = w.heap[k]?) : OwnR r base T lo S w' v l := by
  have hlt := h.lt
  obtain ⟨h0, xs, ⟨hl, hrow⟩, hx⟩ := h
  refine ⟨h0, xs, ⟨hl, ?_⟩, fun j x hj => r.more (Nat.le_refl _) hs (hr (hideW_ck fun k h1 h2 => ⟨h2, hk k h1 (andOwn_no h2).1⟩) (fun _ _ e => e) (hx j x hj))⟩
  rcases hrow with h | ⟨g, cap, cur, rfl, hg, hh, rest⟩
  · exact .inl h
  · exact .inr ⟨g, cap, cur, rfl, hg, (hk g (hlt g rfl).2 (h0 g rfl)).trans hh, rest⟩
theorem OwnR.step {α : Type} {r : Rd α} (hr : RdCK r) {base : Nat} {T : TypeId} {lo : Nat} {S : Nat → Bool} {w w' : World} {v : Value} {l : List α} (h : OwnR r base T lo S w v l) (hB : Below w.heap.size w w') : OwnR r base T lo S w' v l :=
  h.to hr hB.size fun k hk _ => hB.block k hk
theorem OwnR.alloc {α : Type} {r : Rd α} (hr : RdCK r) {base : Nat} {T : TypeId} {lo : Nat} {S : Nat → Bool} {w : World} {v : Value} {l : List α} (h : OwnR r base T lo S w v l) (o : Obj) : OwnR r base T lo S (w.alloc o) v l :=
  h.step hr ((Below.refl _ _).alloc (Nat.le_refl _) o)
/-- append to such a row. -/
theorem own_form {w : World} {base n size : Nat} {T : TypeId} {v : Value} {xs : List Value} (h : w.ownsRow base T size v n xs) : ∃ ad c, v = .slice ad n c := by
  rcases h.2 with ⟨rfl, h0⟩ | ⟨g, cap, cur, rfl, -⟩
  · exact ⟨none, 0, by rw [h0]⟩
  · exact ⟨_, _, rfl⟩
/-- One element that was laid into a new block just so. -/
theorem news_one {w : World} (cs : Array Value) (T : TypeId) : ∀ j u, cs.toList[j]? = some u → (w.alloc (.cells cs T)).cell? ((⟨w.heap.size, 0, none⟩ : Addr).add j) = some u := by
  intro j u hu
  have e2 : (⟨w.heap.size, 0, none⟩ : Addr).add j = ⟨w.heap.size, j, none⟩ := by unfold Addr.add; split <;> simp_all
  rw [e2, cell_of_row _ w.heap.size j cs T (0, 0) (World.alloc_heap_new w _)]
  simpa using hu
end Go.Proofs.Ytbddbadmfhplmaa

namespace Go.Proofs.Ytbddbadmfhplmaa
open Go.RowKit

/-- The worlds that lie behind w: below w's size nothing has turned. Told by a world of any make. -/
noncomputable def aft (w W : World) : World := by
  classical exact if Below w.heap.size w W then W else w
theorem aft_below (w W : World) : Below w.heap.size w (aft w W) := by
  unfold aft
  split
  · assumption
  · exact Below.refl _ _
theorem aft_of {w W : World} (h : Below w.heap.size w W) : aft w W = W := by
  unfold aft
  rw [if_pos h]
def Cls (w : World) (w' : World) : Prop := ∃ W, w' = aft w W
attribute [go_sem] Cls
theorem Cls.of {w w' : World} (h : Below w.heap.size w w') : Cls w w' := ⟨w', (aft_of h).symm⟩
theorem Cls.below {w w' : World} (h : Cls w w') : Below w.heap.size w w' := by obtain ⟨W, rfl⟩ := h; exact aft_below w W
theorem Cls.refl (w : World) : Cls w w := Cls.of (Below.refl _ _)
theorem Cls.drew (w : World) : Cls w w.drew := Cls.of (Below.refl _ _).drew

/-- Operations that yield a value and enter nothing. -/
def calmOp (o : Oper) : Bool :=
  match o.op with
  | .move _ | .assign _ | .pick .. | .load .. | .binOp .. | .unOp .. | .convert .. | .slice .. | .fieldAddr .. | .field .. | .indexAddr .. | .index .. | .extract .. => true
  | .call { callee := .builtin .len, .. } => true
  | _ => false

section
variable {P : Program} {ops : Array Oper} {Q : Exit → Act → World → Prop} {md : Region.Mode} {S S' : World → Prop} {C : World → Prop}

theorem val_of {s : Sem Value} {w : World} {v : Value} (h : Oper.quietUpon P C w v ((do pure (Next.value (← s)) : Sem Next).run P w)) : ((do pure (Next.value (← s)) : Sem Next).run P w) = .ok (.value v) w := by
  simp only [Sem.run_bind] at h ⊢
  cases hs : s.run P w with
  | ok x w' =>
    rw [hs] at h
    simp only [Result.andThen, Sem.run_pure, Oper.quietUpon] at h ⊢
    obtain ⟨rfl, rfl⟩ := h
    rfl
  | halt x w' =>
    rw [hs] at h
    simp only [Result.andThen, Oper.quietUpon] at h

theorem calm_val {o : Oper} {a : Act} {w : World} {v : Value} (hc : calmOp o = true) (h : o.quietAt P a C w v) : (execOp a.eval o).run P w = .ok (.value v) w := by
  unfold Oper.quietAt at h
  obtain ⟨dst, op, ty, pos, aft, gd⟩ := o
  unfold calmOp at hc
  cases op with
  | move x =>
    simp only [execOp, Sem.run_pure, Oper.quietUpon] at h ⊢
    obtain ⟨_, rfl⟩ := h; rfl
  | assign x =>
    simp only [execOp, Sem.run_pure, Oper.quietUpon] at h ⊢
    obtain ⟨_, rfl⟩ := h; rfl
  | pick c x y =>
    have e : execOp a.eval { dst := dst, op := .pick c x y, type := ty, pos := pos, after := aft, guard := gd } = (do pure (Next.value (← (do pure (if ← asBool (a.eval c) then a.eval x else a.eval y) : Sem Value))) : Sem Next) := by
      simp [execOp]
    rw [e] at h ⊢
    exact val_of h
  | call c =>
    obtain ⟨callee, args, tys⟩ := c
    cases callee with
    | builtin b =>
      cases b with
      | len =>
        have e : execOp a.eval { dst := dst, op := .call { callee := .builtin .len, args := args, argTypes := tys }, type := ty, pos := pos, after := aft, guard := gd } = (do pure (Next.value (← Builtin.len_ tys ty (args.map a.eval))) : Sem Next) := by
          simp [execOp, resolve, invoke, builtin]
        rw [e] at h ⊢
        exact val_of h
      | _ => simp at hc
    | _ => simp at hc
  | load t x => exact val_of h
  | binOp op xt x y yt => exact val_of h
  | unOp op t x => exact val_of h
  | convert s d x => exact val_of h
  | slice t x lo hi mx => exact val_of h
  | fieldAddr s x f => exact val_of h
  | field xt x f => exact val_of h
  | indexAddr t x ix => exact val_of h
  | index xt x ix => exact val_of h
  | extract t ix => exact val_of h
  | _ => simp at hc

/-- A list of operations that may be taken one behind the other, first. -/
def segOk (md : Region.Mode) (ops : Array Oper) : List Nat → Array Bool → Bool
  | [], _ => true
  | i :: q, listed => (Region.ready md ops listed).contains i && Region.free md ops listed i && ((ops[i]?).map calmOp).getD false && segOk md ops q (listed.setIfInBounds i true)
def listAll : List Nat → Array Bool → Array Bool
  | [], l => l
  | i :: q, l => listAll q (l.setIfInBounds i true)
def consOp : Option Oper → List Oper → List Oper
  | some o, l => o :: l
  | none, l => l
theorem consOp_some (o : Oper) (l : List Oper) : consOp (some o) l = o :: l := rfl
def opsOf (ops : Array Oper) : List Nat → List Oper
  | [] => []
  | i :: q => consOp ops[i]? (opsOf ops q)
theorem opsOf_nil (ops : Array Oper) : opsOf ops [] = [] := rfl
theorem opsOf_cons (ops : Array Oper) (i : Nat) (q : List Nat) : opsOf ops (i :: q) = consOp ops[i]? (opsOf ops q) := rfl

theorem wpAnyH_seg (hs : Region.noSelect ops = true) (hQ : ∀ c (d : Option Tmp) (v : Value) (a : Act) w, Q (.panic c) (a.put d v) w → Q (.panic c) a w) {fuel : Nat} {w : World} (hS : S w) :
    ∀ (q : List Nat) (n : Nat) (listed : Array Bool) (a : Act), segOk md ops q listed = true → n = q.length + fuel →
      wpQuiet P ops S (fun a' => wpAnyH P md ops Q S fuel (listAll q listed) a' w) (opsOf ops q) a → wpAnyH P md ops Q S n listed a w
  | [], n, listed, a, _, hn, h => by
    subst hn
    simpa [opsOf, wpQuiet, listAll] using h
  | i :: q, n, listed, a, hok, hn, h => by
    simp only [segOk, Bool.and_eq_true] at hok
    obtain ⟨⟨⟨hr, hf⟩, hc⟩, hok'⟩ := hok
    cases hoi : ops[i]? with
    | none => simp [hoi] at hc
    | some o =>
      simp only [hoi, Option.map_some, Option.getD_some] at hc
      have hl' : opsOf ops (i :: q) = o :: opsOf ops q := by rw [opsOf_cons, hoi, consOp_some]
      rw [hl'] at h
      obtain rfl : n = (q.length + fuel) + 1 := by simp at hn; omega
      simp only [wpQuiet] at h
      split at h
      · rename_i hw
        obtain ⟨v, hv, hK⟩ := h
        exact wpAnyH_take hoi hs hf hr (fun c a w => hQ c _ _ a w) (.inl ⟨hw, fun w' hw' => calm_val hc (hv w' hw')⟩) hS (wpAnyH_seg hs hQ hS q _ _ _ hok' rfl hK)
      · rename_i hw
        exact wpAnyH_take hoi hs hf hr (fun c a w => hQ c _ _ a w) (.inr ⟨by simpa using hw, rfl⟩) hS (wpAnyH_seg hs hQ hS q _ _ _ hok' rfl h)

/-- A narrower class serves. -/
theorem wpAnyH_strong (hsub : ∀ W, S' W → S W) : ∀ (fuel : Nat) (listed : Array Bool) (a : Act) (w : World), wpAnyH P md ops Q S' fuel listed a w → wpAnyH P md ops Q S fuel listed a w
  | 0, _, _, _, h => h
  | fuel + 1, _, _, _, h => ⟨h.1, fun i hi => wpOp_mono (fun a' w' h' => ⟨hsub _ h'.1, wpAnyH_strong hsub fuel _ a' w' h'.2⟩) (h.2 i hi)⟩

/-- What is still to come behind an operation that was carried out: in a narrower class. -/
def After (P : Program) (md : Region.Mode) (ops : Array Oper) (Q : Exit → Act → World → Prop) (S : World → Prop) (fuel : Nat) (listed : Array Bool) (K : Act → World → Prop) : Prop :=
  ∀ (S' : World → Prop) a w, (∀ W, S' W → S W) → S' w → wpAnyH P md ops Q S' fuel listed a w → K a w
theorem After.out {fuel : Nat} {listed : Array Bool} {K : Act → World → Prop} (h : After P md ops Q S fuel listed K) (S' : World → Prop) {a : Act} {w : World} (hsub : ∀ W, S' W → S W) (hS : S' w) (hW : wpAnyH P md ops Q S' fuel listed a w) : K a w := h S' a w hsub hS hW

/-- Each of those that may come up now. -/
def Each (P : Program) (md : Region.Mode) (ops : Array Oper) (Q : Exit → Act → World → Prop) (S : World → Prop) (fuel : Nat) (listed : Array Bool) (a : Act) (w : World) (rs : List Nat) : Prop :=
  ∀ i ∈ rs, wpOp P ops Q i (fun a' w' => S w' ∧ wpAnyH P md ops Q S fuel (listed.setIfInBounds i true) a' w') a w
theorem Each.nil {fuel : Nat} {listed : Array Bool} {a : Act} {w : World} : Each P md ops Q S fuel listed a w [] := fun _ h => by cases h
theorem Each.cons {fuel : Nat} {listed : Array Bool} {a : Act} {w : World} {i : Nat} {rs : List Nat} (o : Oper) (ho : ops[i]? = some o)
    (h : ∀ K' : Act → World → Prop, After P md ops Q S fuel (listed.setIfInBounds i true) K' → if Region.wanted o (yielded ops a.tmps) = true then Oper.wp P o a w K' Q else K' (a.put o.dst undef) w)
    (hs : Each P md ops Q S fuel listed a w rs) : Each P md ops Q S fuel listed a w (i :: rs) := fun j hj => by
  rcases List.mem_cons.1 hj with rfl | hj
  · exact wpOp_step ho (fun K' hK => h K' (fun S' a w hsub hS hW => hK a w ⟨hsub _ hS, wpAnyH_strong hsub _ _ _ _ hW⟩))
  · exact hs j hj
theorem wpAnyH_each {n fuel : Nat} {listed : Array Bool} {a : Act} {w : World} (rs : List Nat) (hr : Region.ready md ops listed = rs) (hne : rs ≠ []) (hn : n = fuel + 1)
    (h : Each P md ops Q S fuel listed a w rs) : wpAnyH P md ops Q S n listed a w := by
  subst hn
  exact wpAnyH_all hr hne h
end
end Go.Proofs.Ytbddbadmfhplmaa

