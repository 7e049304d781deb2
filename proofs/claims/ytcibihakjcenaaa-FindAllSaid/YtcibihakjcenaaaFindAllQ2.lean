/- FindAll: the words and contracts, part 2. -/
import Derived.Test.YtcibihakjcenaaaFindAllQ1
import Derived.WalkKit
import Derived.WalkLawsBesides
import Derived.WalkSpells
import Derived.Lib.Hide
import Derived.Laws.Rows
import Derived.Laws.AppendOwnNone
import Derived.Maps.AppendAt
import Derived.ProofKit
import Derived.Deep.Slices
import Derived.WideShapes
import Derived.RangeFuncNested
import Derived.RangeFuncBound
import Derived.RangeFuncCalls
import Derived.RangeFuncLeaves
import Derived.RangeFuncBox
import Derived.Shelf.Abstract
import Derived.Shelf.RegionOpen
import Derived.OwnWalkIn
import Derived.TacticsInMore
import Derived.LoopNIn
import Derived.LoopIn
import Derived.Lib.AppendZerosOnto
import Derived.Lib.SliceRun
import Derived.Lib.Walk
import Derived.Deep.LoopGhost
import Derived.Laws.CopyOwn
import Derived.Laws.CopyRow
import Derived.OrdersHeld
import Derived.Deep.QuietTactic
import Derived.BigQuiet
import Derived.StillTailTactics
namespace Go.Proofs.Ytcibihakjcenaaa
open Go.RowKit

theorem thawed_kept {w w' : World} {lo hi : Nat} {v : Value} {l : List UInt8} (h : Bytes w lo hi v l) (ht : Thawed w v) (hk : Kp lo hi w w') : Thawed w' v := by
  intro b off n c e i hi'
  obtain ⟨a, c', e', h1, h2, h3, h4⟩ := h
  subst e
  cases e'
  obtain ⟨b', off', ea, hlo, hhi, _⟩ := h3 (by omega)
  cases ea
  exact ((hk b (off + i) hlo hhi).2).trans (ht _ _ _ _ rfl i hi')
def rBytesT : Rd (List UInt8) where
  n := 1
  R w lo hi x f := ∃ v, f 0 = some v ∧ Bytes w lo hi v x ∧ Thawed w v
  keep hk h := by obtain ⟨v, h1, h2, h3⟩ := h; exact ⟨v, h1, h2.kept hk, thawed_kept h2 h3 hk⟩
  more h1 h2 h := by obtain ⟨v, g1, g2, g3⟩ := h; exact ⟨v, g1, g2.more h1 h2, g3⟩
  ext he h := by obtain ⟨v, g1, g2, g3⟩ := h; exact ⟨v, (he 0 (by decide)) ▸ g1, g2, g3⟩
def rWriteT : Rd WrL where
  n := 2
  R w lo hi x f := f 0 = some (.int .i64 x.at_) ∧ (Lit.int .i64 x.at_).wf = true ∧ ∃ v, f 1 = some v ∧ Bytes w lo hi v x.data ∧ Thawed w v
  keep hk h := by obtain ⟨g0, g1, v, h1, h2, h3⟩ := h; exact ⟨g0, g1, v, h1, h2.kept hk, thawed_kept h2 h3 hk⟩
  more h1 h2 h := by obtain ⟨g0, g1, v, k1, k2, k3⟩ := h; exact ⟨g0, g1, v, k1, k2.more h1 h2, k3⟩
  ext he h := by obtain ⟨g0, g1, v, k1, k2, k3⟩ := h; exact ⟨(he 0 (by decide)) ▸ g0, g1, v, (he 1 (by decide)) ▸ k1, k2, k3⟩
theorem Sl.imp {α : Type} {r r' : Rd α} {w : World} {lo hi : Nat} {v : Value} {l : List α} (h : Sl r w lo hi v l) (hn : r'.n = r.n) (hi' : ∀ x f, r.R w lo hi x f → r'.R w lo hi x f) : Sl r' w lo hi v l := by
  obtain ⟨a, c, e, h1, h2, h3, h4⟩ := h
  refine ⟨a, c, e, h1, h2, fun hp => ?_, h4⟩
  obtain ⟨b, off, ea, hlo, hhi, hc⟩ := h3 hp
  exact ⟨b, off, ea, hlo, hhi, fun i x hx => by rw [hn]; exact hi' _ _ (hc i x hx)⟩
/-- A disk whose bytes may be written. -/
def DiskT (w : World) (lo hi : Nat) (b u : Value) (d : DiskL) : Prop := Sl rBytesT w lo hi b d.blocks ∧ Sl rWriteT w lo hi u d.waits
theorem DiskT.v {w : World} {lo hi : Nat} {b u : Value} {d : DiskL} (h : DiskT w lo hi b u d) : DiskV w lo hi b u d :=
  ⟨h.1.imp rfl fun _ _ ⟨v, g1, g2, _⟩ => ⟨v, g1, g2⟩, h.2.imp rfl fun _ _ ⟨g0, g1, v, g2, g3, _⟩ => ⟨g0, g1, v, g2, g3⟩⟩
theorem DiskV.step {w w' : World} {lo : Nat} {b u : Value} {d : DiskL} (h : DiskV w lo w.heap.size b u d) (hb : Below w.heap.size w w') : DiskV w' lo w'.heap.size b u d := ⟨h.1.step hb, h.2.step hb⟩
theorem DiskT.below {w w' : World} {lo hi B : Nat} {b u : Value} {d : DiskL} (h : DiskT w lo hi b u d) (hb : Below B w w') (hB : hi ≤ B) : DiskT w' lo hi b u d := ⟨h.1.below hb hB, h.2.below hb hB⟩
theorem DiskT.more {w : World} {lo hi lo' hi' : Nat} {b u : Value} {d : DiskL} (h : DiskT w lo hi b u d) (h1 : lo' ≤ lo) (h2 : hi ≤ hi') : DiskT w lo' hi' b u d := ⟨h.1.more h1 h2, h.2.more h1 h2⟩
theorem DiskV.more {w : World} {lo hi lo' hi' : Nat} {b u : Value} {d : DiskL} (h : DiskV w lo hi b u d) (h1 : lo' ≤ lo) (h2 : hi ≤ hi') : DiskV w lo' hi' b u d := ⟨h.1.more h1 h2, h.2.more h1 h2⟩
theorem DiskV.nil_ (w : World) (lo hi : Nat) : DiskV w lo hi (.slice none 0 0) (.slice none 0 0) ⟨[], []⟩ := ⟨Sl.nil_ _ _ _, Sl.nil_ _ _ _⟩
theorem DiskT.nil_ (w : World) (lo hi : Nat) : DiskT w lo hi (.slice none 0 0) (.slice none 0 0) ⟨[], []⟩ := ⟨Sl.nil_ _ _ _, Sl.nil_ _ _ _⟩
/-- A disk that a call made. -/
structure MadeD (w w' : World) (b u : Value) (d : DiskL) : Prop where
  disk : DiskT w' w.heap.size w'.heap.size b u d
  below : Below w.heap.size w w'
theorem MadeD.nil_ {w w' : World} (h : Below w.heap.size w w') : MadeD w w' (.slice none 0 0) (.slice none 0 0) ⟨[], []⟩ := ⟨DiskT.nil_ _ _ _, h⟩
theorem MadeD.v0 {w w' : World} {b u : Value} {d : DiskL} (h : MadeD w w' b u d) : DiskV w' 0 w'.heap.size b u d := h.disk.v.more (Nat.zero_le _) (Nat.le_refl _)

theorem named_w {B : Nat} {a w : World} (_ : Below B a w) : ∃ v, v = w := ⟨_, rfl⟩

/-- Where the k-th list begins. -/
def posD (D : List (List UInt8)) (k : Nat) : Nat := (D.take k).flatten.length
/-- What is laid when k lists are laid. -/
def laid (D : List (List UInt8)) (k : Nat) : List UInt8 := (D.take k).flatten ++ List.replicate (D.flatten.length - posD D k) 0
theorem flat_split (D : List (List UInt8)) (k : Nat) : D.flatten = (D.take k).flatten ++ (D.drop k).flatten := by
  rw [← List.flatten_append, List.take_append_drop]
theorem flat_succ (D : List (List UInt8)) (k : Nat) (h : k < D.length) : (D.take (k + 1)).flatten = (D.take k).flatten ++ D.getD k [] := by
  rw [List.take_add_one, List.flatten_append]
  simp [h]
theorem posD_zero (D : List (List UInt8)) : posD D 0 = 0 := by simp [posD]
theorem posD_succ (D : List (List UInt8)) (k : Nat) (h : k < D.length) : posD D (k + 1) = posD D k + (D.getD k []).length := by
  unfold posD
  rw [flat_succ D k h, List.length_append]
theorem posD_le (D : List (List UInt8)) (k : Nat) : posD D k ≤ D.flatten.length := by
  have := congrArg List.length (flat_split D k)
  rw [List.length_append] at this
  unfold posD
  omega
theorem posD_all (D : List (List UInt8)) : posD D D.length = D.flatten.length := by simp [posD]
theorem laid_zero (D : List (List UInt8)) : laid D 0 = List.replicate D.flatten.length 0 := by simp [laid, posD]
theorem laid_length (D : List (List UInt8)) (k : Nat) : (laid D k).length = D.flatten.length := by
  have := posD_le D k
  unfold laid
  rw [List.length_append, List.length_replicate]
  unfold posD at *
  omega
theorem laid_all (D : List (List UInt8)) : laid D D.length = D.flatten := by simp [laid, posD_all]
theorem splice_laid (D : List (List UInt8)) (k o : Nat) (h : k < D.length) (ho : posD D k < D.flatten.length → o = posD D k) : splice (laid D k) o (D.getD k []) = laid D (k + 1) := by
  have h1 := posD_succ D k h
  have h2 := flat_succ D k h
  have h3 := posD_le D (k + 1)
  rcases Nat.eq_zero_or_pos (D.getD k []).length with h0 | h0
  · have e : D.getD k [] = [] := List.eq_nil_of_length_eq_zero h0
    rw [e] at h1 h2 ⊢
    simp only [List.length_nil, Nat.add_zero, List.append_nil] at h1 h2
    unfold laid
    rw [h1, h2]
    simp [splice]
  · obtain rfl := ho (by omega)
    unfold laid splice
    rw [h2, h1]
    have e1 : (D.take k).flatten.length = posD D k := rfl
    rw [List.take_left' e1, List.drop_append, e1, show posD D k + (D.getD k []).length - posD D k = (D.getD k []).length by omega, List.drop_eq_nil_of_le (by omega), List.nil_append, List.drop_replicate, List.append_assoc]
    congr 3
    omega
theorem cut_laid (D : List (List UInt8)) (j : Nat) (h : j < D.length) : (D.flatten.drop (posD D j)).take (D.getD j []).length = D.getD j [] := by
  rw [flat_split D j, show posD D j = (D.take j).flatten.length from rfl, List.drop_left]
  have e : D.getD j [] = D[j] := by simp [h]
  rw [List.drop_eq_getElem_cons h, List.flatten_cons, e, List.take_left]
/-- All the bytes of a disk. -/
def datD (d : DiskL) : List (List UInt8) := d.blocks ++ d.waits.map WrL.data
theorem datD_length (d : DiskL) : (datD d).length = d.blocks.length + d.waits.length := by simp [datD]
theorem datD_b (d : DiskL) (k : Nat) (h : k < d.blocks.length) : (datD d).getD k [] = d.blocks.getD k [] := by
  simp [datD, List.getElem?_append_left h]
theorem datD_w (d : DiskL) (k : Nat) (h : k < d.waits.length) : (datD d).getD (d.blocks.length + k) [] = (d.waits.getD k ⟨0, []⟩).data := by
  simp [datD, h]

/-- But for three blocks all that was there is as it was. -/
def Oth3 (a b c : Nat) (w w' : World) : Prop := w.heap.size ≤ w'.heap.size ∧ ∀ k, k < w.heap.size → k ≠ a → k ≠ b → k ≠ c → w'.heap[k]? = w.heap[k]?
theorem Oth3.refl (a b c : Nat) (w : World) : Oth3 a b c w w := ⟨Nat.le_refl _, fun _ _ _ _ _ => rfl⟩
theorem Oth3.trans {a b c : Nat} {w w1 w2 : World} (h : Oth3 a b c w w1) (k : Oth3 a b c w1 w2) : Oth3 a b c w w2 := ⟨Nat.le_trans h.1 k.1, fun x h0 h1 h2 h3 => (k.2 x (Nat.lt_of_lt_of_le h0 h.1) h1 h2 h3).trans (h.2 x h0 h1 h2 h3)⟩
theorem Oth3.of2 {a b c : Nat} {w w1 : World} (h : w1.heap.size = w.heap.size) (k : ∀ x, x ≠ a → x ≠ b → w1.heap[x]? = w.heap[x]?) : Oth3 a b c w w1 := ⟨Nat.le_of_eq h.symm, fun x _ h1 h2 _ => k x h1 h2⟩
theorem Oth3.ofB {a b c : Nat} {w w1 : World} (h : Below w.heap.size w w1) : Oth3 a b c w w1 := ⟨h.size, fun x h0 _ _ _ => h.block x h0⟩
theorem set_other (w : World) (c o : Nat) (u : Value) (k : Nat) (h : k ≠ c) : (w.setCell ⟨c, o, none⟩ u).heap[k]? = w.heap[k]? := by
  simp [World.setCell, Array.getElem?_modify, Ne.symm h]
theorem Oth3.set_ {a b c : Nat} (w : World) (o : Nat) (u : Value) : Oth3 a b c w (w.setCell ⟨c, o, none⟩ u) := ⟨Nat.le_of_eq (World.size_setCell _ _ _).symm, fun k _ _ _ h => set_other w c o u k h⟩
theorem heap_cell {w w' : World} {b : Nat} (h : w'.heap[b]? = w.heap[b]?) (o : Nat) : w'.cell? ⟨b, o, none⟩ = w.cell? ⟨b, o, none⟩ := by
  unfold World.cell?
  simp [h]
theorem heap_frozen {w w' : World} {b : Nat} (h : w'.heap[b]? = w.heap[b]?) (o : Nat) : w'.frozen? ⟨b, o, none⟩ = w.frozen? ⟨b, o, none⟩ := by
  unfold World.frozen?
  simp [h]
end Go.Proofs.Ytcibihakjcenaaa

namespace Go.Proofs.Ytcibihakjcenaaa
open Go.RowKit

/-- What is in cells stays. -/
def CKc (w w' : World) : Prop := ∀ a v, w.cell? a = some v → w'.cell? a = some v ∧ w'.frozen? a = w.frozen? a
theorem CKc.refl (w : World) : CKc w w := fun _ _ h => ⟨h, rfl⟩
theorem CKc.trans {a b c : World} (h : CKc a b) (k : CKc b c) : CKc a c := fun p v e => ⟨(k p v (h p v e).1).1, ((k p v (h p v e).1).2).trans (h p v e).2⟩
theorem Bytes.ck {w w' : World} (h : CKc w w') {lo hi : Nat} {v : Value} {l : List UInt8} (hb : Bytes w lo hi v l) : Bytes w' lo hi v l := by
  obtain ⟨a, c, e, h1, h2, h3, h4⟩ := hb
  refine ⟨a, c, e, h1, h2, fun hp => ?_, h4⟩
  obtain ⟨b, off, ea, hlo, hhi, hc⟩ := h3 hp
  exact ⟨b, off, ea, hlo, hhi, fun i x hx => (h _ _ (hc i x hx)).1⟩
theorem thawed_ck {w w' : World} (h : CKc w w') {lo hi : Nat} {v : Value} {l : List UInt8} (hb : Bytes w lo hi v l) (ht : Thawed w v) : Thawed w' v := by
  intro b off n c e i hi
  obtain ⟨a, c', e', h1, h2, h3, h4⟩ := hb
  subst e
  cases e'
  obtain ⟨b', off', ea, _, hhi, hc⟩ := h3 (by omega)
  cases ea
  have hil : l[i]? = some (l[i]'hi) := by simp [hi]
  rw [(h _ _ (hc i _ hil)).2]
  exact ht _ _ _ _ rfl i hi
def RdCK {α : Type} (r : Rd α) : Prop := ∀ {w w' : World} {lo hi : Nat} {x : α} {f g : Nat → Option Value}, CKc w w' → (∀ j v, f j = some v → g j = some v) → r.R w lo hi x f → r.R w' lo hi x g
theorem rBytes_ck : RdCK rBytes := fun hc hg h => by obtain ⟨v, h1, h2⟩ := h; exact ⟨v, hg _ _ h1, h2.ck hc⟩
theorem rBytesT_ck : RdCK rBytesT := fun hc hg h => by obtain ⟨v, h1, h2, h3⟩ := h; exact ⟨v, hg _ _ h1, h2.ck hc, thawed_ck hc h2 h3⟩
theorem rWrite_ck : RdCK rWrite := fun hc hg h => by obtain ⟨g0, g1, v, h1, h2⟩ := h; exact ⟨hg _ _ g0, g1, v, hg _ _ h1, h2.ck hc⟩
theorem rWriteT_ck : RdCK rWriteT := fun hc hg h => by obtain ⟨g0, g1, v, h1, h2, h3⟩ := h; exact ⟨hg _ _ g0, g1, v, hg _ _ h1, h2.ck hc, thawed_ck hc h2 h3⟩
theorem rItem_ck : RdCK rItem := fun hc hg h => by obtain ⟨g0, g1, g2, g3, g4, v, h1, h2⟩ := h; exact ⟨hg _ _ g0, hg _ _ g1, hg _ _ g2, hg _ _ g3, g4, v, hg _ _ h1, h2.ck hc⟩
theorem Sl.ck {α : Type} {r : Rd α} (hr : RdCK r) {w w' : World} {lo hi : Nat} {v : Value} {l : List α} (h : Sl r w lo hi v l) (hc : CKc w w') : Sl r w' lo hi v l := by
  obtain ⟨a, c, e, h1, h2, h3, h4⟩ := h
  refine ⟨a, c, e, h1, h2, fun hp => ?_, h4⟩
  obtain ⟨b, off, ea, hlo, hhi, hx⟩ := h3 hp
  exact ⟨b, off, ea, hlo, hhi, fun i x hxi => hr hc (fun j v hv => (hc _ _ hv).1) (hx i x hxi)⟩
/-- The world without some blocks. -/
def hideW (w : World) (S : Nat → Bool) : World := { w with heap := w.heap.mapIdx fun i o => if S i then .cells #[] 0 (0, 0) else o }
theorem hideW_get (w : World) (S : Nat → Bool) (k : Nat) (h : S k = false) : (hideW w S).heap[k]? = w.heap[k]? := by
  unfold hideW
  simp only [Array.getElem?_mapIdx]
  cases w.heap[k]? with
  | none => rfl
  | some o => simp [h]
theorem hideW_cell (w : World) (S : Nat → Bool) (a : Addr) (h : S a.block = false) : (hideW w S).cell? a = w.cell? a := World.cell?_of_block (hideW_get w S _ h)
theorem hideW_frozen (w : World) (S : Nat → Bool) (a : Addr) (h : S a.block = false) : (hideW w S).frozen? a = w.frozen? a := World.frozen?_of_block (hideW_get w S _ h)
theorem hideW_no (w : World) (S : Nat → Bool) (a : Addr) (h : S a.block = true) : (hideW w S).cell? a = none := by
  unfold World.cell? hideW
  simp only [Array.getElem?_mapIdx]
  cases w.heap[a.block]? with
  | none => rfl
  | some o => simp [h]
theorem hideW_ck {w w' : World} {S S' : Nat → Bool} (h : ∀ k, k < w.heap.size → S k = false → S' k = false ∧ w'.heap[k]? = w.heap[k]?) : CKc (hideW w S) (hideW w' S') := by
  intro a v hv
  have hS : S a.block = false := by
    cases e : S a.block with
    | false => rfl
    | true => rw [hideW_no w S a e] at hv; cases hv
  rw [hideW_cell w S a hS] at hv
  obtain ⟨h1, h2⟩ := h a.block (cell_lt' hv) hS
  rw [hideW_cell w' S' a h1, hideW_frozen w' S' a h1, hideW_frozen w S a hS, World.cell?_of_block h2, World.frozen?_of_block h2]
  exact ⟨hv, rfl⟩
theorem hideW_out (w : World) (S : Nat → Bool) : CKc (hideW w S) w := by
  intro a v hv
  have hS : S a.block = false := by
    cases e : S a.block with
    | false => rfl
    | true => rw [hideW_no w S a e] at hv; cases hv
  rw [hideW_cell w S a hS] at hv
  exact ⟨hv, (hideW_frozen w S a hS).symm⟩
/-- What lies in blocks that are not hidden. -/
theorem hideW_kp {w0 w : World} {lo hi : Nat} {S : Nat → Bool} (h : ∀ k, lo ≤ k → k < hi → S k = false ∧ w.heap[k]? = w0.heap[k]?) : Kp lo hi w0 (hideW w S) := fun b o h1 h2 => by
  obtain ⟨g1, g2⟩ := h b h1 h2
  exact ⟨(hideW_cell w S _ g1).trans (World.cell?_of_block g2), (hideW_frozen w S _ g1).trans (World.frozen?_of_block g2)⟩

/-- Blocks S, and the row's own. -/
def andOwn (S : Nat → Bool) (v : Value) (k : Nat) : Bool := S k || decide (v.ownBlock = some k)
theorem andOwn_no {S : Nat → Bool} {v : Value} {k : Nat} (h : andOwn S v k = false) : S k = false ∧ v.ownBlock ≠ some k := by
  unfold andOwn at h
  simpa using h
theorem andOwn_of {S : Nat → Bool} {v : Value} {k : Nat} (h1 : S k = false) (h2 : v.ownBlock ≠ some k) : andOwn S v k = false := by
  unfold andOwn
  simp [h1, h2]

/-- A row of the call's own that holds l: what its elements point to lies neither in the row nor in the blocks S. -/
def OwnR {α : Type} (r : Rd α) (base : Nat) (T : TypeId) (lo : Nat) (S : Nat → Bool) (w : World) (v : Value) (l : List α) : Prop :=
  (∀ g, v.ownBlock = some g → S g = false) ∧ ∃ xs, w.ownsRow base T r.n v l.length xs ∧ ∀ j x, l[j]? = some x → r.R (hideW w (andOwn S v)) lo w.heap.size x (fun i => xs[j * r.n + i]?)
theorem OwnR.nil_ {α : Type} (r : Rd α) (base : Nat) (T : TypeId) (lo : Nat) (S : Nat → Bool) (w : World) : OwnR r base T lo S w (.slice none 0 0) ([] : List α) :=
  ⟨fun g h => (by cases h), [], World.ownsRow_nil _ _ _ _, fun j x h => (by simp at h)⟩
theorem OwnR.lt {α : Type} {r : Rd α} {base : Nat} {T : TypeId} {lo : Nat} {S : Nat → Bool} {w : World} {v : Value} {l : List α} (h : OwnR r base T lo S w v l) : ∀ k, v.ownBlock = some k → base ≤ k ∧ k < w.heap.size := by
  obtain ⟨-, xs, h1, -⟩ := h
  exact h1.lt
theorem OwnR.form {α : Type} {r : Rd α} {base : Nat} {T : TypeId} {lo : Nat} {S : Nat → Bool} {w : World} {v : Value} {l : List α} (h : OwnR r base T lo S w v l) : ∃ ad c, v = .slice ad l.length c ∧ c ≤ maxLen := by
  obtain ⟨-, xs, h1, -⟩ := h
  rcases h1.2 with ⟨rfl, h0⟩ | ⟨g, cap, cur, rfl, -, -, -, h2, -⟩
  · exact ⟨none, 0, by rw [h0], Nat.zero_le _⟩
  · exact ⟨_, _, rfl, h2⟩
theorem OwnR.to {α : Type} {r : Rd α} (hr : RdCK r) {base : Nat} {T : TypeId} {lo : Nat} {S : Nat → Bool} {w w' : World} {v : Value} {l : List α} (h : OwnR r base T lo S w v l)
    (hs : w.heap.size ≤ w'.heap.size) (hk : ∀ k, k < w.heap.size → S k = false → w'.heap[k]? = w.heap[k]?) : OwnR r base T lo S w' v l := by
  have hlt := h.lt
  obtain ⟨h0, xs, ⟨hl, hrow⟩, hx⟩ := h
  refine ⟨h0, xs, ⟨hl, ?_⟩, fun j x hj => r.more (Nat.le_refl _) hs (hr (hideW_ck fun k h1 h2 => ⟨h2, hk k h1 (andOwn_no h2).1⟩) (fun _ _ e => e) (hx j x hj))⟩
  rcases hrow with h | ⟨g, cap, cur, rfl, hg, hh, rest⟩
  · exact .inl h
  · exact .inr ⟨g, cap, cur, rfl, hg, (hk g (hlt g rfl).2 (h0 g rfl)).trans hh, rest⟩
theorem OwnR.step {α : Type} {r : Rd α} (hr : RdCK r) {base : Nat} {T : TypeId} {lo : Nat} {S : Nat → Bool} {w w' : World} {v : Value} {l : List α} (h : OwnR r base T lo S w v l) (hB : Below w.heap.size w w') : OwnR r base T lo S w' v l :=
  h.to hr hB.size fun k hk _ => hB.block k hk
theorem OwnR.alloc {α : Type} {r : Rd α} (hr : RdCK r) {base : Nat} {T : TypeId} {lo : Nat} {S : Nat → Bool} {w : World} {v : Value} {l : List α} (h : OwnR r base T lo S w v l) (o : Obj) : OwnR r base T lo S (w.alloc o) v l :=
  h.step hr ((Below.refl _ _).alloc (Nat.le_refl _) o)
theorem OwnR.setS {α : Type} {r : Rd α} (hr : RdCK r) {base : Nat} {T : TypeId} {lo : Nat} {S : Nat → Bool} {w : World} {v : Value} {l : List α} (h : OwnR r base T lo S w v l) (p : Addr) (u : Value) (hp : S p.block = true) : OwnR r base T lo S (w.setCell p u) v l :=
  h.to hr (by rw [World.size_setCell]; exact Nat.le_refl _) fun k _ hk => Below.heap_setCell w p u k (fun e => by rw [e, hp] at hk; cases hk)
theorem OwnR.sl {α : Type} {r : Rd α} (hr : RdCK r) {base : Nat} {T : TypeId} {lo : Nat} {S : Nat → Bool} {w : World} {v : Value} {l : List α} (h : OwnR r base T lo S w v l) {lo' : Nat} (h1 : lo' ≤ base) (h2 : lo' ≤ lo) : Sl r w lo' w.heap.size v l := by
  obtain ⟨h0, xs, ⟨hl, hrow⟩, hx⟩ := h
  rcases hrow with ⟨rfl, hz⟩ | ⟨g, cap, cur, rfl, hg, hh, g1, g2, g3, g4⟩
  · have : l = [] := List.eq_nil_of_length_eq_zero (by omega)
    subst this
    exact Sl.nil_ _ _ _
  · refine ⟨_, _, rfl, g1, g2, fun _ => ⟨g, 0, rfl, by omega, (Array.getElem?_eq_some_iff.1 hh).1, fun i x hxi => ?_⟩, fun h => by cases h⟩
    have hc : ∀ j u, xs[j]? = some u → w.cell? ⟨g, j, none⟩ = some u := by
      intro j u hj
      rw [cell_of_row w g j cur T (0, 0) hh, ← hj, ← g4, List.getElem?_take, if_pos]
      · simp
      · have := (List.getElem?_eq_some_iff.1 hj).1
        rw [hl] at this
        exact this
    refine r.more h2 (Nat.le_refl _) (hr (hideW_out w _) (fun j u hj => ?_) (hx i x hxi))
    show w.cell? ⟨g, 0 + i * r.n + j, none⟩ = some u
    rw [Nat.zero_add]
    exact hc _ _ hj
/-- The row may be written. -/
theorem OwnR.thaw {α : Type} {r : Rd α} {base : Nat} {T : TypeId} {lo : Nat} {S : Nat → Bool} {w : World} {v : Value} {l : List α} (h : OwnR r base T lo S w v l) : ∀ g o, v.ownBlock = some g → w.frozen? ⟨g, o, none⟩ = false := by
  obtain ⟨-, xs, ⟨-, hrow⟩, -⟩ := h
  intro g o hg
  rcases hrow with ⟨rfl, -⟩ | ⟨g', cap, cur, rfl, -, hh, -⟩
  · cases hg
  · cases hg
    simp [World.frozen?, hh]

/-- append to such a row. -/
theorem own_form {w : World} {base n size : Nat} {T : TypeId} {v : Value} {xs : List Value} (h : w.ownsRow base T size v n xs) : ∃ ad c, v = .slice ad n c := by
  rcases h.2 with ⟨rfl, h0⟩ | ⟨g, cap, cur, rfl, -⟩
  · exact ⟨none, 0, by rw [h0]⟩
  · exact ⟨_, _, rfl⟩
theorem OwnR.app {α : Type} {r : Rd α} (hr : RdCK r) {base : Nat} {T : TypeId} {lo : Nat} {S : Nat → Bool} {w w' : World} {v v' : Value} {l l2 : List α} {xs news : List Value} (h0 : ∀ g, v.ownBlock = some g → S g = false) (hrow : w.ownsRow base T r.n v l.length xs)
    (hx : ∀ j x, l[j]? = some x → r.R (hideW w (andOwn S v)) lo w.heap.size x (fun i => xs[j * r.n + i]?)) (hS : ∀ k, w.heap.size ≤ k → S k = false) (hy : ∀ j x, l2[j]? = some x → r.R (hideW w (andOwn S v)) lo w.heap.size x (fun i => news[j * r.n + i]?))
    (hown' : w'.ownsRow base T r.n v' (l.length + l2.length) (xs ++ news)) (hg : w.grownBy w' v.ownBlock) (hv : v'.ownBlock = v.ownBlock ∨ v'.ownBlock = some w.heap.size) : OwnR r base T lo S w' v' (l ++ l2) := by
  have hlt := hrow.lt
  have hck : CKc (hideW w (andOwn S v)) (hideW w' (andOwn S v')) := hideW_ck fun k h1 h2 => by
    obtain ⟨g1, g2⟩ := andOwn_no h2
    refine ⟨andOwn_of g1 ?_, hg.block k h1 (fun e => g2 e.symm)⟩
    rcases hv with e | e
    · rw [e]; exact g2
    · rw [e]; intro e2; cases e2; exact absurd h1 (Nat.lt_irrefl _)
  refine ⟨fun g hg' => ?_, xs ++ news, by rw [List.length_append]; exact hown', fun j x hj => ?_⟩
  · rcases hv with e | e
    · exact h0 g (e ▸ hg')
    · rw [e] at hg'; cases hg'; exact hS _ (Nat.le_refl _)
  · have hxl := hrow.1
    rcases Nat.lt_or_ge j l.length with hjl | hjl
    · rw [List.getElem?_append_left hjl] at hj
      refine r.more (Nat.le_refl _) hg.size (hr hck (fun i u hu => ?_) (hx j x hj))
      have := (List.getElem?_eq_some_iff.1 hu).1
      rw [List.getElem?_append_left this]
      exact hu
    · rw [List.getElem?_append_right hjl] at hj
      refine r.more (Nat.le_refl _) hg.size (hr hck (fun i u hu => ?_) (hy _ x hj))
      have e : j * r.n = l.length * r.n + (j - l.length) * r.n := by rw [← Nat.add_mul]; congr 1; omega
      rw [List.getElem?_append_right (by omega), show j * r.n + i - xs.length = (j - l.length) * r.n + i by omega]
      exact hu
theorem wp_append_run {P : Program} {w w' : World} {o : Oper} {a : Act} {K : Act → World → Prop} {Q : Exit → Act → World → Prop} (s x : Operand) (t : TypeId)
    (ho : o.op = .call { callee := .builtin .append, args := #[s, x], argTypes := #[t, t] }) {v v' sv : Value} (hs : a.eval s = v) (hx : a.eval x = sv) (hr : (Builtin.append_ #[t, t] o.type #[v, sv]).run P w = .ok v' w') (h : K (a.put o.dst v') w') : o.wp P a w K Q := by
  unfold Oper.wp
  simp only [execOp, ho, resolve, invoke, builtin, Sem.run_bind, Sem.run_pure, Result.andThen_ok, List.map_toArray, List.map_cons, List.map_nil, hs, hx, hr]
  exact h
/-- What an append to such a row comes to. -/
theorem run_appR {P : Program} {α : Type} {r : Rd α} (hr : RdCK r) {w : World} (t ty T : TypeId) (z : Value) (bytes : Nat) (ht : P.underlying t = some (.slice T)) (hi : (P.info? T).map (fun i => (i.zero, i.size, i.bytes)) = some (some z, r.n, bytes)) (hzs : z.cells.size = r.n) (hn0 : 0 < r.n)
    (base lo : Nat) (S : Nat → Bool) (v : Value) (l l2 : List α) (hown : OwnR r base T lo S w v l) (hS : ∀ k, w.heap.size ≤ k → S k = false)
    (ad : Addr) (c : Nat) (news : List Value) (hl2 : news.length = l2.length * r.n) (hnews : ∀ j u, news[j]? = some u → w.cell? (ad.add j) = some u) (h1 : ∀ u ∈ news, u.oneCell' = true)
    (hy : ∀ j x, l2[j]? = some x → r.R (hideW w (andOwn S v)) lo w.heap.size x (fun i => news[j * r.n + i]?))
    (hlen : l.length + l2.length ≤ 1000000) (hbytes : bytes ≤ 1000) (hbase : base ≤ w.heap.size) :
    ∃ ad' cc w', (Builtin.append_ #[t, t] ty #[v, .slice (some ad) l2.length c]).run P w = .ok (.slice ad' (l ++ l2).length cc) w' ∧ OwnR r base T lo S w' (.slice ad' (l ++ l2).length cc) (l ++ l2) ∧ Below base w w' ∧ ∀ k, k < w.heap.size → v.ownBlock ≠ some k → w'.heap[k]? = w.heap[k]? := by
  obtain ⟨i0, hi0, hz0, hz1, hz2⟩ := info_parts hi
  obtain ⟨h0, xs, hrow, hxs⟩ := hown
  obtain ⟨v', w', hrun, hown', hg, -, hv⟩ := run_append_own_at (P := P) w base t ty T i0 z r.n bytes ht hi0 hz0 hz1 hz2 hzs hn0 v l.length xs hrow ad l2.length c news hl2 hnews h1 (by unfold maxLen; omega) (Nat.le_trans (Nat.mul_le_mul hlen hbytes) (by omega)) hbase
  obtain ⟨ad', cc', hv'⟩ := own_form hown'
  have hB' : Below base w w' := ((Below.refl w.heap.size w).mono hbase).grown hg hbase (fun k hk => (hrow.lt k hk).1)
  have hR := OwnR.app hr h0 hrow hxs hS hy hown' hg hv
  have e : (l ++ l2).length = l.length + l2.length := List.length_append
  rw [← e] at hv'
  rw [hv'] at hR hrun
  exact ⟨ad', cc', w', hrun, hR, hB', fun k hk hne => hg.block k hk (fun e => hne e.symm)⟩
theorem wp_appR {P : Program} {α : Type} {r : Rd α} (hr : RdCK r) {w : World} {o : Oper} {a : Act} {K : Act → World → Prop} {Q : Exit → Act → World → Prop} (s x : Operand) (t : TypeId)
    (ho : o.op = .call { callee := .builtin .append, args := #[s, x], argTypes := #[t, t] }) (T : TypeId) (z : Value) (bytes : Nat) (ht : P.underlying t = some (.slice T)) (hi : (P.info? T).map (fun i => (i.zero, i.size, i.bytes)) = some (some z, r.n, bytes)) (hzs : z.cells.size = r.n) (hn0 : 0 < r.n)
    (base lo : Nat) (S : Nat → Bool) (v : Value) (l l2 : List α) (hs : a.eval s = v) (hown : OwnR r base T lo S w v l) (hS : ∀ k, w.heap.size ≤ k → S k = false)
    (ad : Addr) (c : Nat) (news : List Value) (hx : a.eval x = .slice (some ad) l2.length c) (hl2 : news.length = l2.length * r.n) (hnews : ∀ j u, news[j]? = some u → w.cell? (ad.add j) = some u) (h1 : ∀ u ∈ news, u.oneCell' = true)
    (hy : ∀ j x, l2[j]? = some x → r.R (hideW w (andOwn S v)) lo w.heap.size x (fun i => news[j * r.n + i]?))
    (hlen : l.length + l2.length ≤ 1000000) (hbytes : bytes ≤ 1000) (hbase : base ≤ w.heap.size)
    (h : ∀ ad cc w', OwnR r base T lo S w' (.slice ad (l ++ l2).length cc) (l ++ l2) → Below base w w' → (∀ k, k < w.heap.size → v.ownBlock ≠ some k → w'.heap[k]? = w.heap[k]?) → K (a.put o.dst (.slice ad (l ++ l2).length cc)) w') : o.wp P a w K Q := by
  obtain ⟨ad', cc, w', hrun, h1', h2', h3'⟩ := run_appR hr t o.type T z bytes ht hi hzs hn0 base lo S v l l2 hown hS ad c news hl2 hnews h1 hy hlen hbytes hbase
  exact wp_append_run s x t ho hs hx hrun (h _ _ _ h1' h2' h3')
theorem wpList_appR {P : Program} {α : Type} {r : Rd α} (hr : RdCK r) {w : World} {ops : Array Oper} {rest : List Oper} {o : Oper} {a : Act} {Q : Exit → Act → World → Prop} (hgd : o.guard = none) (s x : Operand) (t : TypeId)
    (ho : o.op = .call { callee := .builtin .append, args := #[s, x], argTypes := #[t, t] }) (T : TypeId) (z : Value) (bytes : Nat) (ht : P.underlying t = some (.slice T)) (hi : (P.info? T).map (fun i => (i.zero, i.size, i.bytes)) = some (some z, r.n, bytes)) (hzs : z.cells.size = r.n) (hn0 : 0 < r.n)
    (base lo : Nat) (S : Nat → Bool) (v : Value) (l l2 : List α) (hs : a.eval s = v) (hown : OwnR r base T lo S w v l) (hS : ∀ k, w.heap.size ≤ k → S k = false)
    (ad : Addr) (c : Nat) (news : List Value) (hx : a.eval x = .slice (some ad) l2.length c) (hl2 : news.length = l2.length * r.n) (hnews : ∀ j u, news[j]? = some u → w.cell? (ad.add j) = some u) (h1 : ∀ u ∈ news, u.oneCell' = true)
    (hy : ∀ j x, l2[j]? = some x → r.R (hideW w (andOwn S v)) lo w.heap.size x (fun i => news[j * r.n + i]?))
    (hlen : l.length + l2.length ≤ 1000000) (hbytes : bytes ≤ 1000) (hbase : base ≤ w.heap.size)
    (h : ∀ ad cc w', OwnR r base T lo S w' (.slice ad (l ++ l2).length cc) (l ++ l2) → Below base w w' → (∀ k, k < w.heap.size → v.ownBlock ≠ some k → w'.heap[k]? = w.heap[k]?) → wpList P ops Q rest (a.put o.dst (.slice ad (l ++ l2).length cc)) w') : wpList P ops Q (o :: rest) a w :=
  wpList_plain hgd fun _ hK => wp_appR hr s x t ho T z bytes ht hi hzs hn0 base lo S v l l2 hs hown hS ad c news hx hl2 hnews h1 hy hlen hbytes hbase fun _ _ _ g1 g2 g3 => hK _ _ (h _ _ _ g1 g2 g3)
/-- One element that was laid into a new block just so. -/
theorem news_one {w : World} (cs : Array Value) (T : TypeId) : ∀ j u, cs.toList[j]? = some u → (w.alloc (.cells cs T)).cell? ((⟨w.heap.size, 0, none⟩ : Addr).add j) = some u := by
  intro j u hu
  have e2 : (⟨w.heap.size, 0, none⟩ : Addr).add j = ⟨w.heap.size, j, none⟩ := by unfold Addr.add; split <;> simp_all
  rw [e2, cell_of_row _ w.heap.size j cs T (0, 0) (World.alloc_heap_new w _)]
  simpa using hu
end Go.Proofs.Ytcibihakjcenaaa

namespace Go.Proofs.Ytcibihakjcenaaa
open Go.RowKit

/-- The worlds that lie behind w: below w's size nothing has turned. Told by a world of any make. -/
noncomputable def aft (w W : World) : World := by
  classical exact if Below w.heap.size w W then W else w
theorem aft_below (w W : World) : Below w.heap.size w (aft w W) := by
  unfold aft
  split
  · assumption
  · exact Below.refl _ _
theorem aft_of {w W : World} (h : Below w.heap.size w W) : aft w W = W := by
  unfold aft
  rw [if_pos h]
def Cls (w : World) (w' : World) : Prop := ∃ W, w' = aft w W
attribute [go_sem] Cls
theorem Cls.of {w w' : World} (h : Below w.heap.size w w') : Cls w w' := ⟨w', (aft_of h).symm⟩
theorem Cls.below {w w' : World} (h : Cls w w') : Below w.heap.size w w' := by obtain ⟨W, rfl⟩ := h; exact aft_below w W
theorem Cls.refl (w : World) : Cls w w := Cls.of (Below.refl _ _)
theorem Cls.drew (w : World) : Cls w w.drew := Cls.of (Below.refl _ _).drew

/-- Operations that yield a value and enter nothing. -/
def calmOp (o : Oper) : Bool :=
  match o.op with
  | .move _ | .assign _ | .pick .. | .load .. | .binOp .. | .unOp .. | .convert .. | .slice .. | .fieldAddr .. | .field .. | .indexAddr .. | .index .. | .extract .. => true
  | .call { callee := .builtin .len, .. } => true
  | _ => false

section
variable {P : Program} {ops : Array Oper} {Q : Exit → Act → World → Prop} {md : Region.Mode} {S S' : World → Prop} {C : World → Prop}

theorem val_of {s : Sem Value} {w : World} {v : Value} (h : Oper.quietUpon P C w v ((do pure (Next.value (← s)) : Sem Next).run P w)) : ((do pure (Next.value (← s)) : Sem Next).run P w) = .ok (.value v) w := by
  simp only [Sem.run_bind] at h ⊢
  cases hs : s.run P w with
  | ok x w' =>
    rw [hs] at h
    simp only [Result.andThen, Sem.run_pure, Oper.quietUpon] at h ⊢
    obtain ⟨rfl, rfl⟩ := h
    rfl
  | halt x w' =>
    rw [hs] at h
    simp only [Result.andThen, Oper.quietUpon] at h

theorem calm_val {o : Oper} {a : Act} {w : World} {v : Value} (hc : calmOp o = true) (h : o.quietAt P a C w v) : (execOp a.eval o).run P w = .ok (.value v) w := by
  unfold Oper.quietAt at h
  obtain ⟨dst, op, ty, pos, aft, gd⟩ := o
  unfold calmOp at hc
  cases op with
  | move x =>
    simp only [execOp, Sem.run_pure, Oper.quietUpon] at h ⊢
    obtain ⟨_, rfl⟩ := h; rfl
  | assign x =>
    simp only [execOp, Sem.run_pure, Oper.quietUpon] at h ⊢
    obtain ⟨_, rfl⟩ := h; rfl
  | pick c x y =>
    have e : execOp a.eval { dst := dst, op := .pick c x y, type := ty, pos := pos, after := aft, guard := gd } = (do pure (Next.value (← (do pure (if ← asBool (a.eval c) then a.eval x else a.eval y) : Sem Value))) : Sem Next) := by
      simp [execOp]
    rw [e] at h ⊢
    exact val_of h
  | call c =>
    obtain ⟨callee, args, tys⟩ := c
    cases callee with
    | builtin b =>
      cases b with
      | len =>
        have e : execOp a.eval { dst := dst, op := .call { callee := .builtin .len, args := args, argTypes := tys }, type := ty, pos := pos, after := aft, guard := gd } = (do pure (Next.value (← Builtin.len_ tys ty (args.map a.eval))) : Sem Next) := by
          simp [execOp, resolve, invoke, builtin]
        rw [e] at h ⊢
        exact val_of h
      | _ => simp at hc
    | _ => simp at hc
  | load t x => exact val_of h
  | binOp op xt x y yt => exact val_of h
  | unOp op t x => exact val_of h
  | convert s d x => exact val_of h
  | slice t x lo hi mx => exact val_of h
  | fieldAddr s x f => exact val_of h
  | field xt x f => exact val_of h
  | indexAddr t x ix => exact val_of h
  | index xt x ix => exact val_of h
  | extract t ix => exact val_of h
  | _ => simp at hc

/-- A list of operations that may be taken one behind the other, first. -/
def segOk (md : Region.Mode) (ops : Array Oper) : List Nat → Array Bool → Bool
  | [], _ => true
  | i :: q, listed => (Region.ready md ops listed).contains i && Region.free md ops listed i && ((ops[i]?).map calmOp).getD false && segOk md ops q (listed.setIfInBounds i true)
def listAll : List Nat → Array Bool → Array Bool
  | [], l => l
  | i :: q, l => listAll q (l.setIfInBounds i true)
def consOp : Option Oper → List Oper → List Oper
  | some o, l => o :: l
  | none, l => l
theorem consOp_some (o : Oper) (l : List Oper) : consOp (some o) l = o :: l := rfl
def opsOf (ops : Array Oper) : List Nat → List Oper
  | [] => []
  | i :: q => consOp ops[i]? (opsOf ops q)
theorem opsOf_nil (ops : Array Oper) : opsOf ops [] = [] := rfl
theorem opsOf_cons (ops : Array Oper) (i : Nat) (q : List Nat) : opsOf ops (i :: q) = consOp ops[i]? (opsOf ops q) := rfl

theorem wpAnyH_seg (hs : Region.noSelect ops = true) (hQ : ∀ c (d : Option Tmp) (v : Value) (a : Act) w, Q (.panic c) (a.put d v) w → Q (.panic c) a w) {fuel : Nat} {w : World} (hS : S w) :
    ∀ (q : List Nat) (n : Nat) (listed : Array Bool) (a : Act), segOk md ops q listed = true → n = q.length + fuel →
      wpQuiet P ops S (fun a' => wpAnyH P md ops Q S fuel (listAll q listed) a' w) (opsOf ops q) a → wpAnyH P md ops Q S n listed a w
  | [], n, listed, a, _, hn, h => by
    subst hn
    simpa [opsOf, wpQuiet, listAll] using h
  | i :: q, n, listed, a, hok, hn, h => by
    simp only [segOk, Bool.and_eq_true] at hok
    obtain ⟨⟨⟨hr, hf⟩, hc⟩, hok'⟩ := hok
    cases hoi : ops[i]? with
    | none => simp [hoi] at hc
    | some o =>
      simp only [hoi, Option.map_some, Option.getD_some] at hc
      have hl' : opsOf ops (i :: q) = o :: opsOf ops q := by rw [opsOf_cons, hoi, consOp_some]
      rw [hl'] at h
      obtain rfl : n = (q.length + fuel) + 1 := by simp at hn; omega
      simp only [wpQuiet] at h
      split at h
      · rename_i hw
        obtain ⟨v, hv, hK⟩ := h
        exact wpAnyH_take hoi hs hf hr (fun c a w => hQ c _ _ a w) (.inl ⟨hw, fun w' hw' => calm_val hc (hv w' hw')⟩) hS (wpAnyH_seg hs hQ hS q _ _ _ hok' rfl hK)
      · rename_i hw
        exact wpAnyH_take hoi hs hf hr (fun c a w => hQ c _ _ a w) (.inr ⟨by simpa using hw, rfl⟩) hS (wpAnyH_seg hs hQ hS q _ _ _ hok' rfl h)

/-- A narrower class serves. -/
theorem wpAnyH_strong (hsub : ∀ W, S' W → S W) : ∀ (fuel : Nat) (listed : Array Bool) (a : Act) (w : World), wpAnyH P md ops Q S' fuel listed a w → wpAnyH P md ops Q S fuel listed a w
  | 0, _, _, _, h => h
  | fuel + 1, _, _, _, h => ⟨h.1, fun i hi => wpOp_mono (fun a' w' h' => ⟨hsub _ h'.1, wpAnyH_strong hsub fuel _ a' w' h'.2⟩) (h.2 i hi)⟩

/-- What is still to come behind an operation that was carried out: in a narrower class. -/
def After (P : Program) (md : Region.Mode) (ops : Array Oper) (Q : Exit → Act → World → Prop) (S : World → Prop) (fuel : Nat) (listed : Array Bool) (K : Act → World → Prop) : Prop :=
  ∀ (S' : World → Prop) a w, (∀ W, S' W → S W) → S' w → wpAnyH P md ops Q S' fuel listed a w → K a w
theorem After.out {fuel : Nat} {listed : Array Bool} {K : Act → World → Prop} (h : After P md ops Q S fuel listed K) (S' : World → Prop) {a : Act} {w : World} (hsub : ∀ W, S' W → S W) (hS : S' w) (hW : wpAnyH P md ops Q S' fuel listed a w) : K a w := h S' a w hsub hS hW

/-- Each of those that may come up now. -/
def Each (P : Program) (md : Region.Mode) (ops : Array Oper) (Q : Exit → Act → World → Prop) (S : World → Prop) (fuel : Nat) (listed : Array Bool) (a : Act) (w : World) (rs : List Nat) : Prop :=
  ∀ i ∈ rs, wpOp P ops Q i (fun a' w' => S w' ∧ wpAnyH P md ops Q S fuel (listed.setIfInBounds i true) a' w') a w
theorem Each.nil {fuel : Nat} {listed : Array Bool} {a : Act} {w : World} : Each P md ops Q S fuel listed a w [] := fun _ h => by cases h
theorem Each.cons {fuel : Nat} {listed : Array Bool} {a : Act} {w : World} {i : Nat} {rs : List Nat} (o : Oper) (ho : ops[i]? = some o)
    (h : ∀ K' : Act → World → Prop, After P md ops Q S fuel (listed.setIfInBounds i true) K' → if Region.wanted o (yielded ops a.tmps) = true then Oper.wp P o a w K' Q else K' (a.put o.dst undef) w)
    (hs : Each P md ops Q S fuel listed a w rs) : Each P md ops Q S fuel listed a w (i :: rs) := fun j hj => by
  rcases List.mem_cons.1 hj with rfl | hj
  · exact wpOp_step ho (fun K' hK => h K' (fun S' a w hsub hS hW => hK a w ⟨hsub _ hS, wpAnyH_strong hsub _ _ _ _ hW⟩))
  · exact hs j hj
theorem wpAnyH_each {n fuel : Nat} {listed : Array Bool} {a : Act} {w : World} (rs : List Nat) (hr : Region.ready md ops listed = rs) (hne : rs ≠ []) (hn : n = fuel + 1)
    (h : Each P md ops Q S fuel listed a w rs) : wpAnyH P md ops Q S n listed a w := by
  subst hn
  exact wpAnyH_all hr hne h
end
end Go.Proofs.Ytcibihakjcenaaa

namespace Go.Proofs.Ytcibihakjcenaaa
open Go.RowKit

def dstOf (ops : Array Oper) (i : Nat) : Option Tmp := (ops[i]?).bind (·.dst)
/-- The values of some operations, put where they belong. -/
def putAll (ops : Array Oper) (vs : Nat → Value) : List Nat → Act → Act
  | [], a => a
  | i :: is, a => putAll ops vs is (a.put (dstOf ops i) (vs i))
def dsOk (ops : Array Oper) : List Nat → Bool
  | [] => true
  | i :: is => (is.all fun j => dstOf ops i == none || dstOf ops j != dstOf ops i) && dsOk ops is
def updV (vs : Nat → Value) (k : Nat) (v : Value) : Nat → Value := fun i => if i = k then v else vs i

section
variable {ops : Array Oper}
theorem put_same (a : Act) (x : Option Tmp) (u v : Value) : (a.put x u).put x v = a.put x v := by
  cases x with
  | none => rfl
  | some d => simp [Act.put, Array.setIfInBounds_setIfInBounds]
def ownV (a : Act) : Option Tmp → Value
  | some d => a.tmps.getD d undef
  | none => undef
theorem put_self (a : Act) (x : Option Tmp) : a.put x (ownV a x) = a := by
  cases x with
  | none => rfl
  | some d =>
    obtain ⟨t, ds⟩ := a
    simp only [Act.put, ownV]
    congr 1
    apply Array.ext_getElem?
    intro i
    rw [Array.getElem?_setIfInBounds]
    split
    · rename_i h
      subst h
      split
      · rename_i h2; simp [h2]
      · rename_i h2; simp [h2]
    · rfl
theorem putAll_self (a : Act) : ∀ is, putAll ops (fun i => ownV a (dstOf ops i)) is a = a
  | [] => rfl
  | i :: is => by rw [putAll, put_self, putAll_self a is]
theorem putAll_comm (vs : Nat → Value) (x : Option Tmp) (v : Value) : ∀ (is : List Nat) (a : Act), (∀ j ∈ is, x = none ∨ dstOf ops j ≠ x) → (putAll ops vs is a).put x v = putAll ops vs is (a.put x v)
  | [], _, _ => rfl
  | i :: is, a, h => by
    rw [putAll, putAll, putAll_comm vs x v is _ (fun j hj => h j (List.mem_cons_of_mem _ hj))]
    congr 1
    rcases h i (List.mem_cons_self ..) with rfl | hne
    · rfl
    · exact Act.put_comm a _ _ (fun d hd hx => hne (hd.trans hx.symm))
theorem putAll_congr {vs vs' : Nat → Value} : ∀ (is : List Nat) (a : Act), (∀ j ∈ is, vs j = vs' j ∨ dstOf ops j = none) → putAll ops vs is a = putAll ops vs' is a
  | [], _, _ => rfl
  | i :: is, a, h => by
    rw [putAll, putAll, putAll_congr is _ (fun j hj => h j (List.mem_cons_of_mem _ hj))]
    rcases h i (List.mem_cons_self ..) with e | e <;> rw [e] <;> rfl
theorem putAll_put (vs : Nat → Value) (k : Nat) (v : Value) : ∀ (is : List Nat) (a : Act), dsOk ops is = true → k ∈ is → (putAll ops vs is a).put (dstOf ops k) v = putAll ops (updV vs k v) is a
  | [], _, _, hk => by cases hk
  | i :: is, a, hd, hk => by
    simp only [dsOk, Bool.and_eq_true, List.all_eq_true, Bool.or_eq_true, beq_iff_eq, bne_iff_ne, ne_eq] at hd
    obtain ⟨h1, h2⟩ := hd
    by_cases e : k = i
    · subst e
      rw [putAll, putAll_comm vs _ v is _ h1, put_same, putAll]
      have : updV vs k v k = v := by simp [updV]
      rw [this]
      refine putAll_congr is _ (fun j hj => ?_)
      by_cases ej : j = k
      · subst ej
        rcases h1 j hj with h | h
        · exact .inr h
        · exact absurd rfl h
      · left; simp [updV, ej]
    · have hk' : k ∈ is := by
        rcases List.mem_cons.1 hk with h | h
        · exact absurd h e
        · exact h
      rw [putAll, putAll_put vs k v is _ h2 hk', putAll]
      have : updV vs k v i = vs i := by simp [updV, Ne.symm e]
      rw [this]
end

/-- Are the operations told whole, and does each wait for what it is said to wait for? -/
def invOk (md : Region.Mode) (ops : Array Oper) (L : Array Bool) (is : List Nat) (deps : Nat → List Nat) : Bool :=
  ((List.range ops.size).all fun i => L.getD i true || is.contains i) &&
  is.all fun i => decide (i < L.size) && decide (i < ops.size) &&
    (((ops[i]?).map fun o => o.after.all fun e => !Region.binds md e || decide (e.on < i)).getD false) &&
    ((deps i).all fun j => is.contains j && (((ops[i]?).map fun o => o.after.any fun e => Region.binds md e && (e.on == j || (is.contains e.on && (deps e.on).contains j))).getD false))

section
variable {P : Program} {ops : Array Oper} {Q : Exit → Act → World → Prop} {md : Region.Mode} {S : World → Prop}

/-- Each operation of some: with what it waits for being good. -/
def OpsI (P : Program) (ops : Array Oper) (Q : Exit → Act → World → Prop) (S : World → Prop) (G : Nat → Value → World → Prop) (deps : Nat → List Nat) (is : List Nat) (a0 : Act) (l : List Nat) : Prop :=
  ∀ i ∈ l, ∀ o, ops[i]? = some o → ∀ (vs : Nat → Value) (W : World), S W → (∀ j ∈ deps i, G j (vs j) W) → ∀ K : Act → World → Prop,
    (∀ v W', G i v W' → Below W.heap.size W W' → K ((putAll ops vs is a0).put o.dst v) W') →
    if Region.wanted o (yielded ops (putAll ops vs is a0).tmps) = true then Oper.wp P o (putAll ops vs is a0) W K Q else K ((putAll ops vs is a0).put o.dst undef) W
theorem OpsI.nil {G : Nat → Value → World → Prop} {deps : Nat → List Nat} {is : List Nat} {a0 : Act} : OpsI P ops Q S G deps is a0 [] := fun _ h => by cases h
theorem OpsI.cons {G : Nat → Value → World → Prop} {deps : Nat → List Nat} {is : List Nat} {a0 : Act} {i : Nat} {l : List Nat} (o : Oper) (ho : ops[i]? = some o)
    (h : ∀ (vs : Nat → Value) (W : World), S W → (∀ j ∈ deps i, G j (vs j) W) → ∀ K : Act → World → Prop,
      (∀ v W', G i v W' → Below W.heap.size W W' → K ((putAll ops vs is a0).put o.dst v) W') →
      if Region.wanted o (yielded ops (putAll ops vs is a0).tmps) = true then Oper.wp P o (putAll ops vs is a0) W K Q else K ((putAll ops vs is a0).put o.dst undef) W)
    (hs : OpsI P ops Q S G deps is a0 l) : OpsI P ops Q S G deps is a0 (i :: l) := fun j hj o' ho' => by
  rcases List.mem_cons.1 hj with rfl | hj
  · rw [ho] at ho'; cases ho'; exact h
  · exact hs j hj o' ho'

theorem getD_set_self (L : Array Bool) (i : Nat) (d : Bool) (h : i < L.size) : (L.setIfInBounds i true).getD i d = true := by simp [Array.getD, h]
theorem getD_any (L : Array Bool) (i : Nat) (d e : Bool) (h : i < L.size) : L.getD i d = L.getD i e := by simp [Array.getD, h]

theorem wpAnyH_inv (is : List Nat) (deps : Nat → List Nat) (G : Nat → Value → World → Prop) (L0 : Array Bool) (a0 : Act)
    (hcl : ∀ W W', S W → Below W.heap.size W W' → S W') (hG : ∀ i v W W', G i v W → Below W.heap.size W W' → G i v W')
    (hds : dsOk ops is = true) (hchk : invOk md ops L0 is deps = true)
    (hops : OpsI P ops Q S G deps is a0 is)
    (hend : ∀ (vs : Nat → Value) (W : World), S W → (∀ i ∈ is, G i (vs i) W) → Q .normal (putAll ops vs is a0) W) :
    ∀ (fuel : Nat) (L : Array Bool) (vs : Nat → Value) (W : World), S W → L.size = L0.size → (∀ j, j ∉ is → L.getD j true = L0.getD j true) →
      (∀ i ∈ is, L.getD i true = true → G i (vs i) W ∧ ∀ j ∈ deps i, L.getD j true = true) → (is.filter fun i => !L.getD i true).length ≤ fuel →
      wpAnyH P md ops Q S fuel L (putAll ops vs is a0) W := by
  simp only [invOk, Bool.and_eq_true, List.all_eq_true, List.mem_range, Bool.or_eq_true, List.contains_iff_mem, decide_eq_true_eq] at hchk
  obtain ⟨hall, hone⟩ := hchk
  have hlist : ∀ (L : Array Bool), L.size = L0.size → (∀ j, j ∉ is → L.getD j true = L0.getD j true) → ∀ i, i ∈ Region.ready md ops L → i ∈ is ∧ L.getD i true = false := by
    intro L hsz hL i hi
    obtain ⟨h1, o, ho, _⟩ := mem_ready.1 hi
    refine ⟨?_, h1⟩
    have hlt : i < ops.size := (Array.getElem?_eq_some_iff.1 ho).1
    rcases hall i hlt with h | h
    · by_cases hm : i ∈ is
      · exact hm
      · rw [hL i hm, h] at h1; cases h1
    · exact h
  have hready : ∀ (L : Array Bool), L.size = L0.size → (∀ j, j ∉ is → L.getD j true = L0.getD j true) → Region.ready md ops L = [] → ∀ i ∈ is, L.getD i true = true := by
    intro L hsz hL hr
    have hind : ∀ i, i < ops.size → L.getD i true = true := by
      intro i
      induction i using Nat.strongRecOn with
      | _ i ih =>
        intro hlt
        cases hx : L.getD i true with
        | true => rfl
        | false =>
          exfalso
          have hm : i ∈ is := by
            rcases hall i hlt with h | h
            · by_cases hm : i ∈ is
              · exact hm
              · rw [← hL i hm, hx] at h; cases h
            · exact h
          obtain ⟨⟨⟨h1, h2⟩, h3⟩, _⟩ := hone i hm
          have hmem : i ∈ Region.ready md ops L := by
            refine mem_ready.2 ⟨hx, ops[i], by simp [hlt], fun e he hb => ?_⟩
            simp only [Array.getElem?_eq_getElem hlt, Option.map_some, Option.getD_some, Array.all_eq_true'] at h3
            have h4 := h3 e he
            simp only [hb, Bool.not_true, Bool.false_or, decide_eq_true_eq] at h4
            have h5 := ih e.on h4 (by omega)
            rw [getD_any L e.on false true (by omega)]
            exact h5
          rw [hr] at hmem
          cases hmem
    intro i hi
    exact hind i (hone i hi).1.1.2
  intro fuel
  induction fuel with
  | zero =>
    intro L vs W hS hsz hL hI hf
    have hnil : (is.filter fun i => !L.getD i true) = [] := List.eq_nil_of_length_eq_zero (by omega)
    have hdone : ∀ i ∈ is, L.getD i true = true := fun i hi => by
      cases hx : L.getD i true with
      | true => rfl
      | false =>
        have : i ∈ (is.filter fun i => !L.getD i true) := List.mem_filter.2 ⟨hi, by simp only [hx, Bool.not_false]⟩
        rw [hnil] at this
        cases this
    refine ⟨?_, hend vs W hS (fun i hi => (hI i hi (hdone i hi)).1)⟩
    cases hr : Region.ready md ops L with
    | nil => rfl
    | cons x xs =>
      obtain ⟨h1, h2⟩ := hlist L hsz hL x (by rw [hr]; exact List.mem_cons_self ..)
      rw [hdone x h1] at h2
      cases h2
  | succ fuel ih =>
    intro L vs W hS hsz hL hI hf
    refine ⟨fun hr => ?_, fun i hi => ?_⟩
    · have hdone := hready L hsz hL hr
      exact hend vs W hS (fun i hi => (hI i hi (hdone i hi)).1)
    · obtain ⟨him, hun⟩ := hlist L hsz hL i hi
      obtain ⟨_, o, ho, hbind⟩ := mem_ready.1 hi
      obtain ⟨⟨⟨hi1, hi2⟩, _⟩, hdep⟩ := hone i him
      have hdeps : ∀ j ∈ deps i, j ∈ is ∧ L.getD j true = true := by
        intro j hj
        obtain ⟨hjm, hx⟩ := hdep j hj
        refine ⟨hjm, ?_⟩
        simp only [ho, Option.map_some, Option.getD_some, Array.any_eq_true'] at hx
        obtain ⟨e, he, hx⟩ := hx
        simp only [Bool.and_eq_true, Bool.or_eq_true, beq_iff_eq, List.contains_iff_mem] at hx
        obtain ⟨hb, hx⟩ := hx
        have hl := hbind e he hb
        have hl' : L.getD e.on true = true := by
          rcases Nat.lt_or_ge e.on L.size with h | h
          · rw [getD_any L e.on true false h]; exact hl
          · simp [Array.getD, Nat.not_lt.2 h]
        rcases hx with rfl | ⟨hem, hej⟩
        · exact hl'
        · exact (hI e.on hem hl').2 j hej
      refine wpOp_step ho (fun K' hK => ?_)
      refine hops i him o ho vs W hS (fun j hj => (hI j (hdeps j hj).1 (hdeps j hj).2).1) K' (fun v W' hGv hB => ?_)
      have hd : o.dst = dstOf ops i := by simp [dstOf, ho]
      rw [hd, putAll_put vs i v is a0 hds him]
      refine hK _ _ ⟨hcl W W' hS hB, ?_⟩
      refine ih _ _ _ (hcl W W' hS hB) (by simp [hsz]) (fun j hj => ?_) (fun k hk hlk => ?_) ?_
      · have : i ≠ j := fun h => hj (h ▸ him)
        rw [getD_set_ne true this]; exact hL j hj
      · by_cases e : i = k
        · subst e
          refine ⟨by simpa [updV] using hGv, fun j hj => ?_⟩
          by_cases e2 : i = j
          · subst e2; exact getD_set_self L i true (by omega)
          · rw [getD_set_ne true e2]; exact (hdeps j hj).2
        · rw [getD_set_ne true e] at hlk
          obtain ⟨h1, h2⟩ := hI k hk hlk
          refine ⟨?_, fun j hj => ?_⟩
          · have : updV vs i v k = vs k := by simp [updV, Ne.symm e]
            rw [this]
            exact hG k _ W W' h1 hB
          · by_cases e2 : i = j
            · subst e2; exact getD_set_self L i true (by omega)
            · rw [getD_set_ne true e2]; exact h2 j hj
      · have hlt : (is.filter fun k => !(L.setIfInBounds i true).getD k true).length < (is.filter fun k => !L.getD k true).length := by
          have key : ∀ l : List Nat, (l.filter fun k => !(L.setIfInBounds i true).getD k true).length ≤ (l.filter fun k => !L.getD k true).length ∧
              (i ∈ l → (l.filter fun k => !(L.setIfInBounds i true).getD k true).length < (l.filter fun k => !L.getD k true).length) := by
            intro l
            induction l with
            | nil => exact ⟨Nat.le_refl _, fun h => by cases h⟩
            | cons x l ihl =>
              by_cases e : i = x
              · subst e
                have h1 : (!(L.setIfInBounds i true).getD i true) = false := by rw [getD_set_self L i true (by omega)]; rfl
                have h2 : (!L.getD i true) = true := by rw [hun]; rfl
                rw [List.filter_cons_of_neg (by rw [h1]; decide), List.filter_cons_of_pos (by rw [h2])]
                simp only [List.length_cons]
                exact ⟨by omega, fun _ => by omega⟩
              · have h1 : (L.setIfInBounds i true).getD x true = L.getD x true := getD_set_ne true e
                simp only [List.filter_cons, h1]
                split
                · simp only [List.length_cons]
                  exact ⟨by omega, fun hm => by
                    rcases List.mem_cons.1 hm with h | h
                    · exact absurd h e
                    · have := ihl.2 h; omega⟩
                · exact ⟨ihl.1, fun hm => by
                    rcases List.mem_cons.1 hm with h | h
                    · exact absurd h e
                    · exact ihl.2 h⟩
          exact (key is).2 him
        omega

/-- From where the walk stands. -/
theorem wpAnyH_inv0 (is : List Nat) (deps : Nat → List Nat) (G : Nat → Value → World → Prop) {L0 : Array Bool} {a0 : Act} {W0 : World} {fuel : Nat} (hS : S W0)
    (hcl : ∀ W W', S W → Below W.heap.size W W' → S W') (hG : ∀ i v W W', G i v W → Below W.heap.size W W' → G i v W')
    (hds : dsOk ops is = true) (hchk : invOk md ops L0 is deps = true) (hun : (is.all fun i => !L0.getD i true) = true) (hlen : is.length ≤ fuel)
    (hops : OpsI P ops Q S G deps is a0 is)
    (hend : ∀ (vs : Nat → Value) (W : World), S W → (∀ i ∈ is, G i (vs i) W) → Q .normal (putAll ops vs is a0) W) : wpAnyH P md ops Q S fuel L0 a0 W0 := by
  have h := wpAnyH_inv (P := P) (md := md) (Q := Q) (S := S) is deps G L0 a0 hcl hG hds hchk hops hend fuel L0 (fun i => ownV a0 (dstOf ops i)) W0 hS rfl (fun _ _ => rfl)
    (fun i hi hx => by
      have := List.all_eq_true.1 hun i hi
      rw [hx] at this
      cases this) (Nat.le_trans (List.length_filter_le _ _) hlen)
  rw [putAll_self] at h
  exact h
theorem cls_step (w : World) : ∀ W W', Cls w W → Below W.heap.size W W' → Cls w W' := fun _ _ h hb => Cls.of (below_step h.below h.below.size hb)
attribute [go_sem] putAll dstOf

/-- All but the last ones, in one forced order, only read. -/
theorem wp_region_tail {id : Nat} {Q : Exit → Act → World → Prop} {a : Act} {w : World} {l : List Oper} (n : Nat) (hm : P.follows .mixedOrders = true) (hB : Region.lexTailB .any l.toArray n = true)
    (h : wpStill P l.toArray w.drew (fun a' => wpList P l.toArray Q (l.drop n) a' w.drew) (l.take n) a) : (Code.region id l.toArray true).wp P Q a w := wp_region_still_tail n hm hB h
end
end Go.Proofs.Ytcibihakjcenaaa

namespace Go.Proofs.Ytcibihakjcenaaa
open Go.RowKit

def cmpI (x y : Int) : Int := if x < y then -1 else if y < x then 1 else 0
def orI (a b c : Int) : Int := if a = 0 then (if b = 0 then c else b) else a

theorem isNaN8 (x : Int) (w : World) : Calls Try.prog 125 #[.int .u8 x] w fun e w' => e = .returned (.bool false) ∧ w' = w := by
  go_enter Try.func125, Try.ntmps125
  go_wp2
  go_ret
  exact ⟨rfl, rfl⟩
theorem isNaN32 (x : Int) (w : World) : Calls Try.prog 126 #[.int .u32 x] w fun e w' => e = .returned (.bool false) ∧ w' = w := by
  go_enter Try.func126, Try.ntmps126
  go_wp2
  go_ret
  exact ⟨rfl, rfl⟩
theorem compare8 (x y : Int) (w : World) : Calls Try.prog 83 #[.int .u8 x, .int .u8 y] w fun e w' => e = .returned (.int .i64 (cmpI x y)) ∧ w' = w := by
  unfold cmpI
  by_cases h1 : x < y
  · rw [if_pos h1]
    go_enter Try.func83, Try.ntmps83
    go_wp2_with (go_at_call 125; refine (isNaN8 _ _).mono ?_; rintro e w' ⟨rfl, rfl⟩)
    go_ret
    exact ⟨rfl, rfl⟩
  · rw [if_neg h1]
    by_cases h2 : y < x
    · rw [if_pos h2]
      go_enter Try.func83, Try.ntmps83
      go_wp2_with (go_at_call 125; refine (isNaN8 _ _).mono ?_; rintro e w' ⟨rfl, rfl⟩)
      go_ret
      exact ⟨rfl, rfl⟩
    · rw [if_neg h2]
      go_enter Try.func83, Try.ntmps83
      go_wp2_with (go_at_call 125; refine (isNaN8 _ _).mono ?_; rintro e w' ⟨rfl, rfl⟩)
      go_ret
      exact ⟨rfl, rfl⟩
theorem compare32 (x y : Int) (w : World) : Calls Try.prog 84 #[.int .u32 x, .int .u32 y] w fun e w' => e = .returned (.int .i64 (cmpI x y)) ∧ w' = w := by
  unfold cmpI
  by_cases h1 : x < y
  · rw [if_pos h1]
    go_enter Try.func84, Try.ntmps84
    go_wp2_with (go_at_call 126; refine (isNaN32 _ _).mono ?_; rintro e w' ⟨rfl, rfl⟩)
    go_ret
    exact ⟨rfl, rfl⟩
  · rw [if_neg h1]
    by_cases h2 : y < x
    · rw [if_pos h2]
      go_enter Try.func84, Try.ntmps84
      go_wp2_with (go_at_call 126; refine (isNaN32 _ _).mono ?_; rintro e w' ⟨rfl, rfl⟩)
      go_ret
      exact ⟨rfl, rfl⟩
    · rw [if_neg h2]
      go_enter Try.func84, Try.ntmps84
      go_wp2_with (go_at_call 126; refine (isNaN32 _ _).mono ?_; rintro e w' ⟨rfl, rfl⟩)
      go_ret
      exact ⟨rfl, rfl⟩

set_option maxHeartbeats 400000 in
theorem or3 (b off : Nat) (a0 a1 a2 : Int) (w : World) (h0 : w.cell? ⟨b, off, none⟩ = some (.int .i64 a0)) (h1 : w.cell? ⟨b, off + 1, none⟩ = some (.int .i64 a1)) (h2 : w.cell? ⟨b, off + 2, none⟩ = some (.int .i64 a2)) :
    Calls Try.prog 82 #[.slice (some ⟨b, off, none⟩) 3 3] w fun e w' => e = .returned (.int .i64 (orI a0 a1 a2)) ∧ w' = w := by
  have H := Lib.hid (And.intro h0 (And.intro h1 h2))
  clear h0 h1 h2
  go_enter Try.func82, Try.ntmps82
  go_wp2
  go_loop [8] (fun i => ∃ k : Nat, k ≤ 3 ∧ i = .int .i64 k ∧ (0 < k → a0 = 0) ∧ (1 < k → a1 = 0) ∧ (2 < k → a2 = 0)) (fun i => 3 - (intOf i).toNat)
  case atStart => exact ⟨0, by omega, rfl, by omega, by omega, by omega⟩
  case round =>
    obtain ⟨k, hk, rfl, e0, e1, e2⟩ := hrel
    have hor : orI a0 a1 a2 = if k = 0 then orI a0 a1 a2 else if k = 1 then orI 0 a1 a2 else if k = 2 then orI 0 0 a2 else 0 := by
      unfold orI
      repeat' split
      all_goals omega
    have HO := Lib.hid hor
    by_cases hlt : k < 3
    · obtain ⟨x, hx, hx2, hx3⟩ : ∃ x, w.cell? ⟨b, off + k, none⟩ = some (.int .i64 x) ∧ (x = 0 → (0 < k + 1 → a0 = 0) ∧ (1 < k + 1 → a1 = 0) ∧ (2 < k + 1 → a2 = 0)) ∧ (x ≠ 0 → orI a0 a1 a2 = x) := by
        obtain ⟨h0, h1, h2⟩ := H.out
        unfold orI
        rcases (by omega : k = 0 ∨ k = 1 ∨ k = 2) with rfl | rfl | rfl
        · exact ⟨a0, h0, fun h => ⟨fun _ => h, by omega, by omega⟩, fun h => by rw [if_neg h]⟩
        · exact ⟨a1, h1, fun h => ⟨fun _ => e0 (by omega), fun _ => h, by omega⟩, fun h => by rw [if_pos (e0 (by omega)), if_neg h]⟩
        · exact ⟨a2, h2, fun h => ⟨fun _ => e0 (by omega), fun _ => e1 (by omega), fun _ => h⟩, fun h => by rw [if_pos (e0 (by omega)), if_pos (e1 (by omega))]⟩
      have HX := Lib.hid (And.intro hx2 hx3)
      clear hor HO hx2 hx3 e0 e1 e2
      by_cases hz : x = 0
      · have hz2 := HX.out.1 hz
        have HZ := Lib.hid hz2
        subst hz
        clear hz2
        go_wp2
        go_round
        case rel => exact ⟨k + 1, by omega, by go_num, HZ.out.1, HZ.out.2.1, HZ.out.2.2⟩
        case measure => simp [intOf]; omega
      · go_wp2
        go_ret
        exact ⟨by rw [HX.out.2 hz]; rfl, rfl⟩
    · obtain rfl : k = 3 := by omega
      clear hor e0 e1 e2
      go_wp2
      go_ret
      exact ⟨by rw [HO.out]; rfl, rfl⟩

def keyV (k : KeyL) : Value := .agg #[bV k.kind, wV k.id, wV k.off]
/-- Does a key stand ahead of another one? -/
def lessK (a b : KeyL) : Bool :=
  if a.kind = b.kind then (if a.id = b.id then decide (a.off.toNat < b.off.toNat) else decide (a.id.toNat < b.id.toNat)) else decide (a.kind.toNat < b.kind.toNat)
theorem cmp_eq0 (x y : Nat) : cmpI x y = 0 ↔ x = y := by unfold cmpI; split <;> (try split) <;> omega
theorem cmp_lt0 (x y : Nat) : cmpI x y < 0 ↔ x < y := by unfold cmpI; split <;> (try split) <;> omega
theorem less_or (a b : KeyL) : decide (orI (cmpI a.kind.toNat b.kind.toNat) (cmpI a.id.toNat b.id.toNat) (cmpI a.off.toNat b.off.toNat) < 0) = lessK a b := by
  unfold orI lessK
  simp only [cmp_eq0, ← UInt8.toNat_inj, ← UInt32.toNat_inj]
  split
  · split
    · simp only [cmp_lt0]
    · simp only [cmp_lt0]
  · simp only [cmp_lt0]
set_option maxHeartbeats 1000000 in
set_option maxRecDepth 100000 in
theorem less_any (a b : KeyL) (w : World) : Calls Try.prog 37 #[keyV a, keyV b] w fun e w' => e = .returned (.bool (lessK a b)) ∧ Below w.heap.size w w' := by
  have hb := less_or a b
  have Hb := Lib.hid hb
  obtain ⟨k1, i1, o1⟩ := a
  obtain ⟨k2, i2, o2⟩ := b
  simp only [keyV, bV, wV] at *
  clear hb
  go_enter Try.func37, Try.ntmps37
  go_wp2_with fail
  refine wp_region_tail 15 (by kernel_rfl) (by kernel_rfl) ?_
  simp only [List.take_succ_cons, List.take_zero, List.drop_succ_cons, List.drop_zero]
  repeat still_step
  still_call (compare8 _ _ _)
  repeat still_step
  still_call (compare32 _ _ _)
  repeat still_step
  still_call (compare32 _ _ _)
  refine wpStill_nil ?_
  have hW : Below w.heap.size w ((w.alloc (.cells #[.int .u8 (k1.toNat : Int), .int .u32 (i1.toNat : Int), .int .u32 (o1.toNat : Int)] 48)).alloc (.cells #[.int .u8 (k2.toNat : Int), .int .u32 (i2.toNat : Int), .int .u32 (o2.toNat : Int)] 48)).drew :=
    (((Below.refl _ _).alloc (Nat.le_refl _) _).alloc (by simp) _).drew
  generalize ((w.alloc (.cells #[.int .u8 (k1.toNat : Int), .int .u32 (i1.toNat : Int), .int .u32 (o1.toNat : Int)] 48)).alloc (.cells #[.int .u8 (k2.toNat : Int), .int .u32 (i2.toNat : Int), .int .u32 (o2.toNat : Int)] 48)).drew = W at *
  generalize cmpI (k1.toNat : Int) k2.toNat = c0 at *
  generalize cmpI (i1.toNat : Int) i2.toNat = c1 at *
  generalize cmpI (o1.toNat : Int) o2.toNat = c2 at *
  go_wp2_with fail
  refine (or3 W.heap.size 0 c0 c1 c2 _ (by rw [World.cell?_alloc_new]; rfl) (by rw [World.cell?_alloc_new]; rfl) (by rw [World.cell?_alloc_new]; rfl)).mono ?_
  rintro e w' ⟨rfl, rfl⟩
  go_wp2
  go_ret
  exact ⟨by rw [← Hb.out]; rfl, hW.alloc hW.size _⟩
end Go.Proofs.Ytcibihakjcenaaa

