/- NodeUnlike: the words and contracts, part 15. -/
import Derived.Test.YtfdogefoodljaaaNodeUnlikeQ1
import Derived.Test.YtfdogefoodljaaaNodeUnlikeQ2
import Derived.Test.YtfdogefoodljaaaNodeUnlikeQ3
import Derived.Test.YtfdogefoodljaaaNodeUnlikeQ4
import Derived.Test.YtfdogefoodljaaaNodeUnlikeQ5
import Derived.Test.YtfdogefoodljaaaNodeUnlikeQ6
import Derived.Test.YtfdogefoodljaaaNodeUnlikeQ7
import Derived.Test.YtfdogefoodljaaaNodeUnlikeQ8
import Derived.Test.YtfdogefoodljaaaNodeUnlikeQ10
import Derived.Test.YtfdogefoodljaaaNodeUnlikeQ11
import Derived.WalkKit
import Derived.WalkLawsBesides
import Derived.WalkSpells
import Derived.Lib.Hide
import Derived.Laws.Rows
import Derived.Laws.AppendOwnNone
import Derived.Maps.AppendAt
import Derived.RangeFuncNested
import Derived.RangeFuncBound
import Derived.RangeFuncCalls
import Derived.RangeFuncLeaves
import Derived.RangeFuncBox
import Derived.Shelf.Abstract
import Derived.Shelf.RegionOpen
import Derived.OwnWalkIn
import Derived.TacticsInMore
import Derived.LoopNIn
import Derived.LoopIn
import Derived.ProofKit
import Derived.Deep.Slices
import Derived.WideShapes
import Derived.OrdersHeld
import Derived.Deep.QuietTactic
import Derived.BigQuiet
import Derived.StillTailTactics
import Derived.OpenShut
import Derived.Lib.SliceRun
import Derived.Lib.AppendZerosOnto
import Derived.Lib.Walk
import Derived.Deep.LoopGhost
import Derived.Laws.CopyOwn
import Derived.Deep.DeepCutAuto
import Derived.Laws.CopyRow
import Derived.Laws.MakeOwn
import Derived.Deep.RegionHeld
namespace Go.Proofs.Ytfdogefoodljaaa
open Go.RowKit

/-- A disk, and where it lies. -/
structure DR (V : World) (lo hi : Nat) (b u : Value) (d : DiskL) : Prop where
  v : DiskV V lo hi b u d
  hi : hi ≤ V.heap.size
theorem DR.step {V V' : World} {lo hi : Nat} {b u : Value} {d : DiskL} (h : DR V lo hi b u d) (hst : Below V.heap.size V V') : DR V' lo hi b u d := ⟨⟨h.v.1.below hst h.hi, h.v.2.below hst h.hi⟩, Nat.le_trans h.hi hst.size⟩
theorem DR.v0 {V : World} {lo hi : Nat} {b u : Value} {d : DiskL} (h : DR V lo hi b u d) : DiskV V 0 V.heap.size b u d := h.v.more (Nat.zero_le _) h.hi
theorem DR.of {V V' : World} {b u : Value} {d : DiskL} (h : MadeD V V' b u d) : DR V' V.heap.size V'.heap.size b u d := ⟨h.disk.v, Nat.le_refl _⟩
structure BR (V : World) (lo hi : Nat) (v : Value) (l : List UInt8) : Prop where
  v : Bytes V lo hi v l
  hi : hi ≤ V.heap.size
theorem BR.step {V V' : World} {lo hi : Nat} {v : Value} {l : List UInt8} (h : BR V lo hi v l) (hst : Below V.heap.size V V') : BR V' lo hi v l := ⟨h.v.below hst h.hi, Nat.le_trans h.hi hst.size⟩
theorem BR.v0 {V : World} {lo hi : Nat} {v : Value} {l : List UInt8} (h : BR V lo hi v l) : Bytes V 0 V.heap.size v l := h.v.more (Nat.zero_le _) h.hi

end Go.Proofs.Ytfdogefoodljaaa

namespace Go.Proofs.Ytfdogefoodljaaa
open Go.RowKit

/-- The cells of some writes. -/
def wcells (bs : List (Int × Value)) : List Value := bs.flatMap fun x => [.int .i64 x.1, x.2]
theorem wcells_length (bs : List (Int × Value)) : (wcells bs).length = bs.length * 2 := by
  induction bs with
  | nil => rfl
  | cons x l ih =>
    show ([Value.int .i64 x.1, x.2] ++ wcells l).length = _
    rw [List.length_append, ih]
    simp
    omega
theorem wcells_get (bs : List (Int × Value)) (i : Nat) (x : Int × Value) (h : bs[i]? = some x) : (wcells bs)[i * 2]? = some (.int .i64 x.1) ∧ (wcells bs)[i * 2 + 1]? = some x.2 := by
  induction bs generalizing i with
  | nil => simp at h
  | cons y l ih =>
    cases i with
    | zero => simp at h; subst h; exact ⟨rfl, rfl⟩
    | succ i =>
      obtain ⟨h1, h2⟩ := ih i (by simpa using h)
      have e : wcells (y :: l) = .int .i64 y.1 :: y.2 :: wcells l := rfl
      rw [e, show (i + 1) * 2 = i * 2 + 1 + 1 by omega, show i * 2 + 1 + 1 + 1 = (i * 2 + 1) + 1 + 1 by omega, List.getElem?_cons_succ, List.getElem?_cons_succ, List.getElem?_cons_succ, List.getElem?_cons_succ]
      exact ⟨h1, h2⟩
theorem wcells_inv (bs : List (Int × Value)) (j : Nat) (u : Value) (h : (wcells bs)[j]? = some u) : ∃ i x, bs[i]? = some x ∧ ((j = i * 2 ∧ u = .int .i64 x.1) ∨ (j = i * 2 + 1 ∧ u = x.2)) := by
  have hj : j < bs.length * 2 := by rw [← wcells_length]; exact (List.getElem?_eq_some_iff.1 h).1
  have hi : j / 2 < bs.length := by omega
  refine ⟨j / 2, bs[j / 2], by simp [hi], ?_⟩
  obtain ⟨h1, h2⟩ := wcells_get bs (j / 2) bs[j / 2] (by simp [hi])
  rcases Nat.mod_two_eq_zero_or_one j with e | e
  · left
    have e2 : j = j / 2 * 2 := by omega
    rw [e2] at h
    exact ⟨e2, Option.some.inj (h.symm.trans h1)⟩
  · right
    have e2 : j = j / 2 * 2 + 1 := by omega
    rw [e2] at h
    exact ⟨e2, Option.some.inj (h.symm.trans h2)⟩

/-- Writes that may be appended: their cells are there; their bytes lie in W. -/
def SrcW (W w : World) (sv : Value) (l : List WrL) : Prop := ∃ a c, sv = .slice a l.length c ∧ (a = none → c = 0 ∧ l = []) ∧
  ∃ bs : List (Int × Value), bs.length = l.length ∧ (∀ (i : Nat) (x : WrL), l[i]? = some x → ∃ y : Value, bs[i]? = some (x.at_, y) ∧ (Lit.int .i64 x.at_).wf = true ∧ Bytes W 0 W.heap.size y x.data) ∧
    ∀ ad, a = some ad → ∀ j u, (wcells bs)[j]? = some u → w.cell? (ad.add j) = some u
theorem SrcW.of {W w : World} {sv : Value} {l : List WrL} (h : Sl rWrite W 0 W.heap.size sv l) (hB : Below W.heap.size W w) : SrcW W w sv l := by
  obtain ⟨a, c, rfl, h1, h2, h3, h4⟩ := id h
  refine ⟨a, c, rfl, fun e => ⟨h4 e, List.eq_nil_of_length_eq_zero (by have := h4 e; omega)⟩, ?_⟩
  obtain ⟨bs, hbl, hba⟩ := list_of (n := l.length) (p := fun i (x : Int × Value) => x.1 = (l.getD i ⟨0, []⟩).at_ ∧ (Lit.int .i64 x.1).wf = true ∧ Bytes W 0 W.heap.size x.2 (l.getD i ⟨0, []⟩).data ∧ ∀ ad, a = some ad → W.cell? (ad.add (i * 2)) = some (.int .i64 x.1) ∧ W.cell? (ad.add (i * 2 + 1)) = some x.2 ∧ ad.block < W.heap.size ∧ ad.spot = none) (fun i hi => by
    obtain ⟨b, off, rfl, hlo, hhi, hc⟩ := h3 (by omega)
    obtain ⟨f0, f1, v, f2, f3⟩ := hc i _ (get_l l ⟨0, []⟩ i hi)
    refine ⟨((l.getD i ⟨0, []⟩).at_, v), rfl, f1, f3, fun ad e => ?_⟩
    cases e
    have e2 : ∀ j, (⟨b, off, none⟩ : Addr).add j = ⟨b, off + j, none⟩ := fun j => by unfold Addr.add; split <;> simp_all
    rw [e2, e2]
    exact ⟨f0, f2, hhi, rfl⟩)
  refine ⟨bs, hbl, fun i x hx => ?_, fun ad e j u hj => ?_⟩
  · have hi : i < l.length := (List.getElem?_eq_some_iff.1 hx).1
    have hb : bs[i]? = some (bs[i]'(by omega)) := by simp
    obtain ⟨p1, p2, p3, -⟩ := hba i _ hb
    rw [get_l l ⟨0, []⟩ i hi] at hx
    cases hx
    refine ⟨(bs[i]'(by omega)).2, ?_, by rw [← p1]; exact p2, p3⟩
    rw [hb, ← p1]
  · obtain ⟨i, x, hx, hh⟩ := wcells_inv bs j u hj
    obtain ⟨-, -, -, p4⟩ := hba i x hx
    obtain ⟨q1, q2, q3, q4⟩ := p4 ad e
    have hk : ∀ k, w.cell? (ad.add k) = W.cell? (ad.add k) := fun k => by
      obtain ⟨bb, oo, ss⟩ := ad
      simp only at q3 q4
      subst q4
      have e2 : (⟨bb, oo, none⟩ : Addr).add k = ⟨bb, oo + k, none⟩ := by unfold Addr.add; split <;> simp_all
      rw [e2]
      exact hB.cell (p := ⟨bb, oo + k, none⟩) q3
    rcases hh with ⟨rfl, rfl⟩ | ⟨rfl, rfl⟩
    · rw [hk]; exact q1
    · rw [hk]; exact q2
theorem OwnW.same {base : Nat} {W w w' : World} {v : Value} {l : List WrL} (h : OwnW base W w v l) (hs : ∀ k, base ≤ k → ∀ o, w.heap[k]? = some o → w'.heap[k]? = some o) : OwnW base W w' v l := by
  obtain ⟨xs, ⟨hl, hrow⟩, hx⟩ := h
  refine ⟨xs, ⟨hl, ?_⟩, hx⟩
  rcases hrow with h | ⟨g, cap, cur, e, hg, hh, h1, h2, h3, h4⟩
  · exact .inl h
  · exact .inr ⟨g, cap, cur, e, hg, hs g hg _ hh, h1, h2, h3, h4⟩
theorem OwnW.alloc {base : Nat} {W w : World} {v : Value} {l : List WrL} (h : OwnW base W w v l) (o : Obj) : OwnW base W (w.alloc o) v l :=
  h.same fun k _ _ hx => (Below.heap_alloc w o k (Array.getElem?_eq_some_iff.1 hx).1).trans hx

/-- What a call answered: a disk; nothing that was there has turned. -/
structure GotD (w w' : World) (b u : Value) (d : DiskL) : Prop where
  disk : DiskV w' 0 w'.heap.size b u d
  below : Below w.heap.size w w'
/-- A disk whose data lies below hi, or in what was made from w on. -/
structure GotK (hi : Nat) (w w' : World) (b u : Value) (d : DiskL) : Prop where
  disk : ∀ W : World, w'.heap.size ≤ W.heap.size → (∀ k, k < hi ∨ w.heap.size ≤ k → k < w'.heap.size → W.heap[k]? = w'.heap[k]?) → DiskV W 0 W.heap.size b u d
  below : Below w.heap.size w w'
end Go.Proofs.Ytfdogefoodljaaa

namespace Go.Proofs.Ytfdogefoodljaaa
open Go.RowKit

theorem GotD.nil_ {w w' : World} (h : Below w.heap.size w w') : GotD w w' (.slice none 0 0) (.slice none 0 0) ⟨[], []⟩ := ⟨DiskV.nil_ _ _ _, h⟩

theorem GotK.nil_ {hi : Nat} {w w' : World} (h : Below w.heap.size w w') : GotK hi w w' (.slice none 0 0) (.slice none 0 0) ⟨[], []⟩ := ⟨fun _ _ _ => ⟨Sl.nil_ _ _ _, Sl.nil_ _ _ _⟩, h⟩
end Go.Proofs.Ytfdogefoodljaaa

namespace Go.Proofs.Ytfdogefoodljaaa
open Go.RowKit

/-- The blocks of a call's own variables. -/
def boxS (lo n : Nat) (k : Nat) : Bool := decide (lo ≤ k) && decide (k < lo + n)
theorem boxS_no {lo n k : Nat} (h : lo + n ≤ k) : boxS lo n k = false := by unfold boxS; simp; omega
theorem boxS_yes {lo n k : Nat} (h1 : lo ≤ k) (h2 : k < lo + n) : boxS lo n k = true := by unfold boxS; simp; omega
end Go.Proofs.Ytfdogefoodljaaa

