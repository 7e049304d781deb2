/- DropDoes: the words and contracts, part 6. -/
import Derived.Test.YtkfgegdnpinbdaaDropDoesQ1
import Derived.Test.YtkfgegdnpinbdaaDropDoesQ2
import Derived.Test.YtkfgegdnpinbdaaDropDoesQ3
import Derived.Test.YtkfgegdnpinbdaaDropDoesQ4
import Derived.Test.YtkfgegdnpinbdaaDropDoesQ5
import Derived.WalkKit
import Derived.WalkLawsBesides
import Derived.WalkSpells
import Derived.Lib.Hide
import Derived.Laws.Rows
import Derived.Laws.AppendOwnNone
import Derived.Maps.AppendAt
import Derived.RangeFuncNested
import Derived.RangeFuncBound
import Derived.RangeFuncCalls
import Derived.RangeFuncLeaves
import Derived.RangeFuncBox
import Derived.Shelf.Abstract
import Derived.Shelf.RegionOpen
import Derived.OwnWalkIn
import Derived.TacticsInMore
import Derived.LoopNIn
import Derived.LoopIn
import Derived.ProofKit
import Derived.Deep.Slices
import Derived.WideShapes
import Derived.OrdersHeld
import Derived.Deep.QuietTactic
import Derived.BigQuiet
import Derived.StillTailTactics
import Derived.OpenShut
import Derived.Lib.SliceRun
import Derived.Lib.AppendZerosOnto
import Derived.Lib.Walk
import Derived.Deep.LoopGhost
import Derived.Laws.CopyOwn
import Derived.Deep.DeepCutAuto
import Derived.Laws.CopyRow
import Derived.Laws.MakeOwn
import Derived.Deep.RegionHeld
namespace Go.Proofs.Ytkfgegdnpinbdaa
open Go.RowKit

/-- The cells of some writes. -/
def wcells (bs : List (Int × Value)) : List Value := bs.flatMap fun x => [.int .i64 x.1, x.2]
theorem wcells_length (bs : List (Int × Value)) : (wcells bs).length = bs.length * 2 := by
  induction bs with
  | nil => rfl
  | cons x l ih =>
    show ([Value.int .i64 x.1, x.2] ++ wcells l).length = _
    rw [List.length_append, ih]
    simp
    omega
theorem wcells_get (bs : List (Int × Value)) (i : Nat) (x : Int × Value) (h : bs[i]? = some x) : (wcells bs)[i * 2]? = some (.int .i64 x.1) ∧ (wcells bs)[i * 2 + 1]? = some x.2 := by
  induction bs generalizing i with
  | nil => simp at h
  | cons y l ih =>
    cases i with
    | zero => simp at h; subst h; exact ⟨rfl, rfl⟩
    | succ i =>
      obtain ⟨h1, h2⟩ := ih i (by simpa using h)
      have e : wcells (y :: l) = .int .i64 y.1 :: y.2 :: wcells l := rfl
      rw [e, show (i + 1) * 2 = i * 2 + 1 + 1 by omega, show i * 2 + 1 + 1 + 1 = (i * 2 + 1) + 1 + 1 by omega, List.getElem?_cons_succ, List.getElem?_cons_succ, List.getElem?_cons_succ, List.getElem?_cons_succ]
      exact ⟨h1, h2⟩
theorem wcells_inv (bs : List (Int × Value)) (j : Nat) (u : Value) (h : (wcells bs)[j]? = some u) : ∃ i x, bs[i]? = some x ∧ ((j = i * 2 ∧ u = .int .i64 x.1) ∨ (j = i * 2 + 1 ∧ u = x.2)) := by
  have hj : j < bs.length * 2 := by rw [← wcells_length]; exact (List.getElem?_eq_some_iff.1 h).1
  have hi : j / 2 < bs.length := by omega
  refine ⟨j / 2, bs[j / 2], by simp [hi], ?_⟩
  obtain ⟨h1, h2⟩ := wcells_get bs (j / 2) bs[j / 2] (by simp [hi])
  rcases Nat.mod_two_eq_zero_or_one j with e | e
  · left
    have e2 : j = j / 2 * 2 := by omega
    rw [e2] at h
    exact ⟨e2, Option.some.inj (h.symm.trans h1)⟩
  · right
    have e2 : j = j / 2 * 2 + 1 := by omega
    rw [e2] at h
    exact ⟨e2, Option.some.inj (h.symm.trans h2)⟩

/-- Writes that may be appended: their cells are there; their bytes lie in W. -/
def SrcW (W w : World) (sv : Value) (l : List WrL) : Prop := ∃ a c, sv = .slice a l.length c ∧ (a = none → c = 0 ∧ l = []) ∧
  ∃ bs : List (Int × Value), bs.length = l.length ∧ (∀ (i : Nat) (x : WrL), l[i]? = some x → ∃ y : Value, bs[i]? = some (x.at_, y) ∧ (Lit.int .i64 x.at_).wf = true ∧ Bytes W 0 W.heap.size y x.data) ∧
    ∀ ad, a = some ad → ∀ j u, (wcells bs)[j]? = some u → w.cell? (ad.add j) = some u
theorem SrcW.of {W w : World} {sv : Value} {l : List WrL} (h : Sl rWrite W 0 W.heap.size sv l) (hB : Below W.heap.size W w) : SrcW W w sv l := by
  obtain ⟨a, c, rfl, h1, h2, h3, h4⟩ := id h
  refine ⟨a, c, rfl, fun e => ⟨h4 e, List.eq_nil_of_length_eq_zero (by have := h4 e; omega)⟩, ?_⟩
  obtain ⟨bs, hbl, hba⟩ := list_of (n := l.length) (p := fun i (x : Int × Value) => x.1 = (l.getD i ⟨0, []⟩).at_ ∧ (Lit.int .i64 x.1).wf = true ∧ Bytes W 0 W.heap.size x.2 (l.getD i ⟨0, []⟩).data ∧ ∀ ad, a = some ad → W.cell? (ad.add (i * 2)) = some (.int .i64 x.1) ∧ W.cell? (ad.add (i * 2 + 1)) = some x.2 ∧ ad.block < W.heap.size ∧ ad.spot = none) (fun i hi => by
    obtain ⟨b, off, rfl, hlo, hhi, hc⟩ := h3 (by omega)
    obtain ⟨f0, f1, v, f2, f3⟩ := hc i _ (get_l l ⟨0, []⟩ i hi)
    refine ⟨((l.getD i ⟨0, []⟩).at_, v), rfl, f1, f3, fun ad e => ?_⟩
    cases e
    have e2 : ∀ j, (⟨b, off, none⟩ : Addr).add j = ⟨b, off + j, none⟩ := fun j => by unfold Addr.add; split <;> simp_all
    rw [e2, e2]
    exact ⟨f0, f2, hhi, rfl⟩)
  refine ⟨bs, hbl, fun i x hx => ?_, fun ad e j u hj => ?_⟩
  · have hi : i < l.length := (List.getElem?_eq_some_iff.1 hx).1
    have hb : bs[i]? = some (bs[i]'(by omega)) := by simp
    obtain ⟨p1, p2, p3, -⟩ := hba i _ hb
    rw [get_l l ⟨0, []⟩ i hi] at hx
    cases hx
    refine ⟨(bs[i]'(by omega)).2, ?_, by rw [← p1]; exact p2, p3⟩
    rw [hb, ← p1]
  · obtain ⟨i, x, hx, hh⟩ := wcells_inv bs j u hj
    obtain ⟨-, -, -, p4⟩ := hba i x hx
    obtain ⟨q1, q2, q3, q4⟩ := p4 ad e
    have hk : ∀ k, w.cell? (ad.add k) = W.cell? (ad.add k) := fun k => by
      obtain ⟨bb, oo, ss⟩ := ad
      simp only at q3 q4
      subst q4
      have e2 : (⟨bb, oo, none⟩ : Addr).add k = ⟨bb, oo + k, none⟩ := by unfold Addr.add; split <;> simp_all
      rw [e2]
      exact hB.cell (p := ⟨bb, oo + k, none⟩) q3
    rcases hh with ⟨rfl, rfl⟩ | ⟨rfl, rfl⟩
    · rw [hk]; exact q1
    · rw [hk]; exact q2
theorem SrcW.one {W w : World} {p : Int} {y : Value} {l : List UInt8} (hp : (Lit.int .i64 p).wf = true) (hy : Bytes W 0 W.heap.size y l) : SrcW W (w.alloc (.cells #[.int .i64 p, y] 92)) (.slice (some ⟨w.heap.size, 0, none⟩) 1 1) [⟨p, l⟩] := by
  refine ⟨_, _, rfl, fun h => (by cases h), [(p, y)], rfl, fun i x hx => ?_, fun ad e j u hj => ?_⟩
  · cases i with
    | zero => cases hx; exact ⟨y, rfl, hp, hy⟩
    | succ i => simp at hx
  · cases e
    have hn := World.alloc_heap_new w (.cells #[.int .i64 p, y] 92)
    rcases j with _ | _ | j'
    · cases hj; exact blk_cell hn 0
    · cases hj; exact blk_cell hn 1
    · simp [wcells] at hj

theorem wpList_appW {w : World} {ops : Array Oper} {rest : List Oper} {o : Oper} {a : Act} {Q : Exit → Act → World → Prop} (hgd : o.guard = none) (s x : Operand)
    (ho : o.op = .call { callee := .builtin .append, args := #[s, x], argTypes := #[23, 23] }) (base : Nat) (W : World) (v sv : Value) (l l2 : List WrL) (hs : a.eval s = v) (hx : a.eval x = sv)
    (hown : OwnW base W w v l) (hsrc : SrcW W w sv l2) (hlen : l.length + l2.length ≤ 100000) (hbase : base ≤ w.heap.size)
    (h : ∀ ad cc w', OwnW base W w' (.slice ad (l ++ l2).length cc) (l ++ l2) → Below base w w' → wpList Try.prog ops Q rest (a.put o.dst (.slice ad (l ++ l2).length cc)) w') : wpList Try.prog ops Q (o :: rest) a w := by
  obtain ⟨i0, hi0, hz0, hz1, hz2⟩ := info_parts (P := Try.prog) (e := 92) (z := .agg #[.int .i64 0, .slice none 0 0]) (size := 2) (bytes := 32) (by kernel_rfl)
  obtain ⟨xs, hrow, hxs⟩ := hown
  obtain ⟨ad, c, rfl, hn, bs, hbl, hba, hcl⟩ := hsrc
  have hform : ∀ {v : Value} {n : Nat} {ys : List Value} {w : World}, w.ownsRow base 92 2 v n ys → ∃ ad cc, v = .slice ad n cc := fun h => by
    rcases h.2 with ⟨rfl, h0⟩ | ⟨g, cap, cur, rfl, -⟩
    · exact ⟨none, 0, by rw [h0]⟩
    · exact ⟨_, _, rfl⟩
  rcases ad with _ | ad
  · obtain ⟨rfl, rfl⟩ := hn rfl
    obtain ⟨ad, cc, rfl⟩ := hform hrow
    refine wpList_append_own_none hgd s x 23 ho base 92 i0 2 Try.underlying23 hi0 _ _ _ hs hrow hx ?_
    have := h ad cc w (by rw [List.append_nil]; exact ⟨xs, hrow, hxs⟩) ((Below.refl _ w).mono hbase)
    rw [List.append_nil] at this
    exact this
  · have hone : ∀ u ∈ wcells bs, u.oneCell' = true := by
      intro u hu
      obtain ⟨j, hj⟩ := List.mem_iff_getElem?.1 hu
      obtain ⟨i, x, hxx, hh⟩ := wcells_inv bs j u hj
      have hi : i < l2.length := by rw [← hbl]; exact (List.getElem?_eq_some_iff.1 hxx).1
      obtain ⟨y, hy1, hy2, hy3⟩ := hba i _ (get_l l2 ⟨0, []⟩ i hi)
      rw [hy1] at hxx
      cases hxx
      rcases hh with ⟨-, rfl⟩ | ⟨-, rfl⟩
      · rfl
      · obtain ⟨a2, c2, rfl, -⟩ := hy3; rfl
    refine wpList_append_own w hgd s x 23 ho base 92 i0 _ 2 32 Try.underlying23 hi0 hz0 hz1 hz2 rfl (by decide) v l.length xs hs hrow ad l2.length c (wcells bs) hx (by rw [wcells_length, hbl]) (hcl ad rfl) hone (by unfold maxLen; omega) (by omega) hbase ?_
    intro v' w' hown' hg' _
    obtain ⟨ad', cc', rfl⟩ := hform hown'
    have hB' : Below base w w' := ((Below.refl w.heap.size w).mono hbase).grown hg' hbase (own_block hrow)
    have := h ad' cc' w' ⟨xs ++ wcells bs, by rw [List.length_append]; exact hown', fun j y hj => ?_⟩ hB'
    · rw [List.length_append] at this
      exact this
    · have hxl := hrow.1
      rcases Nat.lt_or_ge j l.length with hjl | hjl
      · rw [List.getElem?_append_left hjl] at hj
        obtain ⟨⟨p1, p2⟩, z, p3, p4⟩ := hxs j y hj
        exact ⟨⟨by rw [List.getElem?_append_left (by omega)]; exact p1, p2⟩, z, by rw [List.getElem?_append_left (by omega)]; exact p3, p4⟩
      · rw [List.getElem?_append_right hjl] at hj
        obtain ⟨z, p1, p2, p3⟩ := hba _ y hj
        obtain ⟨q1, q2⟩ := wcells_get bs _ _ p1
        refine ⟨⟨?_, p2⟩, z, ?_, p3⟩
        · rw [List.getElem?_append_right (by omega), hxl, show j * 2 - l.length * 2 = (j - l.length) * 2 by omega]; exact q1
        · rw [List.getElem?_append_right (by omega), hxl, show j * 2 + 1 - l.length * 2 = (j - l.length) * 2 + 1 by omega]; exact q2

theorem OwnW.same {base : Nat} {W w w' : World} {v : Value} {l : List WrL} (h : OwnW base W w v l) (hs : ∀ k, base ≤ k → ∀ o, w.heap[k]? = some o → w'.heap[k]? = some o) : OwnW base W w' v l := by
  obtain ⟨xs, ⟨hl, hrow⟩, hx⟩ := h
  refine ⟨xs, ⟨hl, ?_⟩, hx⟩
  rcases hrow with h | ⟨g, cap, cur, e, hg, hh, h1, h2, h3, h4⟩
  · exact .inl h
  · exact .inr ⟨g, cap, cur, e, hg, hs g hg _ hh, h1, h2, h3, h4⟩
theorem OwnW.set {base : Nat} {W w : World} {v : Value} {l : List WrL} (h : OwnW base W w v l) (r o : Nat) (u : Value) (hr : r < base) : OwnW base W (w.setCell ⟨r, o, none⟩ u) v l :=
  h.same fun k hk _ hx => (set_other w r o u k (by omega)).trans hx
theorem OwnW.alloc {base : Nat} {W w : World} {v : Value} {l : List WrL} (h : OwnW base W w v l) (o : Obj) : OwnW base W (w.alloc o) v l :=
  h.same fun k _ _ hx => (Below.heap_alloc w o k (Array.getElem?_eq_some_iff.1 hx).1).trans hx

/-- What a call answered: a disk; nothing that was there has turned. -/
structure GotD (w w' : World) (b u : Value) (d : DiskL) : Prop where
  disk : DiskV w' 0 w'.heap.size b u d
  below : Below w.heap.size w w'
/-- A disk whose data lies below hi, or in what was made from w on. -/
structure GotK (hi : Nat) (w w' : World) (b u : Value) (d : DiskL) : Prop where
  disk : ∀ W : World, w'.heap.size ≤ W.heap.size → (∀ k, k < hi ∨ w.heap.size ≤ k → k < w'.heap.size → W.heap[k]? = w'.heap[k]?) → DiskV W 0 W.heap.size b u d
  below : Below w.heap.size w w'
theorem GotK.got {hi : Nat} {w w' : World} {b u : Value} {d : DiskL} (h : GotK hi w w' b u d) : GotD w w' b u d := ⟨h.disk w' (Nat.le_refl _) (fun _ _ _ => rfl), h.below⟩

end Go.Proofs.Ytkfgegdnpinbdaa

namespace Go.Proofs.Ytkfgegdnpinbdaa
open Go.RowKit

theorem GotD.nil_ {w w' : World} (h : Below w.heap.size w w') : GotD w w' (.slice none 0 0) (.slice none 0 0) ⟨[], []⟩ := ⟨DiskV.nil_ _ _ _, h⟩

theorem GotK.nil_ {hi : Nat} {w w' : World} (h : Below w.heap.size w w') : GotK hi w w' (.slice none 0 0) (.slice none 0 0) ⟨[], []⟩ := ⟨fun _ _ _ => ⟨Sl.nil_ _ _ _, Sl.nil_ _ _ _⟩, h⟩
end Go.Proofs.Ytkfgegdnpinbdaa

namespace Go.Proofs.Ytkfgegdnpinbdaa
open Go.RowKit

theorem SrcW.to {W W2 w : World} {sv : Value} {l : List WrL} (h : SrcW W w sv l) (hk : ∀ v x, Bytes W 0 W.heap.size v x → Bytes W2 0 W2.heap.size v x) : SrcW W2 w sv l := by
  obtain ⟨a, c, e, hn, bs, hbl, hba, hcl⟩ := h
  exact ⟨a, c, e, hn, bs, hbl, fun i x hx => by obtain ⟨y, p1, p2, p3⟩ := hba i x hx; exact ⟨y, p1, p2, hk _ _ p3⟩, hcl⟩

end Go.Proofs.Ytkfgegdnpinbdaa

namespace Go.Proofs.Ytkfgegdnpinbdaa
open Go.RowKit

/-- What is in cells stays. -/
def CKc (w w' : World) : Prop := ∀ a v, w.cell? a = some v → w'.cell? a = some v ∧ w'.frozen? a = w.frozen? a
theorem CKc.refl (w : World) : CKc w w := fun _ _ h => ⟨h, rfl⟩
theorem CKc.trans {a b c : World} (h : CKc a b) (k : CKc b c) : CKc a c := fun p v e => ⟨(k p v (h p v e).1).1, ((k p v (h p v e).1).2).trans (h p v e).2⟩
theorem Bytes.ck {w w' : World} (h : CKc w w') {lo hi : Nat} {v : Value} {l : List UInt8} (hb : Bytes w lo hi v l) : Bytes w' lo hi v l := by
  obtain ⟨a, c, e, h1, h2, h3, h4⟩ := hb
  refine ⟨a, c, e, h1, h2, fun hp => ?_, h4⟩
  obtain ⟨b, off, ea, hlo, hhi, hc⟩ := h3 hp
  exact ⟨b, off, ea, hlo, hhi, fun i x hx => (h _ _ (hc i x hx)).1⟩
theorem thawed_ck {w w' : World} (h : CKc w w') {lo hi : Nat} {v : Value} {l : List UInt8} (hb : Bytes w lo hi v l) (ht : Thawed w v) : Thawed w' v := by
  intro b off n c e i hi
  obtain ⟨a, c', e', h1, h2, h3, h4⟩ := hb
  subst e
  cases e'
  obtain ⟨b', off', ea, _, hhi, hc⟩ := h3 (by omega)
  cases ea
  have hil : l[i]? = some (l[i]'hi) := by simp [hi]
  rw [(h _ _ (hc i _ hil)).2]
  exact ht _ _ _ _ rfl i hi
def RdCK {α : Type} (r : Rd α) : Prop := ∀ {w w' : World} {lo hi : Nat} {x : α} {f g : Nat → Option Value}, CKc w w' → (∀ j v, f j = some v → g j = some v) → r.R w lo hi x f → r.R w' lo hi x g
theorem rInt_ck (k : IntKind) : RdCK (rInt k) := fun _ hg h => ⟨hg _ _ h.1, h.2⟩
theorem rBytes_ck : RdCK rBytes := fun hc hg h => by obtain ⟨v, h1, h2⟩ := h; exact ⟨v, hg _ _ h1, h2.ck hc⟩
theorem rBytesT_ck : RdCK rBytesT := fun hc hg h => by obtain ⟨v, h1, h2, h3⟩ := h; exact ⟨v, hg _ _ h1, h2.ck hc, thawed_ck hc h2 h3⟩
theorem rWrite_ck : RdCK rWrite := fun hc hg h => by obtain ⟨g0, g1, v, h1, h2⟩ := h; exact ⟨hg _ _ g0, g1, v, hg _ _ h1, h2.ck hc⟩
theorem rWriteT_ck : RdCK rWriteT := fun hc hg h => by obtain ⟨g0, g1, v, h1, h2, h3⟩ := h; exact ⟨hg _ _ g0, g1, v, hg _ _ h1, h2.ck hc, thawed_ck hc h2 h3⟩
theorem Sl.ck {α : Type} {r : Rd α} (hr : RdCK r) {w w' : World} {lo hi : Nat} {v : Value} {l : List α} (h : Sl r w lo hi v l) (hc : CKc w w') : Sl r w' lo hi v l := by
  obtain ⟨a, c, e, h1, h2, h3, h4⟩ := h
  refine ⟨a, c, e, h1, h2, fun hp => ?_, h4⟩
  obtain ⟨b, off, ea, hlo, hhi, hx⟩ := h3 hp
  exact ⟨b, off, ea, hlo, hhi, fun i x hxi => hr hc (fun j v hv => (hc _ _ hv).1) (hx i x hxi)⟩
/-- The world without some blocks. -/
def hideW (w : World) (S : Nat → Bool) : World := { w with heap := w.heap.mapIdx fun i o => if S i then .cells #[] 0 (0, 0) else o }
theorem hideW_get (w : World) (S : Nat → Bool) (k : Nat) (h : S k = false) : (hideW w S).heap[k]? = w.heap[k]? := by
  unfold hideW
  simp only [Array.getElem?_mapIdx]
  cases w.heap[k]? with
  | none => rfl
  | some o => simp [h]
theorem hideW_cell (w : World) (S : Nat → Bool) (a : Addr) (h : S a.block = false) : (hideW w S).cell? a = w.cell? a := World.cell?_of_block (hideW_get w S _ h)
theorem hideW_frozen (w : World) (S : Nat → Bool) (a : Addr) (h : S a.block = false) : (hideW w S).frozen? a = w.frozen? a := World.frozen?_of_block (hideW_get w S _ h)
theorem hideW_no (w : World) (S : Nat → Bool) (a : Addr) (h : S a.block = true) : (hideW w S).cell? a = none := by
  unfold World.cell? hideW
  simp only [Array.getElem?_mapIdx]
  cases w.heap[a.block]? with
  | none => rfl
  | some o => simp [h]
theorem hideW_ck {w w' : World} {S S' : Nat → Bool} (h : ∀ k, k < w.heap.size → S k = false → S' k = false ∧ w'.heap[k]? = w.heap[k]?) : CKc (hideW w S) (hideW w' S') := by
  intro a v hv
  have hS : S a.block = false := by
    cases e : S a.block with
    | false => rfl
    | true => rw [hideW_no w S a e] at hv; cases hv
  rw [hideW_cell w S a hS] at hv
  obtain ⟨h1, h2⟩ := h a.block (cell_lt' hv) hS
  rw [hideW_cell w' S' a h1, hideW_frozen w' S' a h1, hideW_frozen w S a hS, World.cell?_of_block h2, World.frozen?_of_block h2]
  exact ⟨hv, rfl⟩
theorem hideW_out (w : World) (S : Nat → Bool) : CKc (hideW w S) w := by
  intro a v hv
  have hS : S a.block = false := by
    cases e : S a.block with
    | false => rfl
    | true => rw [hideW_no w S a e] at hv; cases hv
  rw [hideW_cell w S a hS] at hv
  exact ⟨hv, (hideW_frozen w S a hS).symm⟩
/-- What lies in blocks that are not hidden. -/
theorem hideW_kp {w0 w : World} {lo hi : Nat} {S : Nat → Bool} (h : ∀ k, lo ≤ k → k < hi → S k = false ∧ w.heap[k]? = w0.heap[k]?) : Kp lo hi w0 (hideW w S) := fun b o h1 h2 => by
  obtain ⟨g1, g2⟩ := h b h1 h2
  exact ⟨(hideW_cell w S _ g1).trans (World.cell?_of_block g2), (hideW_frozen w S _ g1).trans (World.frozen?_of_block g2)⟩

/-- Blocks S, and the row's own. -/
def andOwn (S : Nat → Bool) (v : Value) (k : Nat) : Bool := S k || decide (v.ownBlock = some k)
theorem andOwn_no {S : Nat → Bool} {v : Value} {k : Nat} (h : andOwn S v k = false) : S k = false ∧ v.ownBlock ≠ some k := by
  unfold andOwn at h
  simpa using h
theorem andOwn_of {S : Nat → Bool} {v : Value} {k : Nat} (h1 : S k = false) (h2 : v.ownBlock ≠ some k) : andOwn S v k = false := by
  unfold andOwn
  simp [h1, h2]

/-- A row of the call's own that holds l: what its elements point to lies neither in the row nor in the blocks S. -/
def OwnR {α : Type} (r : Rd α) (base : Nat) (T : TypeId) (lo : Nat) (S : Nat → Bool) (w : World) (v : Value) (l : List α) : Prop :=
  (∀ g, v.ownBlock = some g → S g = false) ∧ ∃ xs, w.ownsRow base T r.n v l.length xs ∧ ∀ j x, l[j]? = some x → r.R (hideW w (andOwn S v)) lo w.heap.size x (fun i => xs[j * r.n + i]?)
theorem OwnR.nil_ {α : Type} (r : Rd α) (base : Nat) (T : TypeId) (lo : Nat) (S : Nat → Bool) (w : World) : OwnR r base T lo S w (.slice none 0 0) ([] : List α) :=
  ⟨fun g h => (by cases h), [], World.ownsRow_nil _ _ _ _, fun j x h => (by simp at h)⟩
theorem OwnR.lt {α : Type} {r : Rd α} {base : Nat} {T : TypeId} {lo : Nat} {S : Nat → Bool} {w : World} {v : Value} {l : List α} (h : OwnR r base T lo S w v l) : ∀ k, v.ownBlock = some k → base ≤ k ∧ k < w.heap.size := by
  obtain ⟨-, xs, h1, -⟩ := h
  exact h1.lt
theorem OwnR.form {α : Type} {r : Rd α} {base : Nat} {T : TypeId} {lo : Nat} {S : Nat → Bool} {w : World} {v : Value} {l : List α} (h : OwnR r base T lo S w v l) : ∃ ad c, v = .slice ad l.length c ∧ c ≤ maxLen := by
  obtain ⟨-, xs, h1, -⟩ := h
  rcases h1.2 with ⟨rfl, h0⟩ | ⟨g, cap, cur, rfl, -, -, -, h2, -⟩
  · exact ⟨none, 0, by rw [h0], Nat.zero_le _⟩
  · exact ⟨_, _, rfl, h2⟩
theorem OwnR.to {α : Type} {r : Rd α} (hr : RdCK r) {base : Nat} {T : TypeId} {lo : Nat} {S : Nat → Bool} {w w' : World} {v : Value} {l : List α} (h : OwnR r base T lo S w v l)
    (hs : w.heap.size ≤ w'.heap.size) (hk : ∀ k, k < w.heap.size → S k = false → w'.heap[k]? = w.heap[k]?) : OwnR r base T lo S w' v l := by
  have hlt := h.lt
  obtain ⟨h0, xs, ⟨hl, hrow⟩, hx⟩ := h
  refine ⟨h0, xs, ⟨hl, ?_⟩, fun j x hj => r.more (Nat.le_refl _) hs (hr (hideW_ck fun k h1 h2 => ⟨h2, hk k h1 (andOwn_no h2).1⟩) (fun _ _ e => e) (hx j x hj))⟩
  rcases hrow with h | ⟨g, cap, cur, rfl, hg, hh, rest⟩
  · exact .inl h
  · exact .inr ⟨g, cap, cur, rfl, hg, (hk g (hlt g rfl).2 (h0 g rfl)).trans hh, rest⟩
theorem OwnR.step {α : Type} {r : Rd α} (hr : RdCK r) {base : Nat} {T : TypeId} {lo : Nat} {S : Nat → Bool} {w w' : World} {v : Value} {l : List α} (h : OwnR r base T lo S w v l) (hB : Below w.heap.size w w') : OwnR r base T lo S w' v l :=
  h.to hr hB.size fun k hk _ => hB.block k hk
theorem OwnR.alloc {α : Type} {r : Rd α} (hr : RdCK r) {base : Nat} {T : TypeId} {lo : Nat} {S : Nat → Bool} {w : World} {v : Value} {l : List α} (h : OwnR r base T lo S w v l) (o : Obj) : OwnR r base T lo S (w.alloc o) v l :=
  h.step hr ((Below.refl _ _).alloc (Nat.le_refl _) o)
theorem OwnR.setS {α : Type} {r : Rd α} (hr : RdCK r) {base : Nat} {T : TypeId} {lo : Nat} {S : Nat → Bool} {w : World} {v : Value} {l : List α} (h : OwnR r base T lo S w v l) (p : Addr) (u : Value) (hp : S p.block = true) : OwnR r base T lo S (w.setCell p u) v l :=
  h.to hr (by rw [World.size_setCell]; exact Nat.le_refl _) fun k _ hk => Below.heap_setCell w p u k (fun e => by rw [e, hp] at hk; cases hk)
theorem OwnR.sl {α : Type} {r : Rd α} (hr : RdCK r) {base : Nat} {T : TypeId} {lo : Nat} {S : Nat → Bool} {w : World} {v : Value} {l : List α} (h : OwnR r base T lo S w v l) {lo' : Nat} (h1 : lo' ≤ base) (h2 : lo' ≤ lo) : Sl r w lo' w.heap.size v l := by
  obtain ⟨h0, xs, ⟨hl, hrow⟩, hx⟩ := h
  rcases hrow with ⟨rfl, hz⟩ | ⟨g, cap, cur, rfl, hg, hh, g1, g2, g3, g4⟩
  · have : l = [] := List.eq_nil_of_length_eq_zero (by omega)
    subst this
    exact Sl.nil_ _ _ _
  · refine ⟨_, _, rfl, g1, g2, fun _ => ⟨g, 0, rfl, by omega, (Array.getElem?_eq_some_iff.1 hh).1, fun i x hxi => ?_⟩, fun h => by cases h⟩
    have hc : ∀ j u, xs[j]? = some u → w.cell? ⟨g, j, none⟩ = some u := by
      intro j u hj
      rw [cell_of_row w g j cur T (0, 0) hh, ← hj, ← g4, List.getElem?_take, if_pos]
      · simp
      · have := (List.getElem?_eq_some_iff.1 hj).1
        rw [hl] at this
        exact this
    refine r.more h2 (Nat.le_refl _) (hr (hideW_out w _) (fun j u hj => ?_) (hx i x hxi))
    show w.cell? ⟨g, 0 + i * r.n + j, none⟩ = some u
    rw [Nat.zero_add]
    exact hc _ _ hj
/-- The row may be written. -/
theorem OwnR.thaw {α : Type} {r : Rd α} {base : Nat} {T : TypeId} {lo : Nat} {S : Nat → Bool} {w : World} {v : Value} {l : List α} (h : OwnR r base T lo S w v l) : ∀ g o, v.ownBlock = some g → w.frozen? ⟨g, o, none⟩ = false := by
  obtain ⟨-, xs, ⟨-, hrow⟩, -⟩ := h
  intro g o hg
  rcases hrow with ⟨rfl, -⟩ | ⟨g', cap, cur, rfl, -, hh, -⟩
  · cases hg
  · cases hg
    simp [World.frozen?, hh]

/-- append to such a row. -/
theorem own_form {w : World} {base n size : Nat} {T : TypeId} {v : Value} {xs : List Value} (h : w.ownsRow base T size v n xs) : ∃ ad c, v = .slice ad n c := by
  rcases h.2 with ⟨rfl, h0⟩ | ⟨g, cap, cur, rfl, -⟩
  · exact ⟨none, 0, by rw [h0]⟩
  · exact ⟨_, _, rfl⟩
theorem OwnR.app {α : Type} {r : Rd α} (hr : RdCK r) {base : Nat} {T : TypeId} {lo : Nat} {S : Nat → Bool} {w w' : World} {v v' : Value} {l l2 : List α} {xs news : List Value} (h0 : ∀ g, v.ownBlock = some g → S g = false) (hrow : w.ownsRow base T r.n v l.length xs)
    (hx : ∀ j x, l[j]? = some x → r.R (hideW w (andOwn S v)) lo w.heap.size x (fun i => xs[j * r.n + i]?)) (hS : ∀ k, w.heap.size ≤ k → S k = false) (hy : ∀ j x, l2[j]? = some x → r.R (hideW w (andOwn S v)) lo w.heap.size x (fun i => news[j * r.n + i]?))
    (hown' : w'.ownsRow base T r.n v' (l.length + l2.length) (xs ++ news)) (hg : w.grownBy w' v.ownBlock) (hv : v'.ownBlock = v.ownBlock ∨ v'.ownBlock = some w.heap.size) : OwnR r base T lo S w' v' (l ++ l2) := by
  have hlt := hrow.lt
  have hck : CKc (hideW w (andOwn S v)) (hideW w' (andOwn S v')) := hideW_ck fun k h1 h2 => by
    obtain ⟨g1, g2⟩ := andOwn_no h2
    refine ⟨andOwn_of g1 ?_, hg.block k h1 (fun e => g2 e.symm)⟩
    rcases hv with e | e
    · rw [e]; exact g2
    · rw [e]; intro e2; cases e2; exact absurd h1 (Nat.lt_irrefl _)
  refine ⟨fun g hg' => ?_, xs ++ news, by rw [List.length_append]; exact hown', fun j x hj => ?_⟩
  · rcases hv with e | e
    · exact h0 g (e ▸ hg')
    · rw [e] at hg'; cases hg'; exact hS _ (Nat.le_refl _)
  · have hxl := hrow.1
    rcases Nat.lt_or_ge j l.length with hjl | hjl
    · rw [List.getElem?_append_left hjl] at hj
      refine r.more (Nat.le_refl _) hg.size (hr hck (fun i u hu => ?_) (hx j x hj))
      have := (List.getElem?_eq_some_iff.1 hu).1
      rw [List.getElem?_append_left this]
      exact hu
    · rw [List.getElem?_append_right hjl] at hj
      refine r.more (Nat.le_refl _) hg.size (hr hck (fun i u hu => ?_) (hy _ x hj))
      have e : j * r.n = l.length * r.n + (j - l.length) * r.n := by rw [← Nat.add_mul]; congr 1; omega
      rw [List.getElem?_append_right (by omega), show j * r.n + i - xs.length = (j - l.length) * r.n + i by omega]
      exact hu
theorem wp_append_run {P : Program} {w w' : World} {o : Oper} {a : Act} {K : Act → World → Prop} {Q : Exit → Act → World → Prop} (s x : Operand) (t : TypeId)
    (ho : o.op = .call { callee := .builtin .append, args := #[s, x], argTypes := #[t, t] }) {v v' sv : Value} (hs : a.eval s = v) (hx : a.eval x = sv) (hr : (Builtin.append_ #[t, t] o.type #[v, sv]).run P w = .ok v' w') (h : K (a.put o.dst v') w') : o.wp P a w K Q := by
  unfold Oper.wp
  simp only [execOp, ho, resolve, invoke, builtin, Sem.run_bind, Sem.run_pure, Result.andThen_ok, List.map_toArray, List.map_cons, List.map_nil, hs, hx, hr]
  exact h
/-- What an append to such a row comes to. -/
theorem run_appR {P : Program} {α : Type} {r : Rd α} (hr : RdCK r) {w : World} (t ty T : TypeId) (z : Value) (bytes : Nat) (ht : P.underlying t = some (.slice T)) (hi : (P.info? T).map (fun i => (i.zero, i.size, i.bytes)) = some (some z, r.n, bytes)) (hzs : z.cells.size = r.n) (hn0 : 0 < r.n)
    (base lo : Nat) (S : Nat → Bool) (v : Value) (l l2 : List α) (hown : OwnR r base T lo S w v l) (hS : ∀ k, w.heap.size ≤ k → S k = false)
    (ad : Addr) (c : Nat) (news : List Value) (hl2 : news.length = l2.length * r.n) (hnews : ∀ j u, news[j]? = some u → w.cell? (ad.add j) = some u) (h1 : ∀ u ∈ news, u.oneCell' = true)
    (hy : ∀ j x, l2[j]? = some x → r.R (hideW w (andOwn S v)) lo w.heap.size x (fun i => news[j * r.n + i]?))
    (hlen : l.length + l2.length ≤ 1000000) (hbytes : bytes ≤ 1000) (hbase : base ≤ w.heap.size) :
    ∃ ad' cc w', (Builtin.append_ #[t, t] ty #[v, .slice (some ad) l2.length c]).run P w = .ok (.slice ad' (l ++ l2).length cc) w' ∧ OwnR r base T lo S w' (.slice ad' (l ++ l2).length cc) (l ++ l2) ∧ Below base w w' ∧ ∀ k, k < w.heap.size → v.ownBlock ≠ some k → w'.heap[k]? = w.heap[k]? := by
  obtain ⟨i0, hi0, hz0, hz1, hz2⟩ := info_parts hi
  obtain ⟨h0, xs, hrow, hxs⟩ := hown
  obtain ⟨v', w', hrun, hown', hg, -, hv⟩ := run_append_own_at (P := P) w base t ty T i0 z r.n bytes ht hi0 hz0 hz1 hz2 hzs hn0 v l.length xs hrow ad l2.length c news hl2 hnews h1 (by unfold maxLen; omega) (Nat.le_trans (Nat.mul_le_mul hlen hbytes) (by omega)) hbase
  obtain ⟨ad', cc', hv'⟩ := own_form hown'
  have hB' : Below base w w' := ((Below.refl w.heap.size w).mono hbase).grown hg hbase (fun k hk => (hrow.lt k hk).1)
  have hR := OwnR.app hr h0 hrow hxs hS hy hown' hg hv
  have e : (l ++ l2).length = l.length + l2.length := List.length_append
  rw [← e] at hv'
  rw [hv'] at hR hrun
  exact ⟨ad', cc', w', hrun, hR, hB', fun k hk hne => hg.block k hk (fun e => hne e.symm)⟩
theorem wp_appR {P : Program} {α : Type} {r : Rd α} (hr : RdCK r) {w : World} {o : Oper} {a : Act} {K : Act → World → Prop} {Q : Exit → Act → World → Prop} (s x : Operand) (t : TypeId)
    (ho : o.op = .call { callee := .builtin .append, args := #[s, x], argTypes := #[t, t] }) (T : TypeId) (z : Value) (bytes : Nat) (ht : P.underlying t = some (.slice T)) (hi : (P.info? T).map (fun i => (i.zero, i.size, i.bytes)) = some (some z, r.n, bytes)) (hzs : z.cells.size = r.n) (hn0 : 0 < r.n)
    (base lo : Nat) (S : Nat → Bool) (v : Value) (l l2 : List α) (hs : a.eval s = v) (hown : OwnR r base T lo S w v l) (hS : ∀ k, w.heap.size ≤ k → S k = false)
    (ad : Addr) (c : Nat) (news : List Value) (hx : a.eval x = .slice (some ad) l2.length c) (hl2 : news.length = l2.length * r.n) (hnews : ∀ j u, news[j]? = some u → w.cell? (ad.add j) = some u) (h1 : ∀ u ∈ news, u.oneCell' = true)
    (hy : ∀ j x, l2[j]? = some x → r.R (hideW w (andOwn S v)) lo w.heap.size x (fun i => news[j * r.n + i]?))
    (hlen : l.length + l2.length ≤ 1000000) (hbytes : bytes ≤ 1000) (hbase : base ≤ w.heap.size)
    (h : ∀ ad cc w', OwnR r base T lo S w' (.slice ad (l ++ l2).length cc) (l ++ l2) → Below base w w' → (∀ k, k < w.heap.size → v.ownBlock ≠ some k → w'.heap[k]? = w.heap[k]?) → K (a.put o.dst (.slice ad (l ++ l2).length cc)) w') : o.wp P a w K Q := by
  obtain ⟨ad', cc, w', hrun, h1', h2', h3'⟩ := run_appR hr t o.type T z bytes ht hi hzs hn0 base lo S v l l2 hown hS ad c news hl2 hnews h1 hy hlen hbytes hbase
  exact wp_append_run s x t ho hs hx hrun (h _ _ _ h1' h2' h3')
theorem wpList_appR {P : Program} {α : Type} {r : Rd α} (hr : RdCK r) {w : World} {ops : Array Oper} {rest : List Oper} {o : Oper} {a : Act} {Q : Exit → Act → World → Prop} (hgd : o.guard = none) (s x : Operand) (t : TypeId)
    (ho : o.op = .call { callee := .builtin .append, args := #[s, x], argTypes := #[t, t] }) (T : TypeId) (z : Value) (bytes : Nat) (ht : P.underlying t = some (.slice T)) (hi : (P.info? T).map (fun i => (i.zero, i.size, i.bytes)) = some (some z, r.n, bytes)) (hzs : z.cells.size = r.n) (hn0 : 0 < r.n)
    (base lo : Nat) (S : Nat → Bool) (v : Value) (l l2 : List α) (hs : a.eval s = v) (hown : OwnR r base T lo S w v l) (hS : ∀ k, w.heap.size ≤ k → S k = false)
    (ad : Addr) (c : Nat) (news : List Value) (hx : a.eval x = .slice (some ad) l2.length c) (hl2 : news.length = l2.length * r.n) (hnews : ∀ j u, news[j]? = some u → w.cell? (ad.add j) = some u) (h1 : ∀ u ∈ news, u.oneCell' = true)
    (hy : ∀ j x, l2[j]? = some x → r.R (hideW w (andOwn S v)) lo w.heap.size x (fun i => news[j * r.n + i]?))
    (hlen : l.length + l2.length ≤ 1000000) (hbytes : bytes ≤ 1000) (hbase : base ≤ w.heap.size)
    (h : ∀ ad cc w', OwnR r base T lo S w' (.slice ad (l ++ l2).length cc) (l ++ l2) → Below base w w' → (∀ k, k < w.heap.size → v.ownBlock ≠ some k → w'.heap[k]? = w.heap[k]?) → wpList P ops Q rest (a.put o.dst (.slice ad (l ++ l2).length cc)) w') : wpList P ops Q (o :: rest) a w :=
  wpList_plain hgd fun _ hK => wp_appR hr s x t ho T z bytes ht hi hzs hn0 base lo S v l l2 hs hown hS ad c news hx hl2 hnews h1 hy hlen hbytes hbase fun _ _ _ g1 g2 g3 => hK _ _ (h _ _ _ g1 g2 g3)
/-- append of bytes, at a call. -/
theorem run_appB {P : Program} {w : World} (t ty e : TypeId) (ht : P.underlying t = some (.slice e)) (hi : (P.info? e).map (fun i => (i.zero, i.size, i.bytes)) = some (some (.int .u8 0), 1, 1))
    (base : Nat) (v : Value) (l : List UInt8) (hown : OwnB base e w v l) (lo hi' : Nat) (sv : Value) (bs : List UInt8) (hr : Bytes w lo hi' sv bs) (hsz : l.length + bs.length ≤ 140737488355328) (hbase : base ≤ w.heap.size) :
    ∃ v' w', (Builtin.append_ #[t, t] ty #[v, sv]).run P w = .ok v' w' ∧ OwnB base e w' v' (l ++ bs) ∧ Below base w w' ∧ ∀ k, k < w.heap.size → v.ownBlock ≠ some k → w'.heap[k]? = w.heap[k]? := by
  obtain ⟨i0, hi0, hz0, hz1, hz2⟩ := info_parts hi
  obtain ⟨ad, c, rfl, h1, h2, h3, h4⟩ := hr
  have hbel : ∀ w', w.grownBy w' v.ownBlock → Below base w w' := fun w' hg => ((Below.refl w.heap.size w).mono hbase).grown hg hbase hown.block
  rcases ad with _ | ad
  · have hc : c = 0 := h4 rfl
    subst hc
    have hb0 : bs = [] := List.eq_nil_of_length_eq_zero (by omega)
    subst hb0
    exact ⟨v, w, run_append_owned_none w base t ty e i0 1 ht hi0 v _ _ hown, by simpa using hown, hbel _ (World.grownBy.refl w _), fun _ _ _ => rfl⟩
  · have hl : (bs.map bV).length = bs.length * 1 := by simp
    obtain ⟨v', w', hrun, hown', hg, -, -⟩ := run_append_own_at (P := P) w base t ty e i0 _ 1 1 ht hi0 hz0 hz1 hz2 rfl (by decide) v l.length _ hown ad bs.length c (bs.map bV) hl (by
      intro j u hu
      have hj : j < bs.length := by have := (List.getElem?_eq_some_iff.1 hu).1; simpa using this
      obtain ⟨b, off, e1, _, _, hc⟩ := h3 (by omega)
      cases e1
      have e2 : (⟨b, off, none⟩ : Addr).add j = ⟨b, off + j, none⟩ := by unfold Addr.add; split <;> simp_all
      rw [e2, hc j bs[j] (by simp [hj])]
      simp [hj] at hu
      rw [hu]) (by
      intro u hu
      obtain ⟨y, _, rfl⟩ := List.mem_map.1 hu
      rfl) (by unfold maxLen; omega) (by omega) hbase
    exact ⟨v', w', hrun, by unfold OwnB; simpa using hown', hbel _ hg, fun k hk hne => hg.block k hk (fun e => hne e.symm)⟩
theorem wp_appB {P : Program} {w : World} {o : Oper} {a : Act} {K : Act → World → Prop} {Q : Exit → Act → World → Prop} (s x : Operand) (t : TypeId)
    (ho : o.op = .call { callee := .builtin .append, args := #[s, x], argTypes := #[t, t] }) (e : TypeId) (ht : P.underlying t = some (.slice e)) (hi : (P.info? e).map (fun i => (i.zero, i.size, i.bytes)) = some (some (.int .u8 0), 1, 1))
    (base : Nat) (v : Value) (l : List UInt8) (hs : a.eval s = v) (hown : OwnB base e w v l) (lo hi' : Nat) (sv : Value) (bs : List UInt8) (hx : a.eval x = sv) (hr : Bytes w lo hi' sv bs) (hsz : l.length + bs.length ≤ 140737488355328) (hbase : base ≤ w.heap.size)
    (h : ∀ v' w', OwnB base e w' v' (l ++ bs) → Below base w w' → (∀ k, k < w.heap.size → v.ownBlock ≠ some k → w'.heap[k]? = w.heap[k]?) → K (a.put o.dst v') w') : o.wp P a w K Q := by
  obtain ⟨v', w', hrun, h1', h2', h3'⟩ := run_appB t o.type e ht hi base v l hown lo hi' sv bs hr hsz hbase
  exact wp_append_run s x t ho hs hx hrun (h _ _ h1' h2' h3')
/-- One element that was laid into a new block just so. -/
theorem news_one {w : World} (cs : Array Value) (T : TypeId) : ∀ j u, cs.toList[j]? = some u → (w.alloc (.cells cs T)).cell? ((⟨w.heap.size, 0, none⟩ : Addr).add j) = some u := by
  intro j u hu
  have e2 : (⟨w.heap.size, 0, none⟩ : Addr).add j = ⟨w.heap.size, j, none⟩ := by unfold Addr.add; split <;> simp_all
  rw [e2, cell_of_row _ w.heap.size j cs T (0, 0) (World.alloc_heap_new w _)]
  simpa using hu
end Go.Proofs.Ytkfgegdnpinbdaa

namespace Go.Proofs.Ytkfgegdnpinbdaa
open Go.RowKit

/-- One element more: the row behind the making of its bytes, and what is appended. -/
theorem row_bytes1 {base : Nat} {T : TypeId} {lo : Nat} {S : Nat → Bool} {wr w0 z : World} {v u : Value} {kl : List (List UInt8)} {x : List UInt8} (h : OwnR rBytes base T lo S wr v kl) (hS : ∀ k, wr.heap.size ≤ k → S k = false) (h0 : w0.heap = wr.heap)
    (hB : Below w0.heap.size w0 z) (hb : Bytes z w0.heap.size z.heap.size u x) (hlo : lo ≤ wr.heap.size) (T2 : TypeId) :
    OwnR rBytes base T lo S (z.alloc (.cells #[u] T2)) v kl ∧ ∀ j y, [x][j]? = some y → rBytes.R (hideW (z.alloc (.cells #[u] T2)) (andOwn S v)) lo (z.alloc (.cells #[u] T2)).heap.size y (fun i => [u][j * rBytes.n + i]?) := by
  have hs : wr.heap.size = w0.heap.size := by rw [h0]
  refine ⟨(h.to rBytes_ck (by rw [hs]; exact hB.size) (fun k hk _ => (hB.block k (by omega)).trans (by rw [h0]))).alloc rBytes_ck _, fun j y hj => ?_⟩
  cases j with
  | zero =>
    cases hj
    refine ⟨u, rfl, (hb.kept (hideW_kp fun k h1 h2 => ⟨andOwn_of (hS k (by omega)) (fun e => ?_), Below.heap_alloc z _ k h2⟩)).more (by omega) (by simp)⟩
    have := (h.lt k e).2
    omega
  | succ j => simp at hj
theorem row_write1 {base : Nat} {T : TypeId} {lo : Nat} {S : Nat → Bool} {wr w0 z : World} {v u : Value} {kl : List WrL} {p : Int} {x : List UInt8} (h : OwnR rWrite base T lo S wr v kl) (hS : ∀ k, wr.heap.size ≤ k → S k = false) (h0 : w0.heap = wr.heap)
    (hB : Below w0.heap.size w0 z) (hb : Bytes z w0.heap.size z.heap.size u x) (hlo : lo ≤ wr.heap.size) (hp : (Lit.int .i64 p).wf = true) (T2 : TypeId) :
    OwnR rWrite base T lo S (z.alloc (.cells #[.int .i64 p, u] T2)) v kl ∧ ∀ j y, [(⟨p, x⟩ : WrL)][j]? = some y → rWrite.R (hideW (z.alloc (.cells #[.int .i64 p, u] T2)) (andOwn S v)) lo (z.alloc (.cells #[.int .i64 p, u] T2)).heap.size y (fun i => [.int .i64 p, u][j * rWrite.n + i]?) := by
  have hs : wr.heap.size = w0.heap.size := by rw [h0]
  refine ⟨(h.to rWrite_ck (by rw [hs]; exact hB.size) (fun k hk _ => (hB.block k (by omega)).trans (by rw [h0]))).alloc rWrite_ck _, fun j y hj => ?_⟩
  cases j with
  | zero =>
    cases hj
    refine ⟨rfl, hp, u, rfl, (hb.kept (hideW_kp fun k h1 h2 => ⟨andOwn_of (hS k (by omega)) (fun e => ?_), Below.heap_alloc z _ k h2⟩)).more (by omega) (by simp)⟩
    have := (h.lt k e).2
    omega
  | succ j => simp at hj
theorem snoc_take {α : Type} (l : List α) (k : Nat) (d : α) (h : k < l.length) : l.take (k + 1) = l.take k ++ [l.getD k d] := by
  rw [List.take_succ_eq_append_getElem h]
  simp [h]
/-- The blocks of a call's own variables. -/
def boxS (lo n : Nat) (k : Nat) : Bool := decide (lo ≤ k) && decide (k < lo + n)
theorem boxS_no {lo n k : Nat} (h : lo + n ≤ k) : boxS lo n k = false := by unfold boxS; simp; omega
theorem boxS_yes {lo n k : Nat} (h1 : lo ≤ k) (h2 : k < lo + n) : boxS lo n k = true := by unfold boxS; simp; omega
theorem dat_len (d : DiskL) (x : List UInt8) (h : x ∈ datD d) : x.length ≤ (datD d).flatten.length := by
  obtain ⟨i, hi, e⟩ := List.mem_iff_getElem.1 h
  have h1 := posD_succ (datD d) i hi
  have h2 := posD_le (datD d) (i + 1)
  have h3 : (datD d).getD i [] = x := by rw [← e]; simp [hi]
  rw [h3] at h1
  omega

end Go.Proofs.Ytkfgegdnpinbdaa

namespace Go.Proofs.Ytkfgegdnpinbdaa
open Go.RowKit

set_option maxRecDepth 100000 in
set_option maxHeartbeats 2000000 in
/-- The reference's Twin, of a disk that is not great. -/
theorem rdtwin_new (b u : Value) (d : DiskL) (w : World) (h : DiskV w 0 w.heap.size b u d) (hn1 : d.blocks.length ≤ 100000) (hn2 : d.waits.length ≤ 100000) (hT : (datD d).flatten.length ≤ 100000000) :
    Calls Try.prog 34 #[.agg #[b, u]] w fun e w' => ∃ b' u', e = .returned (.agg #[b', u']) ∧ DiskV w' w.heap.size w'.heap.size b' u' d ∧ Below w.heap.size w w' := by
  obtain ⟨ab, cb, rfl, g1, g2, -, -⟩ := h.1
  obtain ⟨au, cu, rfl, g3, g4, -, -⟩ := h.2
  have hB : Below w.heap.size w (((w.alloc (.cells #[.slice ab d.blocks.length cb, .slice au d.waits.length cu] 25)).alloc (.cells #[.slice none 0 0, .slice none 0 0] 25)).alloc (.cells #[.slice none 0 0, .slice none 0 0] 25)) := (((Below.refl w.heap.size w).alloc (Nat.le_refl _) _).alloc (by simp) _).alloc (by simp; omega) _
  have hq := three_new w (.cells #[.slice ab d.blocks.length cb, .slice au d.waits.length cu] 25) (.cells #[.slice none 0 0, .slice none 0 0] 25) (.cells #[.slice none 0 0, .slice none 0 0] 25)
  have hsW : (((w.alloc (.cells #[.slice ab d.blocks.length cb, .slice au d.waits.length cu] 25)).alloc (.cells #[.slice none 0 0, .slice none 0 0] 25)).alloc (.cells #[.slice none 0 0, .slice none 0 0] 25)).heap.size = w.heap.size + 3 := by simp
  have hdl := Lib.hid (fun x hx => Nat.le_trans (dat_len d x hx) hT)
  have HD := Lib.hid h
  unfold maxLen at g2 g4
  clear h hT
  obtain ⟨W, hW⟩ : ∃ W, ((w.alloc (.cells #[.slice ab d.blocks.length cb, .slice au d.waits.length cu] 25)).alloc (.cells #[.slice none 0 0, .slice none 0 0] 25)).alloc (.cells #[.slice none 0 0, .slice none 0 0] 25) = W := ⟨_, rfl⟩
  rw [hW] at hB hq hsW
  have HWS := Lib.hid hsW
  have HQ := Lib.hid (And.intro hB hq)
  have HWE := Lib.hid hW
  clear hB hq hW hsW
  go_enter Try.func34, Try.ntmps34
  go_upto_region 2 with (fail)
  rw [HWE.out]
  clear HWE
  go_wp2_with fail
  go_loopw [4] (fun i wr => ∃ (k : Nat) (a5 : Option Addr) (c5 : Nat), k ≤ d.blocks.length ∧ i = .int .i64 k ∧ wr.heap[w.heap.size + 2]? = some (.cells #[.slice a5 (d.blocks.take k).length c5, .slice none 0 0] 25 (0, 0)) ∧
    OwnR rBytes W.heap.size 26 W.heap.size (boxS w.heap.size 3) wr (.slice a5 (d.blocks.take k).length c5) (d.blocks.take k) ∧ (∀ j, j < W.heap.size → j ≠ w.heap.size + 2 → wr.heap[j]? = W.heap[j]?) ∧ W.heap.size ≤ wr.heap.size ∧ Below w.heap.size w wr) (fun i _ => d.blocks.length - (intOf i).toNat)
  case atStart => exact ⟨0, none, 0, Nat.zero_le _, rfl, HQ.out.2.2.2, OwnR.nil_ _ _ _ _ _ _, fun _ _ _ => rfl, Nat.le_refl _, HQ.out.1⟩
  case round =>
  obtain ⟨k, a5, c5, hk, rfl, q5, hown, hsame, hsz, hBw⟩ := hrel
  have qd := (hsame w.heap.size (by have := HWS.out; omega) (by omega)).trans HQ.out.2.1
  obtain ⟨kl, hkl⟩ : ∃ kl, d.blocks.take k = kl := ⟨_, rfl⟩
  rw [hkl] at q5 hown
  have n0 := blk_cell qd 0
  have n1 := blk_cell qd 1
  have m0 := blk_cell q5 0
  have m1 := blk_cell q5 1
  simp at n0 n1 m0 m1
  by_cases hlt : k < d.blocks.length
  · obtain ⟨bb, bo, cb', e', -, z1, z2, z3, hbe⟩ := HD.out.1.at_ (by omega)
    injection e' with ea _ ec
    subst ea ec
    obtain ⟨x, e2, e3⟩ := hbe k (d.blocks.getD k []) (get_l _ _ _ hlt)
    obtain ⟨ya, yc, rfl, -, hyc⟩ := e3.form rfl
    have hdk := hdl.out (d.blocks.getD k []) (List.mem_append_left _ (List.mem_of_getElem? (get_l _ _ _ hlt)))
    have hkt := snoc_take d.blocks k [] hlt
    obtain ⟨dt, hdt⟩ : ∃ y, d.blocks.getD k [] = y := ⟨_, rfl⟩
    rw [hdt] at e2 e3 hdk hkt
    clear hdt hbe
    simp [rBytes] at e2
    have hkll : (d.blocks.take k).length ≤ 100000 := Nat.le_trans (List.length_take_le _ _) (by omega)
    rw [hkl] at hkt hkll
    unfold maxLen at z3 hyc
    have e2r : wr.cell? ⟨bb, bo + k, none⟩ = some (.slice ya dt.length yc) := (hBw.cell (p := ⟨bb, bo + k, none⟩) z1).trans e2
    have e3r : Bytes wr 0 w.heap.size (.slice ya dt.length yc) dt := e3.below hBw (Nat.le_refl _)
    have z1w : bb < W.heap.size := Nat.lt_of_lt_of_le z1 HQ.out.1.size
    obtain ⟨Pr, hPr⟩ : ∃ Pr : World → Prop, ∀ X, Pr X ↔ ∀ j, j < W.heap.size → X.heap[j]? = wr.heap[j]? := ⟨_, fun _ => Iff.rfl⟩
    have hp0 : Pr wr.drew := (hPr _).2 (fun _ _ => rfl)
    have hS0 : ∀ k, wr.heap.size ≤ k → boxS w.heap.size 3 k = false := fun k hk => boxS_no (by have := HWS.out; omega)
    have x1 := fun X => (blk_cell (((hPr _).1 (selW_pr hp0 X) (w.heap.size + 2) (by have := HWS.out; omega)).trans q5) 0)
    have x2 := fun X => (blk_cell (((hPr _).1 (selW_pr hp0 X) w.heap.size (by have := HWS.out; omega)).trans qd) 0)
    have x3 := fun X => (heap_cell ((hPr _).1 (selW_pr hp0 X) bb z1w) (bo + k)).trans e2r
    simp at x1 x2
    have HP := Lib.hid (And.intro q5 (And.intro hsame (And.intro hsz (And.intro hBw (And.intro hkt (And.intro hkl (And.intro hown (And.intro e3r hS0))))))))
    clear q5 hown hsame hsz hBw hkt hkl e2 e3 e2r e3r hS0 qd
    go_wp2_with fail
    refine wp_region_L (S := Kl Pr wr.drew) 11 (by kernel_rfl) (Kl.of hp0) (fun hCl => ?_)
    refine wpAnyL_seg (fuel := 5) (by kernel_rfl) (fun _ d _ _ _ h => by cases d <;> exact h) hCl [0, 1, 2, 3, 4, 5, 6] _ _ _ (by kernel_rfl) (by kernel_rfl) (by kernel_rfl) (by kernel_rfl) ?_
    simp only [opsOf_cons, opsOf_nil, consOp_some, List.getElem?_toArray, List.getElem?_cons_succ, List.getElem?_cons_zero]
    repeat (first | go_big_quiet_step (fail) | quiet_step (fail))
    refine wpQuiet_nil ?_
    refine wpAnyL_each (fuel := 4) [7] (by kernel_rfl) (by simp) (by kernel_rfl) ?_
    refine EachL.cons _ rfl (fun K' hK => ?_) EachL.nil
    refine if_yes (by kernel_rfl) ?_
    refine wp_appB (.const (.slice none 0 0)) (.tmp 19) 26 rfl 5 Try.underlying26 info_u8 wr.heap.size (.slice none 0 0) [] rfl (OwnB.nil_ _ _ _) 0 w.heap.size (.slice ya dt.length yc) dt rfl HP.out.2.2.2.2.2.2.2.1 (by show 0 + dt.length ≤ _; omega) (Nat.le_refl _) ?_
    intro v1 v1w hown1 hB1 _hf1
    have hst : Pr v1w := (hPr _).2 (fun j hj => hB1.block j (Nat.lt_of_lt_of_le hj HP.out.2.2.1))
    obtain ⟨a1, c1, hv1⟩ := own_form hown1
    rw [List.nil_append] at hv1 hown1
    subst hv1
    have HO1 := Lib.hid (And.intro hown1 hB1)
    have HST1 := Lib.hid hst
    clear hown1 hB1 _hf1
    have hCl : Kl Pr wr.drew _ := Kl.of hst
    refine hK.out (.inr hCl) ?_
    clear hK K'
    refine wpAnyL_each (fuel := 3) [8] (by kernel_rfl) (by simp) (by kernel_rfl) ?_
    refine EachL.cons _ rfl (fun K' hK => ?_) EachL.nil
    go_simp
    have hst : Pr (v1w.alloc (.cells #[.slice a1 dt.length c1] 26)) := (hPr _).2 (fun j hj => (Below.heap_alloc v1w _ j (Nat.lt_of_lt_of_le hj (Nat.le_trans HP.out.2.2.1 HO1.out.2.size))).trans ((hPr _).1 HST1.out j hj))
    have HST2 := Lib.hid hst
    have hCl : Kl Pr wr.drew _ := Kl.of hst
    refine hK.out (.inr hCl) ?_
    clear hK K'
    refine wpAnyL_each (fuel := 2) [9] (by kernel_rfl) (by simp) (by kernel_rfl) ?_
    refine EachL.cons _ rfl (fun K' hK => ?_) EachL.nil
    refine if_yes (by kernel_rfl) ?_
    obtain ⟨hra, hrb⟩ := row_bytes1 (T2 := 26) HP.out.2.2.2.2.2.2.1 HP.out.2.2.2.2.2.2.2.2 (w0 := wr.drew) rfl HO1.out.2 HO1.out.1.bytes (Nat.le_trans (Nat.le_refl _) HP.out.2.2.1) 
    refine wp_appR rBytes_ck (.tmp 14) (.tmp 21) 22 rfl 26 (.slice none 0 0) 24 Try.underlying22 (by kernel_rfl) rfl (by decide) W.heap.size W.heap.size (boxS w.heap.size 3) _ kl [dt] rfl hra (fun k hk => HP.out.2.2.2.2.2.2.2.2 k (Nat.le_trans HO1.out.2.size (Nat.le_trans (by rw [World.size_alloc]; exact Nat.le_succ _) hk))) ⟨v1w.heap.size, 0, none⟩ 1 [.slice a1 dt.length c1] rfl rfl (news_one #[.slice a1 dt.length c1] 26) (by intro u hu; simp at hu; rcases hu with rfl; rfl) hrb (by show kl.length + 1 ≤ 1000000; omega) (by decide) (Nat.le_trans HP.out.2.2.1 (Nat.le_trans HO1.out.2.size (by rw [World.size_alloc]; exact Nat.le_succ _))) ?_
    intro a4 c4 z2 hown4 hB4 _hf4
    have hst : Pr z2 := (hPr _).2 (fun j hj => (hB4.block j hj).trans ((hPr _).1 HST2.out j hj))
    rw [show (kl ++ [(dt)]).length = kl.length + 1 by simp] at hown4 ⊢
    have k5 := ((hPr _).1 hst (w.heap.size + 2) (by have := HWS.out; omega)).trans HP.out.1
    have j1 := blk_cell k5 0
    have jf := blk_frozen k5 0
    simp at j1
    have HO := Lib.hid (And.intro hown4 (And.intro hB4 (And.intro HO1.out.2 k5)))
    clear hown4 hB4 k5 hra hrb _hf4
    have hCl : Kl Pr wr.drew _ := Kl.of hst
    refine hK.out (.inr hCl) ?_
    clear hK K'
    refine wpAnyL_seg (fuel := 1) (by kernel_rfl) (fun _ d _ _ _ h => by cases d <;> exact h) hCl [10] _ _ _ (by kernel_rfl) (by kernel_rfl) (by kernel_rfl) (by kernel_rfl) ?_
    simp only [opsOf_cons, opsOf_nil, consOp_some, List.getElem?_toArray, List.getElem?_cons_succ, List.getElem?_cons_zero]
    repeat (first | go_big_quiet_step (fail) | quiet_step (fail))
    refine wpQuiet_nil ?_
    refine wpAnyL_each (fuel := 0) [11] (by kernel_rfl) (by simp) (by kernel_rfl) ?_
    refine EachL.cons _ rfl (fun K' hK => ?_) EachL.nil
    go_simp
    refine hK.out (.inl rfl) ?_
    clear hK K'
    refine wpAnyL_done (by kernel_rfl) ?_ _
    go_wp2
    go_roundw
    case rel =>
      obtain ⟨hown4, hB4, hb1, k5⟩ := HO.out
      obtain ⟨q5, hsame, hsz, hBw, hkt, hkl, hown, e3r, hS0⟩ := HP.out
      have hs := set_other z2 (w.heap.size + 2) 0 (.slice a4 (kl.length + 1) c4)
      have hst2 := (hPr _).1 hst
      have hl : (kl ++ [dt]).length = kl.length + 1 := by simp
      refine ⟨k + 1, a4, c4, by omega, by go_num, ?_, ?_, fun j h1 h2 => (hs j h2).trans ((hst2 j h1).trans (hsame j h1 h2)), ?_, ?_⟩
      · rw [hkt, hl]
        exact set_block k5 0 _
      · rw [hkt, hl]
        exact hown4.setS rBytes_ck ⟨w.heap.size + 2, 0, none⟩ _ (boxS_yes (by show w.heap.size ≤ w.heap.size + 2; omega) (by show w.heap.size + 2 < w.heap.size + 3; omega))
      · rw [World.size_setCell]
        exact Nat.le_trans hsz (Nat.le_trans hb1.size (Nat.le_trans (by rw [World.size_alloc]; exact Nat.le_succ _) hB4.size))
      · exact (((hBw.drew.trans (hb1.mono hBw.size)).alloc (Nat.le_trans hBw.size hb1.size) _).trans (hB4.mono HQ.out.1.size)).setCell (p := ⟨w.heap.size + 2, 0, none⟩) (by show w.heap.size ≤ w.heap.size + 2; omega) _
    case measure => simp [intOf]; omega
  obtain rfl : k = d.blocks.length := by omega
  rw [List.take_length] at hkl
  subst hkl
  have hbl := hown.sl rBytes_ck (lo' := W.heap.size) (Nat.le_refl _) (Nat.le_refl _)
  obtain ⟨wm, hwm⟩ : ∃ wm, wm = wr := ⟨_, rfl⟩
  subst hwm
  have q1 := (hsame (w.heap.size + 1) (by have := HWS.out; omega) (by omega)).trans HQ.out.2.2.1
  have HM := Lib.hid (And.intro q5 (And.intro qd (And.intro q1 (And.intro hbl (And.intro hsz hBw)))))
  clear q5 qd q1 hbl hsz hBw hown hsame hk hlt n1
  go_wp2_with fail
  go_loopw [5] (fun i wr => ∃ (k : Nat) (a6 : Option Addr) (c6 : Nat), k ≤ d.waits.length ∧ i = .int .i64 k ∧ wr.heap[w.heap.size + 2]? = some (.cells #[.slice a5 d.blocks.length c5, .slice a6 (d.waits.take k).length c6] 25 (0, 0)) ∧
    OwnR rWrite wm.heap.size 92 wm.heap.size (boxS w.heap.size 3) wr (.slice a6 (d.waits.take k).length c6) (d.waits.take k) ∧ (∀ j, j < wm.heap.size → j ≠ w.heap.size + 2 → wr.heap[j]? = wm.heap[j]?) ∧ wm.heap.size ≤ wr.heap.size ∧ Below w.heap.size w wr) (fun i _ => d.waits.length - (intOf i).toNat)
  case atStart => exact ⟨0, none, 0, Nat.zero_le _, rfl, HM.out.1, OwnR.nil_ _ _ _ _ _ _, fun _ _ _ => rfl, Nat.le_refl _, HM.out.2.2.2.2.2⟩
  case round =>
  obtain ⟨k, a6, c6, hk, rfl, q5, hown, hsame, hsz, hBw⟩ := hrel
  clear m0 m1 n0
  have hwmS : w.heap.size + 3 ≤ wm.heap.size := by have := HWS.out; have := HM.out.2.2.2.2.1; omega
  have qd := (hsame w.heap.size (by omega) (by omega)).trans HM.out.2.1
  obtain ⟨kl, hkl⟩ : ∃ kl, d.waits.take k = kl := ⟨_, rfl⟩
  rw [hkl] at q5 hown
  have n0 := blk_cell qd 0
  have n1 := blk_cell qd 1
  have m0 := blk_cell q5 0
  have m1 := blk_cell q5 1
  simp at n0 n1 m0 m1
  by_cases hlt : k < d.waits.length
  · obtain ⟨bb, bo, cb', e', -, z1, z2, z3, hbe⟩ := HD.out.2.at_ (by omega)
    injection e' with ea _ ec
    subst ea ec
    obtain ⟨e0, e1, x, e2, e3⟩ := hbe k (d.waits.getD k ⟨0, []⟩) (get_l _ _ _ hlt)
    obtain ⟨ya, yc, rfl, -, hyc⟩ := e3.form rfl
    have hdk := hdl.out (d.waits.getD k ⟨0, []⟩).data (List.mem_append_right _ (List.mem_map_of_mem (List.mem_of_getElem? (get_l _ _ _ hlt))))
    have hkt := snoc_take d.waits k ⟨0, []⟩ hlt
    obtain ⟨y, hy⟩ : ∃ y, d.waits.getD k ⟨0, []⟩ = y := ⟨_, rfl⟩
    rw [hy] at e0 e1 e2 e3 hdk hkt
    clear hy hbe
    obtain ⟨at0, dt⟩ := y
    simp [rWrite] at e0 e2
    simp only at e1 e3 hdk
    have hkll : (d.waits.take k).length ≤ 100000 := Nat.le_trans (List.length_take_le _ _) (by omega)
    rw [hkl] at hkt hkll
    unfold maxLen at z3 hyc
    have e0r : wr.cell? ⟨bb, bo + k * 2, none⟩ = some (.int .i64 at0) := (hBw.cell (p := ⟨bb, bo + k * 2, none⟩) z1).trans e0
    have e2r : wr.cell? ⟨bb, bo + k * 2 + 1, none⟩ = some (.slice ya dt.length yc) := (hBw.cell (p := ⟨bb, bo + k * 2 + 1, none⟩) z1).trans e2
    have e3r : Bytes wr 0 w.heap.size (.slice ya dt.length yc) dt := e3.below hBw (Nat.le_refl _)
    have z1w : bb < wm.heap.size := by omega
    obtain ⟨Pr, hPr⟩ : ∃ Pr : World → Prop, ∀ X, Pr X ↔ ∀ j, j < wm.heap.size → X.heap[j]? = wr.heap[j]? := ⟨_, fun _ => Iff.rfl⟩
    have hp0 : Pr wr.drew := (hPr _).2 (fun _ _ => rfl)
    have hS0 : ∀ k, wr.heap.size ≤ k → boxS w.heap.size 3 k = false := fun k hk => boxS_no (by omega)
    have x1 := fun X => (blk_cell (((hPr _).1 (selW_pr hp0 X) (w.heap.size + 2) (by omega)).trans q5) 1)
    have x2 := fun X => (blk_cell (((hPr _).1 (selW_pr hp0 X) w.heap.size (by omega)).trans qd) 1)
    have x3 := fun X => (heap_cell ((hPr _).1 (selW_pr hp0 X) bb z1w) (bo + k * 2)).trans e0r
    have x4 := fun X => (heap_cell ((hPr _).1 (selW_pr hp0 X) bb z1w) (bo + k * 2 + 1)).trans e2r
    simp at x1 x2
    have HP := Lib.hid (And.intro q5 (And.intro hsame (And.intro hsz (And.intro hBw (And.intro hkt (And.intro hkl (And.intro hown (And.intro e3r (And.intro e1 hS0)))))))))
    clear q5 hown hsame hsz hBw hkt hkl e0 e1 e2 e3 e0r e2r e3r hS0 qd
    go_wp2_with fail
    refine wp_region_L (S := Kl Pr wr.drew) 19 (by kernel_rfl) (Kl.of hp0) (fun hCl => ?_)
    refine wpAnyL_seg (fuel := 6) (by kernel_rfl) (fun _ d _ _ _ h => by cases d <;> exact h) hCl [0, 1, 2, 3, 4, 5, 6, 7, 8, 9, 10, 11, 12, 13] _ _ _ (by kernel_rfl) (by kernel_rfl) (by kernel_rfl) (by kernel_rfl) ?_
    simp only [opsOf_cons, opsOf_nil, consOp_some, List.getElem?_toArray, List.getElem?_cons_succ, List.getElem?_cons_zero]
    repeat (first | go_big_quiet_step (fail) | quiet_step (fail))
    refine wpQuiet_nil ?_
    refine wpAnyL_each (fuel := 5) [14] (by kernel_rfl) (by simp) (by kernel_rfl) ?_
    refine EachL.cons _ rfl (fun K' hK => ?_) EachL.nil
    refine if_yes (by kernel_rfl) ?_
    refine wp_appB (.const (.slice none 0 0)) (.tmp 44) 26 rfl 5 Try.underlying26 info_u8 wr.heap.size (.slice none 0 0) [] rfl (OwnB.nil_ _ _ _) 0 w.heap.size (.slice ya dt.length yc) dt rfl HP.out.2.2.2.2.2.2.2.1 (by show 0 + dt.length ≤ _; omega) (Nat.le_refl _) ?_
    intro v1 v1w hown1 hB1 _hf1
    have hst : Pr v1w := (hPr _).2 (fun j hj => hB1.block j (Nat.lt_of_lt_of_le hj HP.out.2.2.1))
    obtain ⟨a1, c1, hv1⟩ := own_form hown1
    rw [List.nil_append] at hv1 hown1
    subst hv1
    have HO1 := Lib.hid (And.intro hown1 hB1)
    have HST1 := Lib.hid hst
    clear hown1 hB1 _hf1
    have hCl : Kl Pr wr.drew _ := Kl.of hst
    refine hK.out (.inr hCl) ?_
    clear hK K'
    refine wpAnyL_each (fuel := 4) [15] (by kernel_rfl) (by simp) (by kernel_rfl) ?_
    refine EachL.cons _ rfl (fun K' hK => ?_) EachL.nil
    go_simp
    have hst := HST1.out
    have hCl : Kl Pr wr.drew _ := Kl.of hst
    refine hK.out (.inr hCl) ?_
    clear hK K'
    refine wpAnyL_each (fuel := 3) [16] (by kernel_rfl) (by simp) (by kernel_rfl) ?_
    refine EachL.cons _ rfl (fun K' hK => ?_) EachL.nil
    go_simp
    have hst : Pr (v1w.alloc (.cells #[.int .i64 at0, .slice a1 dt.length c1] 92)) := (hPr _).2 (fun j hj => (Below.heap_alloc v1w _ j (Nat.lt_of_lt_of_le hj (Nat.le_trans HP.out.2.2.1 HO1.out.2.size))).trans ((hPr _).1 HST1.out j hj))
    have HST2 := Lib.hid hst
    have hCl : Kl Pr wr.drew _ := Kl.of hst
    refine hK.out (.inr hCl) ?_
    clear hK K'
    refine wpAnyL_each (fuel := 2) [17] (by kernel_rfl) (by simp) (by kernel_rfl) ?_
    refine EachL.cons _ rfl (fun K' hK => ?_) EachL.nil
    refine if_yes (by kernel_rfl) ?_
    obtain ⟨hra, hrb⟩ := row_write1 (T2 := 92) HP.out.2.2.2.2.2.2.1 HP.out.2.2.2.2.2.2.2.2.2 (w0 := wr.drew) rfl HO1.out.2 HO1.out.1.bytes (Nat.le_trans (Nat.le_refl _) HP.out.2.2.1) HP.out.2.2.2.2.2.2.2.2.1
    refine wp_appR rWrite_ck (.tmp 32) (.tmp 47) 23 rfl 92 (.agg #[.int .i64 0, .slice none 0 0]) 32 Try.underlying23 (by kernel_rfl) rfl (by decide) wm.heap.size wm.heap.size (boxS w.heap.size 3) _ kl [(⟨at0, dt⟩ : WrL)] rfl hra (fun k hk => HP.out.2.2.2.2.2.2.2.2.2 k (Nat.le_trans HO1.out.2.size (Nat.le_trans (by rw [World.size_alloc]; exact Nat.le_succ _) hk))) ⟨v1w.heap.size, 0, none⟩ 1 [.int .i64 at0, .slice a1 dt.length c1] rfl rfl (news_one #[.int .i64 at0, .slice a1 dt.length c1] 92) (by intro u hu; simp at hu; rcases hu with rfl | rfl <;> rfl) hrb (by show kl.length + 1 ≤ 1000000; omega) (by decide) (Nat.le_trans HP.out.2.2.1 (Nat.le_trans HO1.out.2.size (by rw [World.size_alloc]; exact Nat.le_succ _))) ?_
    intro a4 c4 z2 hown4 hB4 _hf4
    have hst : Pr z2 := (hPr _).2 (fun j hj => (hB4.block j hj).trans ((hPr _).1 HST2.out j hj))
    rw [show (kl ++ [((⟨at0, dt⟩ : WrL))]).length = kl.length + 1 by simp] at hown4 ⊢
    have k5 := ((hPr _).1 hst (w.heap.size + 2) (by have := HWS.out; omega)).trans HP.out.1
    have j1 := blk_cell k5 1
    have jf := blk_frozen k5 1
    simp at j1
    have HO := Lib.hid (And.intro hown4 (And.intro hB4 (And.intro HO1.out.2 k5)))
    clear hown4 hB4 k5 hra hrb _hf4
    have hCl : Kl Pr wr.drew _ := Kl.of hst
    refine hK.out (.inr hCl) ?_
    clear hK K'
    refine wpAnyL_seg (fuel := 1) (by kernel_rfl) (fun _ d _ _ _ h => by cases d <;> exact h) hCl [18] _ _ _ (by kernel_rfl) (by kernel_rfl) (by kernel_rfl) (by kernel_rfl) ?_
    simp only [opsOf_cons, opsOf_nil, consOp_some, List.getElem?_toArray, List.getElem?_cons_succ, List.getElem?_cons_zero]
    repeat (first | go_big_quiet_step (fail) | quiet_step (fail))
    refine wpQuiet_nil ?_
    refine wpAnyL_each (fuel := 0) [19] (by kernel_rfl) (by simp) (by kernel_rfl) ?_
    refine EachL.cons _ rfl (fun K' hK => ?_) EachL.nil
    go_simp
    refine hK.out (.inl rfl) ?_
    clear hK K'
    refine wpAnyL_done (by kernel_rfl) ?_ _
    go_wp2
    go_roundw
    case rel =>
      obtain ⟨hown4, hB4, hb1, k5⟩ := HO.out
      obtain ⟨q5, hsame, hsz, hBw, hkt, hkl, hown, e3r, e1, hS0⟩ := HP.out
      have hs := set_other z2 (w.heap.size + 2) 1 (.slice a4 (kl.length + 1) c4)
      have hst2 := (hPr _).1 hst
      have hl : (kl ++ [(⟨at0, dt⟩ : WrL)]).length = kl.length + 1 := by simp
      refine ⟨k + 1, a4, c4, by omega, by go_num, ?_, ?_, fun j h1 h2 => (hs j h2).trans ((hst2 j h1).trans (hsame j h1 h2)), ?_, ?_⟩
      · rw [hkt, hl]
        exact set_block k5 1 _
      · rw [hkt, hl]
        exact hown4.setS rWrite_ck ⟨w.heap.size + 2, 1, none⟩ _ (boxS_yes (by show w.heap.size ≤ w.heap.size + 2; omega) (by show w.heap.size + 2 < w.heap.size + 3; omega))
      · rw [World.size_setCell]
        exact Nat.le_trans hsz (Nat.le_trans hb1.size (Nat.le_trans (by rw [World.size_alloc]; exact Nat.le_succ _) hB4.size))
      · exact (((hBw.drew.trans (hb1.mono hBw.size)).alloc (Nat.le_trans hBw.size hb1.size) _).trans (hB4.mono (by omega))).setCell (p := ⟨w.heap.size + 2, 1, none⟩) (by show w.heap.size ≤ w.heap.size + 2; omega) _
    case measure => simp [intOf]; omega
  obtain rfl : k = d.waits.length := by omega
  rw [List.take_length] at hkl
  subst hkl
  have hwl := hown.sl rWrite_ck (lo' := wm.heap.size) (Nat.le_refl _) (Nat.le_refl _)
  have q1 := (hsame (w.heap.size + 1) (by omega) (by omega)).trans HM.out.2.2.1
  have hbl : Sl rBytes wr W.heap.size wm.heap.size (.slice a5 d.blocks.length c5) d.blocks := HM.out.2.2.2.1.keep fun b o h1 h2 => ⟨heap_cell (hsame b h2 (by have := HWS.out; omega)) o, heap_frozen (hsame b h2 (by have := HWS.out; omega)) o⟩
  have r0 := blk_cell q1 0
  have r1 := blk_cell q1 1
  have f0 := blk_frozen q1 0
  have f1 := blk_frozen q1 1
  simp at r0 r1
  have hWs := HWS.out
  have HZ := Lib.hid (And.intro hbl (And.intro hwl (And.intro hsz hBw)))
  clear q5 hown hsame hsz hBw qd q1 hbl hwl hlt hk
  go_wp2
  refine bodyPost_ret (v := .agg #[.slice a5 d.blocks.length c5, .slice a6 d.waits.length c6]) (by simp [results, Try.results34, go_sem, r0, r1]) rfl ?_
  obtain ⟨hbl, hwl, hsz, hBw⟩ := HZ.out
  have hk2 : ∀ lo hi, w.heap.size + 3 ≤ lo → Kp lo hi wr ((wr.setCell ⟨w.heap.size + 1, 0, none⟩ (.slice a5 d.blocks.length c5)).setCell ⟨w.heap.size + 1, 1, none⟩ (.slice a6 d.waits.length c6)) := fun lo hi h => kp_two wr _ _ 1 (by omega)
  refine ⟨_, _, rfl, ⟨⟨(hbl.keep (hk2 _ _ (by omega))).more (by omega) (by rw [World.size_setCell, World.size_setCell]; exact hsz), (hwl.keep (hk2 _ _ (by omega))).more (by omega) (by rw [World.size_setCell, World.size_setCell]; exact Nat.le_refl _)⟩, ?_⟩⟩
  exact (hBw.setCell (p := ⟨w.heap.size + 1, 0, none⟩) (Nat.le_succ _) _).setCell (p := ⟨w.heap.size + 1, 1, none⟩) (Nat.le_succ _) _
end Go.Proofs.Ytkfgegdnpinbdaa

namespace Go.Proofs.Ytkfgegdnpinbdaa
open Go.RowKit

set_option maxHeartbeats 1000000 in
/-- slices.Clone. -/
theorem clone_any (v : Value) (l : List UInt8) (w : World) (hI : Bytes w 0 w.heap.size v l) (hl : l.length ≤ 1000000) :
    Calls Try.prog 101 #[v] w fun e w' => ∃ u, e = .returned u ∧ MadeB w w' u l := by
  obtain ⟨a, c, rfl, g1, g2, g3, g4⟩ := id hI
  have hnil := fun (w : World) (a : Option Addr) (n c n' c' : Nat) => Lib.run_eql_slice_nil (P := Try.prog) w 26 5 a n c n' c' Try.underlying26
  cases a with
  | none =>
    have hc := g4 rfl
    subst hc
    have h0 : l = [] := List.eq_nil_of_length_eq_zero (by omega)
    subst h0
    go_enter Try.func101, Try.ntmps101
    go_wp2
    go_ret
    exact ⟨_, rfl, MadeB.nil_ (Below.refl _ _)⟩
  | some ad =>
    clear g3 g4
    have hown : OwnB w.heap.size 5 (w.alloc (.cells #[] 5)) (.slice (some ⟨w.heap.size, 0, none⟩) 0 0) [] := ⟨by simp, .inr ⟨w.heap.size, 0, #[], rfl, Nat.le_refl _, World.alloc_heap_new w _, Nat.le_refl _, Nat.zero_le _, rfl, rfl⟩⟩
    have hb0 := (Below.refl w.heap.size w).alloc (Nat.le_refl _) (.cells #[] 5)
    have hI1 := hI.step hb0
    go_enter Try.func101, Try.ntmps101
    go_wp2_with (at_builtin; refine wpList_appB rfl _ _ 26 rfl w.heap.size 5 Try.underlying26 info_u8 _ [] rfl hown _ _ _ l rfl hI1 (by simp; omega) (by simp) ?_; intro u w1 hown1 hB1)
    go_ret
    exact ⟨_, rfl, hown1.made (hb0.trans hB1)⟩

end Go.Proofs.Ytkfgegdnpinbdaa

