/- RingFinds: the words and contracts, part 10. -/
import Derived.Test.YtcibihakjcenaaaRingFindsQ1
import Derived.Test.YtcibihakjcenaaaRingFindsQ2
import Derived.Test.YtcibihakjcenaaaRingFindsQ3
import Derived.Test.YtcibihakjcenaaaRingFindsQ4
import Derived.Test.YtcibihakjcenaaaRingFindsQ5
import Derived.Test.YtcibihakjcenaaaRingFindsQ6
import Derived.Test.YtcibihakjcenaaaRingFindsQ7
import Derived.Test.YtcibihakjcenaaaRingFindsQ8
import Derived.Test.YtcibihakjcenaaaRingFindsQ9
import Derived.WalkKit
import Derived.WalkLawsBesides
import Derived.WalkSpells
import Derived.Lib.Hide
import Derived.Laws.Rows
import Derived.Laws.AppendOwnNone
import Derived.Maps.AppendAt
import Derived.RangeFuncNested
import Derived.RangeFuncBound
import Derived.RangeFuncCalls
import Derived.RangeFuncLeaves
import Derived.RangeFuncBox
import Derived.Shelf.Abstract
import Derived.Shelf.RegionOpen
import Derived.OwnWalkIn
import Derived.TacticsInMore
import Derived.LoopNIn
import Derived.LoopIn
import Derived.ProofKit
import Derived.Deep.Slices
import Derived.WideShapes
import Derived.OrdersHeld
import Derived.Deep.QuietTactic
import Derived.BigQuiet
import Derived.StillTailTactics
import Derived.OpenShut
import Derived.Lib.SliceRun
import Derived.Lib.AppendZerosOnto
import Derived.Lib.Walk
import Derived.Deep.LoopGhost
import Derived.Laws.CopyOwn
import Derived.Deep.DeepCutAuto
import Derived.Laws.CopyRow
import Derived.Laws.MakeOwn
import Derived.Deep.RegionHeld
import Derived.KernelRfl
namespace Go.Proofs.Ytcibihakjcenaaa
open Go.RowKit

/-- The cells of some writes. -/
def wcells (bs : List (Int × Value)) : List Value := bs.flatMap fun x => [.int .i64 x.1, x.2]
theorem wcells_length (bs : List (Int × Value)) : (wcells bs).length = bs.length * 2 := by
  induction bs with
  | nil => rfl
  | cons x l ih =>
    show ([Value.int .i64 x.1, x.2] ++ wcells l).length = _
    rw [List.length_append, ih]
    simp
    omega
theorem wcells_get (bs : List (Int × Value)) (i : Nat) (x : Int × Value) (h : bs[i]? = some x) : (wcells bs)[i * 2]? = some (.int .i64 x.1) ∧ (wcells bs)[i * 2 + 1]? = some x.2 := by
  induction bs generalizing i with
  | nil => simp at h
  | cons y l ih =>
    cases i with
    | zero => simp at h; subst h; exact ⟨rfl, rfl⟩
    | succ i =>
      obtain ⟨h1, h2⟩ := ih i (by simpa using h)
      have e : wcells (y :: l) = .int .i64 y.1 :: y.2 :: wcells l := rfl
      rw [e, show (i + 1) * 2 = i * 2 + 1 + 1 by omega, show i * 2 + 1 + 1 + 1 = (i * 2 + 1) + 1 + 1 by omega, List.getElem?_cons_succ, List.getElem?_cons_succ, List.getElem?_cons_succ, List.getElem?_cons_succ]
      exact ⟨h1, h2⟩
theorem wcells_inv (bs : List (Int × Value)) (j : Nat) (u : Value) (h : (wcells bs)[j]? = some u) : ∃ i x, bs[i]? = some x ∧ ((j = i * 2 ∧ u = .int .i64 x.1) ∨ (j = i * 2 + 1 ∧ u = x.2)) := by
  have hj : j < bs.length * 2 := by rw [← wcells_length]; exact (List.getElem?_eq_some_iff.1 h).1
  have hi : j / 2 < bs.length := by omega
  refine ⟨j / 2, bs[j / 2], by simp [hi], ?_⟩
  obtain ⟨h1, h2⟩ := wcells_get bs (j / 2) bs[j / 2] (by simp [hi])
  rcases Nat.mod_two_eq_zero_or_one j with e | e
  · left
    have e2 : j = j / 2 * 2 := by omega
    rw [e2] at h
    exact ⟨e2, Option.some.inj (h.symm.trans h1)⟩
  · right
    have e2 : j = j / 2 * 2 + 1 := by omega
    rw [e2] at h
    exact ⟨e2, Option.some.inj (h.symm.trans h2)⟩

/-- Writes that may be appended: their cells are there; their bytes lie in W. -/
def SrcW (W w : World) (sv : Value) (l : List WrL) : Prop := ∃ a c, sv = .slice a l.length c ∧ (a = none → c = 0 ∧ l = []) ∧
  ∃ bs : List (Int × Value), bs.length = l.length ∧ (∀ (i : Nat) (x : WrL), l[i]? = some x → ∃ y : Value, bs[i]? = some (x.at_, y) ∧ (Lit.int .i64 x.at_).wf = true ∧ Bytes W 0 W.heap.size y x.data) ∧
    ∀ ad, a = some ad → ∀ j u, (wcells bs)[j]? = some u → w.cell? (ad.add j) = some u
theorem SrcW.of {W w : World} {sv : Value} {l : List WrL} (h : Sl rWrite W 0 W.heap.size sv l) (hB : Below W.heap.size W w) : SrcW W w sv l := by
  obtain ⟨a, c, rfl, h1, h2, h3, h4⟩ := id h
  refine ⟨a, c, rfl, fun e => ⟨h4 e, List.eq_nil_of_length_eq_zero (by have := h4 e; omega)⟩, ?_⟩
  obtain ⟨bs, hbl, hba⟩ := list_of (n := l.length) (p := fun i (x : Int × Value) => x.1 = (l.getD i ⟨0, []⟩).at_ ∧ (Lit.int .i64 x.1).wf = true ∧ Bytes W 0 W.heap.size x.2 (l.getD i ⟨0, []⟩).data ∧ ∀ ad, a = some ad → W.cell? (ad.add (i * 2)) = some (.int .i64 x.1) ∧ W.cell? (ad.add (i * 2 + 1)) = some x.2 ∧ ad.block < W.heap.size ∧ ad.spot = none) (fun i hi => by
    obtain ⟨b, off, rfl, hlo, hhi, hc⟩ := h3 (by omega)
    obtain ⟨f0, f1, v, f2, f3⟩ := hc i _ (get_l l ⟨0, []⟩ i hi)
    refine ⟨((l.getD i ⟨0, []⟩).at_, v), rfl, f1, f3, fun ad e => ?_⟩
    cases e
    have e2 : ∀ j, (⟨b, off, none⟩ : Addr).add j = ⟨b, off + j, none⟩ := fun j => by unfold Addr.add; split <;> simp_all
    rw [e2, e2]
    exact ⟨f0, f2, hhi, rfl⟩)
  refine ⟨bs, hbl, fun i x hx => ?_, fun ad e j u hj => ?_⟩
  · have hi : i < l.length := (List.getElem?_eq_some_iff.1 hx).1
    have hb : bs[i]? = some (bs[i]'(by omega)) := by simp
    obtain ⟨p1, p2, p3, -⟩ := hba i _ hb
    rw [get_l l ⟨0, []⟩ i hi] at hx
    cases hx
    refine ⟨(bs[i]'(by omega)).2, ?_, by rw [← p1]; exact p2, p3⟩
    rw [hb, ← p1]
  · obtain ⟨i, x, hx, hh⟩ := wcells_inv bs j u hj
    obtain ⟨-, -, -, p4⟩ := hba i x hx
    obtain ⟨q1, q2, q3, q4⟩ := p4 ad e
    have hk : ∀ k, w.cell? (ad.add k) = W.cell? (ad.add k) := fun k => by
      obtain ⟨bb, oo, ss⟩ := ad
      simp only at q3 q4
      subst q4
      have e2 : (⟨bb, oo, none⟩ : Addr).add k = ⟨bb, oo + k, none⟩ := by unfold Addr.add; split <;> simp_all
      rw [e2]
      exact hB.cell (p := ⟨bb, oo + k, none⟩) q3
    rcases hh with ⟨rfl, rfl⟩ | ⟨rfl, rfl⟩
    · rw [hk]; exact q1
    · rw [hk]; exact q2
theorem SrcW.one {W w : World} {p : Int} {y : Value} {l : List UInt8} (hp : (Lit.int .i64 p).wf = true) (hy : Bytes W 0 W.heap.size y l) : SrcW W (w.alloc (.cells #[.int .i64 p, y] 143)) (.slice (some ⟨w.heap.size, 0, none⟩) 1 1) [⟨p, l⟩] := by
  refine ⟨_, _, rfl, fun h => (by cases h), [(p, y)], rfl, fun i x hx => ?_, fun ad e j u hj => ?_⟩
  · cases i with
    | zero => cases hx; exact ⟨y, rfl, hp, hy⟩
    | succ i => simp at hx
  · cases e
    have hn := World.alloc_heap_new w (.cells #[.int .i64 p, y] 143)
    rcases j with _ | _ | j'
    · cases hj; exact blk_cell hn 0
    · cases hj; exact blk_cell hn 1
    · simp [wcells] at hj

theorem wpList_appW {w : World} {ops : Array Oper} {rest : List Oper} {o : Oper} {a : Act} {Q : Exit → Act → World → Prop} (hgd : o.guard = none) (s x : Operand)
    (ho : o.op = .call { callee := .builtin .append, args := #[s, x], argTypes := #[42, 42] }) (base : Nat) (W : World) (v sv : Value) (l l2 : List WrL) (hs : a.eval s = v) (hx : a.eval x = sv)
    (hown : OwnW base W w v l) (hsrc : SrcW W w sv l2) (hlen : l.length + l2.length ≤ 100000) (hbase : base ≤ w.heap.size)
    (h : ∀ ad cc w', OwnW base W w' (.slice ad (l ++ l2).length cc) (l ++ l2) → Below base w w' → wpList Try.prog ops Q rest (a.put o.dst (.slice ad (l ++ l2).length cc)) w') : wpList Try.prog ops Q (o :: rest) a w := by
  obtain ⟨i0, hi0, hz0, hz1, hz2⟩ := info_parts (P := Try.prog) (e := 143) (z := .agg #[.int .i64 0, .slice none 0 0]) (size := 2) (bytes := 32) (by kernel_rfl)
  obtain ⟨xs, hrow, hxs⟩ := hown
  obtain ⟨ad, c, rfl, hn, bs, hbl, hba, hcl⟩ := hsrc
  have hform : ∀ {v : Value} {n : Nat} {ys : List Value} {w : World}, w.ownsRow base 143 2 v n ys → ∃ ad cc, v = .slice ad n cc := fun h => by
    rcases h.2 with ⟨rfl, h0⟩ | ⟨g, cap, cur, rfl, -⟩
    · exact ⟨none, 0, by rw [h0]⟩
    · exact ⟨_, _, rfl⟩
  rcases ad with _ | ad
  · obtain ⟨rfl, rfl⟩ := hn rfl
    obtain ⟨ad, cc, rfl⟩ := hform hrow
    refine wpList_append_own_none hgd s x 42 ho base 143 i0 2 Try.underlying42 hi0 _ _ _ hs hrow hx ?_
    have := h ad cc w (by rw [List.append_nil]; exact ⟨xs, hrow, hxs⟩) ((Below.refl _ w).mono hbase)
    rw [List.append_nil] at this
    exact this
  · have hone : ∀ u ∈ wcells bs, u.oneCell' = true := by
      intro u hu
      obtain ⟨j, hj⟩ := List.mem_iff_getElem?.1 hu
      obtain ⟨i, x, hxx, hh⟩ := wcells_inv bs j u hj
      have hi : i < l2.length := by rw [← hbl]; exact (List.getElem?_eq_some_iff.1 hxx).1
      obtain ⟨y, hy1, hy2, hy3⟩ := hba i _ (get_l l2 ⟨0, []⟩ i hi)
      rw [hy1] at hxx
      cases hxx
      rcases hh with ⟨-, rfl⟩ | ⟨-, rfl⟩
      · rfl
      · obtain ⟨a2, c2, rfl, -⟩ := hy3; rfl
    refine wpList_append_own w hgd s x 42 ho base 143 i0 _ 2 32 Try.underlying42 hi0 hz0 hz1 hz2 rfl (by decide) v l.length xs hs hrow ad l2.length c (wcells bs) hx (by rw [wcells_length, hbl]) (hcl ad rfl) hone (by unfold maxLen; omega) (by omega) hbase ?_
    intro v' w' hown' hg' _
    obtain ⟨ad', cc', rfl⟩ := hform hown'
    have hB' : Below base w w' := ((Below.refl w.heap.size w).mono hbase).grown hg' hbase (own_block hrow)
    have := h ad' cc' w' ⟨xs ++ wcells bs, by rw [List.length_append]; exact hown', fun j y hj => ?_⟩ hB'
    · rw [List.length_append] at this
      exact this
    · have hxl := hrow.1
      rcases Nat.lt_or_ge j l.length with hjl | hjl
      · rw [List.getElem?_append_left hjl] at hj
        obtain ⟨⟨p1, p2⟩, z, p3, p4⟩ := hxs j y hj
        exact ⟨⟨by rw [List.getElem?_append_left (by omega)]; exact p1, p2⟩, z, by rw [List.getElem?_append_left (by omega)]; exact p3, p4⟩
      · rw [List.getElem?_append_right hjl] at hj
        obtain ⟨z, p1, p2, p3⟩ := hba _ y hj
        obtain ⟨q1, q2⟩ := wcells_get bs _ _ p1
        refine ⟨⟨?_, p2⟩, z, ?_, p3⟩
        · rw [List.getElem?_append_right (by omega), hxl, show j * 2 - l.length * 2 = (j - l.length) * 2 by omega]; exact q1
        · rw [List.getElem?_append_right (by omega), hxl, show j * 2 + 1 - l.length * 2 = (j - l.length) * 2 + 1 by omega]; exact q2

theorem OwnW.same {base : Nat} {W w w' : World} {v : Value} {l : List WrL} (h : OwnW base W w v l) (hs : ∀ k, base ≤ k → ∀ o, w.heap[k]? = some o → w'.heap[k]? = some o) : OwnW base W w' v l := by
  obtain ⟨xs, ⟨hl, hrow⟩, hx⟩ := h
  refine ⟨xs, ⟨hl, ?_⟩, hx⟩
  rcases hrow with h | ⟨g, cap, cur, e, hg, hh, h1, h2, h3, h4⟩
  · exact .inl h
  · exact .inr ⟨g, cap, cur, e, hg, hs g hg _ hh, h1, h2, h3, h4⟩
theorem OwnW.set {base : Nat} {W w : World} {v : Value} {l : List WrL} (h : OwnW base W w v l) (r o : Nat) (u : Value) (hr : r < base) : OwnW base W (w.setCell ⟨r, o, none⟩ u) v l :=
  h.same fun k hk _ hx => (set_other w r o u k (by omega)).trans hx
theorem OwnW.alloc {base : Nat} {W w : World} {v : Value} {l : List WrL} (h : OwnW base W w v l) (o : Obj) : OwnW base W (w.alloc o) v l :=
  h.same fun k _ _ hx => (Below.heap_alloc w o k (Array.getElem?_eq_some_iff.1 hx).1).trans hx

/-- What a call answered: a disk; nothing that was there has turned. -/
structure GotD (w w' : World) (b u : Value) (d : DiskL) : Prop where
  disk : DiskV w' 0 w'.heap.size b u d
  below : Below w.heap.size w w'
/-- A disk whose data lies below hi, or in what was made from w on. -/
structure GotK (hi : Nat) (w w' : World) (b u : Value) (d : DiskL) : Prop where
  disk : ∀ W : World, w'.heap.size ≤ W.heap.size → (∀ k, k < hi ∨ w.heap.size ≤ k → k < w'.heap.size → W.heap[k]? = w'.heap[k]?) → DiskV W 0 W.heap.size b u d
  below : Below w.heap.size w w'
theorem GotK.got {hi : Nat} {w w' : World} {b u : Value} {d : DiskL} (h : GotK hi w w' b u d) : GotD w w' b u d := ⟨h.disk w' (Nat.le_refl _) (fun _ _ _ => rfl), h.below⟩

end Go.Proofs.Ytcibihakjcenaaa

namespace Go.Proofs.Ytcibihakjcenaaa
open Go.RowKit

theorem GotD.nil_ {w w' : World} (h : Below w.heap.size w w') : GotD w w' (.slice none 0 0) (.slice none 0 0) ⟨[], []⟩ := ⟨DiskV.nil_ _ _ _, h⟩

theorem GotK.nil_ {hi : Nat} {w w' : World} (h : Below w.heap.size w w') : GotK hi w w' (.slice none 0 0) (.slice none 0 0) ⟨[], []⟩ := ⟨fun _ _ _ => ⟨Sl.nil_ _ _ _, Sl.nil_ _ _ _⟩, h⟩
end Go.Proofs.Ytcibihakjcenaaa

namespace Go.Proofs.Ytcibihakjcenaaa
open Go.RowKit

theorem OwnW.src {base : Nat} {W w : World} {v : Value} {l : List WrL} (h : OwnW base W w v l) : SrcW W w v l := by
  obtain ⟨xs, ⟨hl, hrow⟩, hx⟩ := h
  obtain ⟨bs, hbl, hba⟩ := list_of (n := l.length) (p := fun i (b : Int × Value) => b.1 = (l.getD i ⟨0, []⟩).at_ ∧ (Lit.int .i64 b.1).wf = true ∧ Bytes W 0 W.heap.size b.2 (l.getD i ⟨0, []⟩).data ∧ xs[i * 2]? = some (.int .i64 b.1) ∧ xs[i * 2 + 1]? = some b.2) (fun i hi => by
    obtain ⟨⟨p1, p2⟩, y, p3, p4⟩ := hx i _ (get_l l ⟨0, []⟩ i hi)
    exact ⟨((l.getD i ⟨0, []⟩).at_, y), rfl, p2, p4, p1, p3⟩)
  have hba2 : ∀ (i : Nat) (x : WrL), l[i]? = some x → ∃ y : Value, bs[i]? = some (x.at_, y) ∧ (Lit.int .i64 x.at_).wf = true ∧ Bytes W 0 W.heap.size y x.data := fun i x hxi => by
    have hi : i < l.length := (List.getElem?_eq_some_iff.1 hxi).1
    have hb : bs[i]? = some (bs[i]'(by omega)) := by simp
    obtain ⟨p1, p2, p3, -, -⟩ := hba i _ hb
    rw [get_l l ⟨0, []⟩ i hi] at hxi
    cases hxi
    exact ⟨(bs[i]'(by omega)).2, by rw [hb, ← p1], by rw [← p1]; exact p2, p3⟩
  rcases hrow with ⟨rfl, h0⟩ | ⟨g, cap, cur, rfl, hg, hh, h1, h2, h3, h4⟩
  · have e : l = [] := List.eq_nil_of_length_eq_zero (by omega)
    exact ⟨none, 0, by rw [e]; rfl, fun _ => ⟨rfl, e⟩, bs, hbl, hba2, fun ad e => by cases e⟩
  · refine ⟨_, _, rfl, fun e => (by cases e), bs, hbl, hba2, fun ad e j u hj => ?_⟩
    cases e
    have e2 : (⟨g, 0, none⟩ : Addr).add j = ⟨g, j, none⟩ := by unfold Addr.add; split <;> simp_all
    obtain ⟨i, x, hxi, hh2⟩ := wcells_inv bs j u hj
    obtain ⟨-, -, -, q1, q2⟩ := hba i x hxi
    have hxj : xs[j]? = some u := by
      rcases hh2 with ⟨rfl, rfl⟩ | ⟨rfl, rfl⟩
      · exact q1
      · exact q2
    rw [e2, blk_cell hh, ← hxj, ← h4, List.getElem?_take, if_pos]
    · simp
    · have := (List.getElem?_eq_some_iff.1 hxj).1
      rw [hl] at this
      exact this
theorem SrcW.to {W W2 w : World} {sv : Value} {l : List WrL} (h : SrcW W w sv l) (hk : ∀ v x, Bytes W 0 W.heap.size v x → Bytes W2 0 W2.heap.size v x) : SrcW W2 w sv l := by
  obtain ⟨a, c, e, hn, bs, hbl, hba, hcl⟩ := h
  exact ⟨a, c, e, hn, bs, hbl, fun i x hx => by obtain ⟨y, p1, p2, p3⟩ := hba i x hx; exact ⟨y, p1, p2, hk _ _ p3⟩, hcl⟩

end Go.Proofs.Ytcibihakjcenaaa

namespace Go.Proofs.Ytcibihakjcenaaa
open Go.RowKit

/-- One element more: the row behind the making of its bytes, and what is appended. -/
theorem row_bytes1 {base : Nat} {T : TypeId} {lo : Nat} {S : Nat → Bool} {wr w0 z : World} {v u : Value} {kl : List (List UInt8)} {x : List UInt8} (h : OwnR rBytes base T lo S wr v kl) (hS : ∀ k, wr.heap.size ≤ k → S k = false) (h0 : w0.heap = wr.heap)
    (hB : Below w0.heap.size w0 z) (hb : Bytes z w0.heap.size z.heap.size u x) (hlo : lo ≤ wr.heap.size) (T2 : TypeId) :
    OwnR rBytes base T lo S (z.alloc (.cells #[u] T2)) v kl ∧ ∀ j y, [x][j]? = some y → rBytes.R (hideW (z.alloc (.cells #[u] T2)) (andOwn S v)) lo (z.alloc (.cells #[u] T2)).heap.size y (fun i => [u][j * rBytes.n + i]?) := by
  have hs : wr.heap.size = w0.heap.size := by rw [h0]
  refine ⟨(h.to rBytes_ck (by rw [hs]; exact hB.size) (fun k hk _ => (hB.block k (by omega)).trans (by rw [h0]))).alloc rBytes_ck _, fun j y hj => ?_⟩
  cases j with
  | zero =>
    cases hj
    refine ⟨u, rfl, (hb.kept (hideW_kp fun k h1 h2 => ⟨andOwn_of (hS k (by omega)) (fun e => ?_), Below.heap_alloc z _ k h2⟩)).more (by omega) (by simp)⟩
    have := (h.lt k e).2
    omega
  | succ j => simp at hj
theorem row_write1 {base : Nat} {T : TypeId} {lo : Nat} {S : Nat → Bool} {wr w0 z : World} {v u : Value} {kl : List WrL} {p : Int} {x : List UInt8} (h : OwnR rWrite base T lo S wr v kl) (hS : ∀ k, wr.heap.size ≤ k → S k = false) (h0 : w0.heap = wr.heap)
    (hB : Below w0.heap.size w0 z) (hb : Bytes z w0.heap.size z.heap.size u x) (hlo : lo ≤ wr.heap.size) (hp : (Lit.int .i64 p).wf = true) (T2 : TypeId) :
    OwnR rWrite base T lo S (z.alloc (.cells #[.int .i64 p, u] T2)) v kl ∧ ∀ j y, [(⟨p, x⟩ : WrL)][j]? = some y → rWrite.R (hideW (z.alloc (.cells #[.int .i64 p, u] T2)) (andOwn S v)) lo (z.alloc (.cells #[.int .i64 p, u] T2)).heap.size y (fun i => [.int .i64 p, u][j * rWrite.n + i]?) := by
  have hs : wr.heap.size = w0.heap.size := by rw [h0]
  refine ⟨(h.to rWrite_ck (by rw [hs]; exact hB.size) (fun k hk _ => (hB.block k (by omega)).trans (by rw [h0]))).alloc rWrite_ck _, fun j y hj => ?_⟩
  cases j with
  | zero =>
    cases hj
    refine ⟨rfl, hp, u, rfl, (hb.kept (hideW_kp fun k h1 h2 => ⟨andOwn_of (hS k (by omega)) (fun e => ?_), Below.heap_alloc z _ k h2⟩)).more (by omega) (by simp)⟩
    have := (h.lt k e).2
    omega
  | succ j => simp at hj
theorem snoc_take {α : Type} (l : List α) (k : Nat) (d : α) (h : k < l.length) : l.take (k + 1) = l.take k ++ [l.getD k d] := by
  rw [List.take_succ_eq_append_getElem h]
  simp [h]
/-- The blocks of a call's own variables. -/
def boxS (lo n : Nat) (k : Nat) : Bool := decide (lo ≤ k) && decide (k < lo + n)
theorem boxS_no {lo n k : Nat} (h : lo + n ≤ k) : boxS lo n k = false := by unfold boxS; simp; omega
theorem boxS_yes {lo n k : Nat} (h1 : lo ≤ k) (h2 : k < lo + n) : boxS lo n k = true := by unfold boxS; simp; omega
theorem dat_len (d : DiskL) (x : List UInt8) (h : x ∈ datD d) : x.length ≤ (datD d).flatten.length := by
  obtain ⟨i, hi, e⟩ := List.mem_iff_getElem.1 h
  have h1 := posD_succ (datD d) i hi
  have h2 := posD_le (datD d) (i + 1)
  have h3 : (datD d).getD i [] = x := by rw [← e]; simp [hi]
  rw [h3] at h1
  omega

set_option maxRecDepth 100000 in
set_option maxHeartbeats 2000000 in
/-- The reference's Twin, of a disk that is not great. -/
theorem rdtwin_any (b u : Value) (d : DiskL) (w : World) (h : DiskV w 0 w.heap.size b u d) (hn1 : d.blocks.length ≤ 100000) (hn2 : d.waits.length ≤ 100000) (hT : (datD d).flatten.length ≤ 100000000) :
    Calls Try.prog 42 #[.agg #[b, u]] w fun e w' => ∃ b' u', e = .returned (.agg #[b', u']) ∧ GotD w w' b' u' d := by
  obtain ⟨ab, cb, rfl, g1, g2, -, -⟩ := h.1
  obtain ⟨au, cu, rfl, g3, g4, -, -⟩ := h.2
  have hB : Below w.heap.size w (((w.alloc (.cells #[.slice ab d.blocks.length cb, .slice au d.waits.length cu] 44)).alloc (.cells #[.slice none 0 0, .slice none 0 0] 44)).alloc (.cells #[.slice none 0 0, .slice none 0 0] 44)) := (((Below.refl w.heap.size w).alloc (Nat.le_refl _) _).alloc (by simp) _).alloc (by simp; omega) _
  have hq := three_new w (.cells #[.slice ab d.blocks.length cb, .slice au d.waits.length cu] 44) (.cells #[.slice none 0 0, .slice none 0 0] 44) (.cells #[.slice none 0 0, .slice none 0 0] 44)
  have hsW : (((w.alloc (.cells #[.slice ab d.blocks.length cb, .slice au d.waits.length cu] 44)).alloc (.cells #[.slice none 0 0, .slice none 0 0] 44)).alloc (.cells #[.slice none 0 0, .slice none 0 0] 44)).heap.size = w.heap.size + 3 := by simp
  have hdl := Lib.hid (fun x hx => Nat.le_trans (dat_len d x hx) hT)
  have HD := Lib.hid h
  unfold maxLen at g2 g4
  clear h hT
  obtain ⟨W, hW⟩ : ∃ W, ((w.alloc (.cells #[.slice ab d.blocks.length cb, .slice au d.waits.length cu] 44)).alloc (.cells #[.slice none 0 0, .slice none 0 0] 44)).alloc (.cells #[.slice none 0 0, .slice none 0 0] 44) = W := ⟨_, rfl⟩
  rw [hW] at hB hq hsW
  have HWS := Lib.hid hsW
  have HQ := Lib.hid (And.intro hB hq)
  have HWE := Lib.hid hW
  clear hB hq hW hsW
  go_enter Try.func42, Try.ntmps42
  go_upto_region 2 with (fail)
  rw [HWE.out]
  clear HWE
  go_wp2_with fail
  go_loopw [4] (fun i wr => ∃ (k : Nat) (a5 : Option Addr) (c5 : Nat), k ≤ d.blocks.length ∧ i = .int .i64 k ∧ wr.heap[w.heap.size + 2]? = some (.cells #[.slice a5 (d.blocks.take k).length c5, .slice none 0 0] 44 (0, 0)) ∧
    OwnR rBytes W.heap.size 26 W.heap.size (boxS w.heap.size 3) wr (.slice a5 (d.blocks.take k).length c5) (d.blocks.take k) ∧ (∀ j, j < W.heap.size → j ≠ w.heap.size + 2 → wr.heap[j]? = W.heap[j]?) ∧ W.heap.size ≤ wr.heap.size ∧ Below w.heap.size w wr) (fun i _ => d.blocks.length - (intOf i).toNat)
  case atStart => exact ⟨0, none, 0, Nat.zero_le _, rfl, HQ.out.2.2.2, OwnR.nil_ _ _ _ _ _ _, fun _ _ _ => rfl, Nat.le_refl _, HQ.out.1⟩
  case round =>
  obtain ⟨k, a5, c5, hk, rfl, q5, hown, hsame, hsz, hBw⟩ := hrel
  have qd := (hsame w.heap.size (by have := HWS.out; omega) (by omega)).trans HQ.out.2.1
  obtain ⟨kl, hkl⟩ : ∃ kl, d.blocks.take k = kl := ⟨_, rfl⟩
  rw [hkl] at q5 hown
  have n0 := blk_cell qd 0
  have n1 := blk_cell qd 1
  have m0 := blk_cell q5 0
  have m1 := blk_cell q5 1
  simp at n0 n1 m0 m1
  by_cases hlt : k < d.blocks.length
  · obtain ⟨bb, bo, cb', e', -, z1, z2, z3, hbe⟩ := HD.out.1.at_ (by omega)
    injection e' with ea _ ec
    subst ea ec
    obtain ⟨x, e2, e3⟩ := hbe k (d.blocks.getD k []) (get_l _ _ _ hlt)
    obtain ⟨ya, yc, rfl, -, hyc⟩ := e3.form rfl
    have hdk := hdl.out (d.blocks.getD k []) (List.mem_append_left _ (List.mem_of_getElem? (get_l _ _ _ hlt)))
    have hkt := snoc_take d.blocks k [] hlt
    obtain ⟨dt, hdt⟩ : ∃ y, d.blocks.getD k [] = y := ⟨_, rfl⟩
    rw [hdt] at e2 e3 hdk hkt
    clear hdt hbe
    simp [rBytes] at e2
    have hkll : (d.blocks.take k).length ≤ 100000 := Nat.le_trans (List.length_take_le _ _) (by omega)
    rw [hkl] at hkt hkll
    unfold maxLen at z3 hyc
    have e2r : wr.cell? ⟨bb, bo + k, none⟩ = some (.slice ya dt.length yc) := (hBw.cell (p := ⟨bb, bo + k, none⟩) z1).trans e2
    have e3r : Bytes wr 0 w.heap.size (.slice ya dt.length yc) dt := e3.below hBw (Nat.le_refl _)
    have z1w : bb < W.heap.size := Nat.lt_of_lt_of_le z1 HQ.out.1.size
    obtain ⟨Pr, hPr⟩ : ∃ Pr : World → Prop, ∀ X, Pr X ↔ ∀ j, j < W.heap.size → X.heap[j]? = wr.heap[j]? := ⟨_, fun _ => Iff.rfl⟩
    have hp0 : Pr wr.drew := (hPr _).2 (fun _ _ => rfl)
    have hS0 : ∀ k, wr.heap.size ≤ k → boxS w.heap.size 3 k = false := fun k hk => boxS_no (by have := HWS.out; omega)
    have x1 := fun X => (blk_cell (((hPr _).1 (selW_pr hp0 X) (w.heap.size + 2) (by have := HWS.out; omega)).trans q5) 0)
    have x2 := fun X => (blk_cell (((hPr _).1 (selW_pr hp0 X) w.heap.size (by have := HWS.out; omega)).trans qd) 0)
    have x3 := fun X => (heap_cell ((hPr _).1 (selW_pr hp0 X) bb z1w) (bo + k)).trans e2r
    simp at x1 x2
    have HP := Lib.hid (And.intro q5 (And.intro hsame (And.intro hsz (And.intro hBw (And.intro hkt (And.intro hkl (And.intro hown (And.intro e3r hS0))))))))
    clear q5 hown hsame hsz hBw hkt hkl e2 e3 e2r e3r hS0 qd
    go_wp2_with fail
    refine wp_region_L (S := Kl Pr wr.drew) 11 (by kernel_rfl) (Kl.of hp0) (fun hCl => ?_)
    refine wpAnyL_seg (fuel := 5) (by kernel_rfl) (fun _ d _ _ _ h => by cases d <;> exact h) hCl [0, 1, 2, 3, 4, 5, 6] _ _ _ (by kernel_rfl) (by kernel_rfl) (by kernel_rfl) (by kernel_rfl) ?_
    simp only [opsOf_cons, opsOf_nil, consOp_some, List.getElem?_toArray, List.getElem?_cons_succ, List.getElem?_cons_zero]
    repeat (first | go_big_quiet_step (fail) | quiet_step (fail))
    refine wpQuiet_nil ?_
    refine wpAnyL_each (fuel := 4) [7] (by kernel_rfl) (by simp) (by kernel_rfl) ?_
    refine EachL.cons _ rfl (fun K' hK => ?_) EachL.nil
    refine if_yes (by kernel_rfl) ?_
    refine wp_appB (.const (.slice none 0 0)) (.tmp 19) 26 rfl 5 Try.underlying26 info_u8 wr.heap.size (.slice none 0 0) [] rfl (OwnB.nil_ _ _ _) 0 w.heap.size (.slice ya dt.length yc) dt rfl HP.out.2.2.2.2.2.2.2.1 (by show 0 + dt.length ≤ _; omega) (Nat.le_refl _) ?_
    intro v1 v1w hown1 hB1 _hf1
    have hst : Pr v1w := (hPr _).2 (fun j hj => hB1.block j (Nat.lt_of_lt_of_le hj HP.out.2.2.1))
    obtain ⟨a1, c1, hv1⟩ := own_form hown1
    rw [List.nil_append] at hv1 hown1
    subst hv1
    have HO1 := Lib.hid (And.intro hown1 hB1)
    have HST1 := Lib.hid hst
    clear hown1 hB1 _hf1
    have hCl : Kl Pr wr.drew _ := Kl.of hst
    refine hK.out (.inr hCl) ?_
    clear hK K'
    refine wpAnyL_each (fuel := 3) [8] (by kernel_rfl) (by simp) (by kernel_rfl) ?_
    refine EachL.cons _ rfl (fun K' hK => ?_) EachL.nil
    go_simp
    have hst : Pr (v1w.alloc (.cells #[.slice a1 dt.length c1] 26)) := (hPr _).2 (fun j hj => (Below.heap_alloc v1w _ j (Nat.lt_of_lt_of_le hj (Nat.le_trans HP.out.2.2.1 HO1.out.2.size))).trans ((hPr _).1 HST1.out j hj))
    have HST2 := Lib.hid hst
    have hCl : Kl Pr wr.drew _ := Kl.of hst
    refine hK.out (.inr hCl) ?_
    clear hK K'
    refine wpAnyL_each (fuel := 2) [9] (by kernel_rfl) (by simp) (by kernel_rfl) ?_
    refine EachL.cons _ rfl (fun K' hK => ?_) EachL.nil
    refine if_yes (by kernel_rfl) ?_
    obtain ⟨hra, hrb⟩ := row_bytes1 (T2 := 26) HP.out.2.2.2.2.2.2.1 HP.out.2.2.2.2.2.2.2.2 (w0 := wr.drew) rfl HO1.out.2 HO1.out.1.bytes (Nat.le_trans (Nat.le_refl _) HP.out.2.2.1) 
    refine wp_appR rBytes_ck (.tmp 14) (.tmp 21) 41 rfl 26 (.slice none 0 0) 24 Try.underlying41 (by kernel_rfl) rfl (by decide) W.heap.size W.heap.size (boxS w.heap.size 3) _ kl [dt] rfl hra (fun k hk => HP.out.2.2.2.2.2.2.2.2 k (Nat.le_trans HO1.out.2.size (Nat.le_trans (by rw [World.size_alloc]; exact Nat.le_succ _) hk))) ⟨v1w.heap.size, 0, none⟩ 1 [.slice a1 dt.length c1] rfl rfl (news_one #[.slice a1 dt.length c1] 26) (by intro u hu; simp at hu; rcases hu with rfl; rfl) hrb (by show kl.length + 1 ≤ 1000000; omega) (by decide) (Nat.le_trans HP.out.2.2.1 (Nat.le_trans HO1.out.2.size (by rw [World.size_alloc]; exact Nat.le_succ _))) ?_
    intro a4 c4 z2 hown4 hB4 _hf4
    have hst : Pr z2 := (hPr _).2 (fun j hj => (hB4.block j hj).trans ((hPr _).1 HST2.out j hj))
    rw [show (kl ++ [(dt)]).length = kl.length + 1 by simp] at hown4 ⊢
    have k5 := ((hPr _).1 hst (w.heap.size + 2) (by have := HWS.out; omega)).trans HP.out.1
    have j1 := blk_cell k5 0
    have jf := blk_frozen k5 0
    simp at j1
    have HO := Lib.hid (And.intro hown4 (And.intro hB4 (And.intro HO1.out.2 k5)))
    clear hown4 hB4 k5 hra hrb _hf4
    have hCl : Kl Pr wr.drew _ := Kl.of hst
    refine hK.out (.inr hCl) ?_
    clear hK K'
    refine wpAnyL_seg (fuel := 1) (by kernel_rfl) (fun _ d _ _ _ h => by cases d <;> exact h) hCl [10] _ _ _ (by kernel_rfl) (by kernel_rfl) (by kernel_rfl) (by kernel_rfl) ?_
    simp only [opsOf_cons, opsOf_nil, consOp_some, List.getElem?_toArray, List.getElem?_cons_succ, List.getElem?_cons_zero]
    repeat (first | go_big_quiet_step (fail) | quiet_step (fail))
    refine wpQuiet_nil ?_
    refine wpAnyL_each (fuel := 0) [11] (by kernel_rfl) (by simp) (by kernel_rfl) ?_
    refine EachL.cons _ rfl (fun K' hK => ?_) EachL.nil
    go_simp
    refine hK.out (.inl rfl) ?_
    clear hK K'
    refine wpAnyL_done (by kernel_rfl) ?_ _
    go_wp2
    go_roundw
    case rel =>
      obtain ⟨hown4, hB4, hb1, k5⟩ := HO.out
      obtain ⟨q5, hsame, hsz, hBw, hkt, hkl, hown, e3r, hS0⟩ := HP.out
      have hs := set_other z2 (w.heap.size + 2) 0 (.slice a4 (kl.length + 1) c4)
      have hst2 := (hPr _).1 hst
      have hl : (kl ++ [dt]).length = kl.length + 1 := by simp
      refine ⟨k + 1, a4, c4, by omega, by go_num, ?_, ?_, fun j h1 h2 => (hs j h2).trans ((hst2 j h1).trans (hsame j h1 h2)), ?_, ?_⟩
      · rw [hkt, hl]
        exact set_block k5 0 _
      · rw [hkt, hl]
        exact hown4.setS rBytes_ck ⟨w.heap.size + 2, 0, none⟩ _ (boxS_yes (by show w.heap.size ≤ w.heap.size + 2; omega) (by show w.heap.size + 2 < w.heap.size + 3; omega))
      · rw [World.size_setCell]
        exact Nat.le_trans hsz (Nat.le_trans hb1.size (Nat.le_trans (by rw [World.size_alloc]; exact Nat.le_succ _) hB4.size))
      · exact (((hBw.drew.trans (hb1.mono hBw.size)).alloc (Nat.le_trans hBw.size hb1.size) _).trans (hB4.mono HQ.out.1.size)).setCell (p := ⟨w.heap.size + 2, 0, none⟩) (by show w.heap.size ≤ w.heap.size + 2; omega) _
    case measure => simp [intOf]; omega
  obtain rfl : k = d.blocks.length := by omega
  rw [List.take_length] at hkl
  subst hkl
  have hbl := hown.sl rBytes_ck (lo' := W.heap.size) (Nat.le_refl _) (Nat.le_refl _)
  obtain ⟨wm, hwm⟩ : ∃ wm, wm = wr := ⟨_, rfl⟩
  subst hwm
  have q1 := (hsame (w.heap.size + 1) (by have := HWS.out; omega) (by omega)).trans HQ.out.2.2.1
  have HM := Lib.hid (And.intro q5 (And.intro qd (And.intro q1 (And.intro hbl (And.intro hsz hBw)))))
  clear q5 qd q1 hbl hsz hBw hown hsame hk hlt n1
  go_wp2_with fail
  go_loopw [5] (fun i wr => ∃ (k : Nat) (a6 : Option Addr) (c6 : Nat), k ≤ d.waits.length ∧ i = .int .i64 k ∧ wr.heap[w.heap.size + 2]? = some (.cells #[.slice a5 d.blocks.length c5, .slice a6 (d.waits.take k).length c6] 44 (0, 0)) ∧
    OwnR rWrite wm.heap.size 143 wm.heap.size (boxS w.heap.size 3) wr (.slice a6 (d.waits.take k).length c6) (d.waits.take k) ∧ (∀ j, j < wm.heap.size → j ≠ w.heap.size + 2 → wr.heap[j]? = wm.heap[j]?) ∧ wm.heap.size ≤ wr.heap.size ∧ Below w.heap.size w wr) (fun i _ => d.waits.length - (intOf i).toNat)
  case atStart => exact ⟨0, none, 0, Nat.zero_le _, rfl, HM.out.1, OwnR.nil_ _ _ _ _ _ _, fun _ _ _ => rfl, Nat.le_refl _, HM.out.2.2.2.2.2⟩
  case round =>
  obtain ⟨k, a6, c6, hk, rfl, q5, hown, hsame, hsz, hBw⟩ := hrel
  clear m0 m1 n0
  have hwmS : w.heap.size + 3 ≤ wm.heap.size := by have := HWS.out; have := HM.out.2.2.2.2.1; omega
  have qd := (hsame w.heap.size (by omega) (by omega)).trans HM.out.2.1
  obtain ⟨kl, hkl⟩ : ∃ kl, d.waits.take k = kl := ⟨_, rfl⟩
  rw [hkl] at q5 hown
  have n0 := blk_cell qd 0
  have n1 := blk_cell qd 1
  have m0 := blk_cell q5 0
  have m1 := blk_cell q5 1
  simp at n0 n1 m0 m1
  by_cases hlt : k < d.waits.length
  · obtain ⟨bb, bo, cb', e', -, z1, z2, z3, hbe⟩ := HD.out.2.at_ (by omega)
    injection e' with ea _ ec
    subst ea ec
    obtain ⟨e0, e1, x, e2, e3⟩ := hbe k (d.waits.getD k ⟨0, []⟩) (get_l _ _ _ hlt)
    obtain ⟨ya, yc, rfl, -, hyc⟩ := e3.form rfl
    have hdk := hdl.out (d.waits.getD k ⟨0, []⟩).data (List.mem_append_right _ (List.mem_map_of_mem (List.mem_of_getElem? (get_l _ _ _ hlt))))
    have hkt := snoc_take d.waits k ⟨0, []⟩ hlt
    obtain ⟨y, hy⟩ : ∃ y, d.waits.getD k ⟨0, []⟩ = y := ⟨_, rfl⟩
    rw [hy] at e0 e1 e2 e3 hdk hkt
    clear hy hbe
    obtain ⟨at0, dt⟩ := y
    simp [rWrite] at e0 e2
    simp only at e1 e3 hdk
    have hkll : (d.waits.take k).length ≤ 100000 := Nat.le_trans (List.length_take_le _ _) (by omega)
    rw [hkl] at hkt hkll
    unfold maxLen at z3 hyc
    have e0r : wr.cell? ⟨bb, bo + k * 2, none⟩ = some (.int .i64 at0) := (hBw.cell (p := ⟨bb, bo + k * 2, none⟩) z1).trans e0
    have e2r : wr.cell? ⟨bb, bo + k * 2 + 1, none⟩ = some (.slice ya dt.length yc) := (hBw.cell (p := ⟨bb, bo + k * 2 + 1, none⟩) z1).trans e2
    have e3r : Bytes wr 0 w.heap.size (.slice ya dt.length yc) dt := e3.below hBw (Nat.le_refl _)
    have z1w : bb < wm.heap.size := by omega
    obtain ⟨Pr, hPr⟩ : ∃ Pr : World → Prop, ∀ X, Pr X ↔ ∀ j, j < wm.heap.size → X.heap[j]? = wr.heap[j]? := ⟨_, fun _ => Iff.rfl⟩
    have hp0 : Pr wr.drew := (hPr _).2 (fun _ _ => rfl)
    have hS0 : ∀ k, wr.heap.size ≤ k → boxS w.heap.size 3 k = false := fun k hk => boxS_no (by omega)
    have x1 := fun X => (blk_cell (((hPr _).1 (selW_pr hp0 X) (w.heap.size + 2) (by omega)).trans q5) 1)
    have x2 := fun X => (blk_cell (((hPr _).1 (selW_pr hp0 X) w.heap.size (by omega)).trans qd) 1)
    have x3 := fun X => (heap_cell ((hPr _).1 (selW_pr hp0 X) bb z1w) (bo + k * 2)).trans e0r
    have x4 := fun X => (heap_cell ((hPr _).1 (selW_pr hp0 X) bb z1w) (bo + k * 2 + 1)).trans e2r
    simp at x1 x2
    have HP := Lib.hid (And.intro q5 (And.intro hsame (And.intro hsz (And.intro hBw (And.intro hkt (And.intro hkl (And.intro hown (And.intro e3r (And.intro e1 hS0)))))))))
    clear q5 hown hsame hsz hBw hkt hkl e0 e1 e2 e3 e0r e2r e3r hS0 qd
    go_wp2_with fail
    refine wp_region_L (S := Kl Pr wr.drew) 19 (by kernel_rfl) (Kl.of hp0) (fun hCl => ?_)
    refine wpAnyL_seg (fuel := 6) (by kernel_rfl) (fun _ d _ _ _ h => by cases d <;> exact h) hCl [0, 1, 2, 3, 4, 5, 6, 7, 8, 9, 10, 11, 12, 13] _ _ _ (by kernel_rfl) (by kernel_rfl) (by kernel_rfl) (by kernel_rfl) ?_
    simp only [opsOf_cons, opsOf_nil, consOp_some, List.getElem?_toArray, List.getElem?_cons_succ, List.getElem?_cons_zero]
    repeat (first | go_big_quiet_step (fail) | quiet_step (fail))
    refine wpQuiet_nil ?_
    refine wpAnyL_each (fuel := 5) [14] (by kernel_rfl) (by simp) (by kernel_rfl) ?_
    refine EachL.cons _ rfl (fun K' hK => ?_) EachL.nil
    refine if_yes (by kernel_rfl) ?_
    refine wp_appB (.const (.slice none 0 0)) (.tmp 44) 26 rfl 5 Try.underlying26 info_u8 wr.heap.size (.slice none 0 0) [] rfl (OwnB.nil_ _ _ _) 0 w.heap.size (.slice ya dt.length yc) dt rfl HP.out.2.2.2.2.2.2.2.1 (by show 0 + dt.length ≤ _; omega) (Nat.le_refl _) ?_
    intro v1 v1w hown1 hB1 _hf1
    have hst : Pr v1w := (hPr _).2 (fun j hj => hB1.block j (Nat.lt_of_lt_of_le hj HP.out.2.2.1))
    obtain ⟨a1, c1, hv1⟩ := own_form hown1
    rw [List.nil_append] at hv1 hown1
    subst hv1
    have HO1 := Lib.hid (And.intro hown1 hB1)
    have HST1 := Lib.hid hst
    clear hown1 hB1 _hf1
    have hCl : Kl Pr wr.drew _ := Kl.of hst
    refine hK.out (.inr hCl) ?_
    clear hK K'
    refine wpAnyL_each (fuel := 4) [15] (by kernel_rfl) (by simp) (by kernel_rfl) ?_
    refine EachL.cons _ rfl (fun K' hK => ?_) EachL.nil
    go_simp
    have hst := HST1.out
    have hCl : Kl Pr wr.drew _ := Kl.of hst
    refine hK.out (.inr hCl) ?_
    clear hK K'
    refine wpAnyL_each (fuel := 3) [16] (by kernel_rfl) (by simp) (by kernel_rfl) ?_
    refine EachL.cons _ rfl (fun K' hK => ?_) EachL.nil
    go_simp
    have hst : Pr (v1w.alloc (.cells #[.int .i64 at0, .slice a1 dt.length c1] 143)) := (hPr _).2 (fun j hj => (Below.heap_alloc v1w _ j (Nat.lt_of_lt_of_le hj (Nat.le_trans HP.out.2.2.1 HO1.out.2.size))).trans ((hPr _).1 HST1.out j hj))
    have HST2 := Lib.hid hst
    have hCl : Kl Pr wr.drew _ := Kl.of hst
    refine hK.out (.inr hCl) ?_
    clear hK K'
    refine wpAnyL_each (fuel := 2) [17] (by kernel_rfl) (by simp) (by kernel_rfl) ?_
    refine EachL.cons _ rfl (fun K' hK => ?_) EachL.nil
    refine if_yes (by kernel_rfl) ?_
    obtain ⟨hra, hrb⟩ := row_write1 (T2 := 143) HP.out.2.2.2.2.2.2.1 HP.out.2.2.2.2.2.2.2.2.2 (w0 := wr.drew) rfl HO1.out.2 HO1.out.1.bytes (Nat.le_trans (Nat.le_refl _) HP.out.2.2.1) HP.out.2.2.2.2.2.2.2.2.1
    refine wp_appR rWrite_ck (.tmp 32) (.tmp 47) 42 rfl 143 (.agg #[.int .i64 0, .slice none 0 0]) 32 Try.underlying42 (by kernel_rfl) rfl (by decide) wm.heap.size wm.heap.size (boxS w.heap.size 3) _ kl [(⟨at0, dt⟩ : WrL)] rfl hra (fun k hk => HP.out.2.2.2.2.2.2.2.2.2 k (Nat.le_trans HO1.out.2.size (Nat.le_trans (by rw [World.size_alloc]; exact Nat.le_succ _) hk))) ⟨v1w.heap.size, 0, none⟩ 1 [.int .i64 at0, .slice a1 dt.length c1] rfl rfl (news_one #[.int .i64 at0, .slice a1 dt.length c1] 143) (by intro u hu; simp at hu; rcases hu with rfl | rfl <;> rfl) hrb (by show kl.length + 1 ≤ 1000000; omega) (by decide) (Nat.le_trans HP.out.2.2.1 (Nat.le_trans HO1.out.2.size (by rw [World.size_alloc]; exact Nat.le_succ _))) ?_
    intro a4 c4 z2 hown4 hB4 _hf4
    have hst : Pr z2 := (hPr _).2 (fun j hj => (hB4.block j hj).trans ((hPr _).1 HST2.out j hj))
    rw [show (kl ++ [((⟨at0, dt⟩ : WrL))]).length = kl.length + 1 by simp] at hown4 ⊢
    have k5 := ((hPr _).1 hst (w.heap.size + 2) (by have := HWS.out; omega)).trans HP.out.1
    have j1 := blk_cell k5 1
    have jf := blk_frozen k5 1
    simp at j1
    have HO := Lib.hid (And.intro hown4 (And.intro hB4 (And.intro HO1.out.2 k5)))
    clear hown4 hB4 k5 hra hrb _hf4
    have hCl : Kl Pr wr.drew _ := Kl.of hst
    refine hK.out (.inr hCl) ?_
    clear hK K'
    refine wpAnyL_seg (fuel := 1) (by kernel_rfl) (fun _ d _ _ _ h => by cases d <;> exact h) hCl [18] _ _ _ (by kernel_rfl) (by kernel_rfl) (by kernel_rfl) (by kernel_rfl) ?_
    simp only [opsOf_cons, opsOf_nil, consOp_some, List.getElem?_toArray, List.getElem?_cons_succ, List.getElem?_cons_zero]
    repeat (first | go_big_quiet_step (fail) | quiet_step (fail))
    refine wpQuiet_nil ?_
    refine wpAnyL_each (fuel := 0) [19] (by kernel_rfl) (by simp) (by kernel_rfl) ?_
    refine EachL.cons _ rfl (fun K' hK => ?_) EachL.nil
    go_simp
    refine hK.out (.inl rfl) ?_
    clear hK K'
    refine wpAnyL_done (by kernel_rfl) ?_ _
    go_wp2
    go_roundw
    case rel =>
      obtain ⟨hown4, hB4, hb1, k5⟩ := HO.out
      obtain ⟨q5, hsame, hsz, hBw, hkt, hkl, hown, e3r, e1, hS0⟩ := HP.out
      have hs := set_other z2 (w.heap.size + 2) 1 (.slice a4 (kl.length + 1) c4)
      have hst2 := (hPr _).1 hst
      have hl : (kl ++ [(⟨at0, dt⟩ : WrL)]).length = kl.length + 1 := by simp
      refine ⟨k + 1, a4, c4, by omega, by go_num, ?_, ?_, fun j h1 h2 => (hs j h2).trans ((hst2 j h1).trans (hsame j h1 h2)), ?_, ?_⟩
      · rw [hkt, hl]
        exact set_block k5 1 _
      · rw [hkt, hl]
        exact hown4.setS rWrite_ck ⟨w.heap.size + 2, 1, none⟩ _ (boxS_yes (by show w.heap.size ≤ w.heap.size + 2; omega) (by show w.heap.size + 2 < w.heap.size + 3; omega))
      · rw [World.size_setCell]
        exact Nat.le_trans hsz (Nat.le_trans hb1.size (Nat.le_trans (by rw [World.size_alloc]; exact Nat.le_succ _) hB4.size))
      · exact (((hBw.drew.trans (hb1.mono hBw.size)).alloc (Nat.le_trans hBw.size hb1.size) _).trans (hB4.mono (by omega))).setCell (p := ⟨w.heap.size + 2, 1, none⟩) (by show w.heap.size ≤ w.heap.size + 2; omega) _
    case measure => simp [intOf]; omega
  obtain rfl : k = d.waits.length := by omega
  rw [List.take_length] at hkl
  subst hkl
  have hwl := hown.sl rWrite_ck (lo' := wm.heap.size) (Nat.le_refl _) (Nat.le_refl _)
  have q1 := (hsame (w.heap.size + 1) (by omega) (by omega)).trans HM.out.2.2.1
  have hbl : Sl rBytes wr W.heap.size wm.heap.size (.slice a5 d.blocks.length c5) d.blocks := HM.out.2.2.2.1.keep fun b o h1 h2 => ⟨heap_cell (hsame b h2 (by have := HWS.out; omega)) o, heap_frozen (hsame b h2 (by have := HWS.out; omega)) o⟩
  have r0 := blk_cell q1 0
  have r1 := blk_cell q1 1
  have f0 := blk_frozen q1 0
  have f1 := blk_frozen q1 1
  simp at r0 r1
  have hWs := HWS.out
  have HZ := Lib.hid (And.intro hbl (And.intro hwl (And.intro hsz hBw)))
  clear q5 hown hsame hsz hBw qd q1 hbl hwl hlt hk
  go_wp2
  refine bodyPost_ret (v := .agg #[.slice a5 d.blocks.length c5, .slice a6 d.waits.length c6]) (by simp [results, Try.results42, go_sem, r0, r1]) rfl ?_
  obtain ⟨hbl, hwl, hsz, hBw⟩ := HZ.out
  have hk2 : ∀ lo hi, w.heap.size + 3 ≤ lo → Kp lo hi wr ((wr.setCell ⟨w.heap.size + 1, 0, none⟩ (.slice a5 d.blocks.length c5)).setCell ⟨w.heap.size + 1, 1, none⟩ (.slice a6 d.waits.length c6)) := fun lo hi h => kp_two wr _ _ 1 (by omega)
  refine ⟨_, _, rfl, ⟨⟨(hbl.keep (hk2 _ _ (by omega))).more (Nat.zero_le _) (by rw [World.size_setCell, World.size_setCell]; exact hsz), (hwl.keep (hk2 _ _ (by omega))).more (Nat.zero_le _) (by rw [World.size_setCell, World.size_setCell]; exact Nat.le_refl _)⟩, ?_⟩⟩
  exact (hBw.setCell (p := ⟨w.heap.size + 1, 0, none⟩) (Nat.le_succ _) _).setCell (p := ⟨w.heap.size + 1, 1, none⟩) (Nat.le_succ _) _
end Go.Proofs.Ytcibihakjcenaaa

namespace Go.Proofs.Ytcibihakjcenaaa
open Go.RowKit

/-- An item that may be written. -/
def rItemT : Rd ItemL where
  n := 5
  R w lo hi x f := f 0 = some (bV x.key.kind) ∧ f 1 = some (wV x.key.id) ∧ f 2 = some (wV x.key.off) ∧ f 3 = some (.int .i64 x.ref) ∧ (Lit.int .i64 x.ref).wf = true ∧ ∃ v, f 4 = some v ∧ Bytes w lo hi v x.val ∧ Thawed w v
  keep hk h := by obtain ⟨g0, g1, g2, g3, g4, v, h1, h2, h3⟩ := h; exact ⟨g0, g1, g2, g3, g4, v, h1, h2.kept hk, thawed_kept h2 h3 hk⟩
  more h1 h2 h := by obtain ⟨g0, g1, g2, g3, g4, v, k1, k2, k3⟩ := h; exact ⟨g0, g1, g2, g3, g4, v, k1, k2.more h1 h2, k3⟩
  ext he h := by
    obtain ⟨g0, g1, g2, g3, g4, v, k1, k2⟩ := h
    exact ⟨(he 0 (by decide)) ▸ g0, (he 1 (by decide)) ▸ g1, (he 2 (by decide)) ▸ g2, (he 3 (by decide)) ▸ g3, g4, v, (he 4 (by decide)) ▸ k1, k2⟩
theorem sl_itemT {w : World} {lo hi : Nat} {v : Value} {l : List ItemL} (h : Sl rItemT w lo hi v l) : Sl rItem w lo hi v l := h.imp rfl fun x f hh => by
  obtain ⟨g0, g1, g2, g3, g4, v, k1, k2, -⟩ := hh
  exact ⟨g0, g1, g2, g3, g4, v, k1, k2⟩
/-- What a call made: items in new memory that may be written. -/
structure MadeN (w w' : World) (v : Value) (l : List ItemL) : Prop where
  items : Sl rItemT w' w.heap.size w'.heap.size v l
  row : ∀ g o, v.ownBlock = some g → w'.frozen? ⟨g, o, none⟩ = false
  below : Below w.heap.size w w'
theorem MadeN.nil_ {w w' : World} (h : Below w.heap.size w w') : MadeN w w' (.slice none 0 0) [] := ⟨Sl.nil_ _ _ _, fun g o h => (by cases h), h⟩
theorem MadeN.v0 {w w' : World} {v : Value} {l : List ItemL} (h : MadeN w w' v l) : Sl rItem w' 0 w'.heap.size v l := (sl_itemT h.items).all0
end Go.Proofs.Ytcibihakjcenaaa

namespace Go.Proofs.Ytcibihakjcenaaa
open Go.RowKit

def KeepC (n₀ Bs : Nat) (A B : World) : Prop := Below n₀ A B ∧ B.cell? ⟨Bs, 0, none⟩ = A.cell? ⟨Bs, 0, none⟩ ∧ B.cell? ⟨Bs + 1, 0, none⟩ = A.cell? ⟨Bs + 1, 0, none⟩
theorem KeepC.refl (n₀ Bs : Nat) (A : World) : KeepC n₀ Bs A A := ⟨Below.refl _ _, rfl, rfl⟩
theorem KeepC.trans {n₀ Bs : Nat} {A B C : World} (h : KeepC n₀ Bs A B) (k : KeepC n₀ Bs B C) : KeepC n₀ Bs A C := ⟨h.1.trans k.1, k.2.1.trans h.2.1, k.2.2.trans h.2.2⟩
end Go.Proofs.Ytcibihakjcenaaa

