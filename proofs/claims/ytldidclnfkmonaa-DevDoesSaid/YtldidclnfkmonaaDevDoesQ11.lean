/- DevDoes: the words and contracts, part 11. -/
import Derived.Test.YtldidclnfkmonaaDevDoesQ1
import Derived.Test.YtldidclnfkmonaaDevDoesQ2
import Derived.Test.YtldidclnfkmonaaDevDoesQ3
import Derived.Test.YtldidclnfkmonaaDevDoesQ4
import Derived.Test.YtldidclnfkmonaaDevDoesQ5
import Derived.Test.YtldidclnfkmonaaDevDoesQ6
import Derived.Test.YtldidclnfkmonaaDevDoesQ7
import Derived.Test.YtldidclnfkmonaaDevDoesQ8
import Derived.Test.YtldidclnfkmonaaDevDoesQ9
import Derived.Test.YtldidclnfkmonaaDevDoesQ10
import Derived.WalkKit
import Derived.WalkLawsBesides
import Derived.WalkSpells
import Derived.Lib.Hide
import Derived.Laws.Rows
import Derived.Laws.AppendOwnNone
import Derived.Maps.AppendAt
import Derived.RangeFuncNested
import Derived.RangeFuncBound
import Derived.RangeFuncCalls
import Derived.RangeFuncLeaves
import Derived.RangeFuncBox
import Derived.Shelf.Abstract
import Derived.Shelf.RegionOpen
import Derived.OwnWalkIn
import Derived.TacticsInMore
import Derived.LoopNIn
import Derived.LoopIn
import Derived.ProofKit
import Derived.Deep.Slices
import Derived.WideShapes
import Derived.OrdersHeld
import Derived.Deep.QuietTactic
import Derived.BigQuiet
import Derived.StillTailTactics
import Derived.OpenShut
import Derived.Lib.SliceRun
import Derived.Lib.AppendZerosOnto
import Derived.Lib.Walk
import Derived.Deep.LoopGhost
import Derived.Laws.CopyOwn
import Derived.Deep.DeepCutAuto
import Derived.Laws.CopyRow
import Derived.Laws.MakeOwn
import Derived.Deep.RegionHeld
namespace Go.Proofs.Ytldidclnfkmonaa
open Go.RowKit

/-- The cells of some writes. -/
def wcells (bs : List (Int × Value)) : List Value := bs.flatMap fun x => [.int .i64 x.1, x.2]
theorem wcells_length (bs : List (Int × Value)) : (wcells bs).length = bs.length * 2 := by
  induction bs with
  | nil => rfl
  | cons x l ih =>
    show ([Value.int .i64 x.1, x.2] ++ wcells l).length = _
    rw [List.length_append, ih]
    simp
    omega
theorem wcells_get (bs : List (Int × Value)) (i : Nat) (x : Int × Value) (h : bs[i]? = some x) : (wcells bs)[i * 2]? = some (.int .i64 x.1) ∧ (wcells bs)[i * 2 + 1]? = some x.2 := by
  induction bs generalizing i with
  | nil => simp at h
  | cons y l ih =>
    cases i with
    | zero => simp at h; subst h; exact ⟨rfl, rfl⟩
    | succ i =>
      obtain ⟨h1, h2⟩ := ih i (by simpa using h)
      have e : wcells (y :: l) = .int .i64 y.1 :: y.2 :: wcells l := rfl
      rw [e, show (i + 1) * 2 = i * 2 + 1 + 1 by omega, show i * 2 + 1 + 1 + 1 = (i * 2 + 1) + 1 + 1 by omega, List.getElem?_cons_succ, List.getElem?_cons_succ, List.getElem?_cons_succ, List.getElem?_cons_succ]
      exact ⟨h1, h2⟩
theorem wcells_inv (bs : List (Int × Value)) (j : Nat) (u : Value) (h : (wcells bs)[j]? = some u) : ∃ i x, bs[i]? = some x ∧ ((j = i * 2 ∧ u = .int .i64 x.1) ∨ (j = i * 2 + 1 ∧ u = x.2)) := by
  have hj : j < bs.length * 2 := by rw [← wcells_length]; exact (List.getElem?_eq_some_iff.1 h).1
  have hi : j / 2 < bs.length := by omega
  refine ⟨j / 2, bs[j / 2], by simp [hi], ?_⟩
  obtain ⟨h1, h2⟩ := wcells_get bs (j / 2) bs[j / 2] (by simp [hi])
  rcases Nat.mod_two_eq_zero_or_one j with e | e
  · left
    have e2 : j = j / 2 * 2 := by omega
    rw [e2] at h
    exact ⟨e2, Option.some.inj (h.symm.trans h1)⟩
  · right
    have e2 : j = j / 2 * 2 + 1 := by omega
    rw [e2] at h
    exact ⟨e2, Option.some.inj (h.symm.trans h2)⟩

/-- Writes that may be appended: their cells are there; their bytes lie in W. -/
def SrcW (W w : World) (sv : Value) (l : List WrL) : Prop := ∃ a c, sv = .slice a l.length c ∧ (a = none → c = 0 ∧ l = []) ∧
  ∃ bs : List (Int × Value), bs.length = l.length ∧ (∀ (i : Nat) (x : WrL), l[i]? = some x → ∃ y : Value, bs[i]? = some (x.at_, y) ∧ (Lit.int .i64 x.at_).wf = true ∧ Bytes W 0 W.heap.size y x.data) ∧
    ∀ ad, a = some ad → ∀ j u, (wcells bs)[j]? = some u → w.cell? (ad.add j) = some u
theorem SrcW.of {W w : World} {sv : Value} {l : List WrL} (h : Sl rWrite W 0 W.heap.size sv l) (hB : Below W.heap.size W w) : SrcW W w sv l := by
  obtain ⟨a, c, rfl, h1, h2, h3, h4⟩ := id h
  refine ⟨a, c, rfl, fun e => ⟨h4 e, List.eq_nil_of_length_eq_zero (by have := h4 e; omega)⟩, ?_⟩
  obtain ⟨bs, hbl, hba⟩ := list_of (n := l.length) (p := fun i (x : Int × Value) => x.1 = (l.getD i ⟨0, []⟩).at_ ∧ (Lit.int .i64 x.1).wf = true ∧ Bytes W 0 W.heap.size x.2 (l.getD i ⟨0, []⟩).data ∧ ∀ ad, a = some ad → W.cell? (ad.add (i * 2)) = some (.int .i64 x.1) ∧ W.cell? (ad.add (i * 2 + 1)) = some x.2 ∧ ad.block < W.heap.size ∧ ad.spot = none) (fun i hi => by
    obtain ⟨b, off, rfl, hlo, hhi, hc⟩ := h3 (by omega)
    obtain ⟨f0, f1, v, f2, f3⟩ := hc i _ (get_l l ⟨0, []⟩ i hi)
    refine ⟨((l.getD i ⟨0, []⟩).at_, v), rfl, f1, f3, fun ad e => ?_⟩
    cases e
    have e2 : ∀ j, (⟨b, off, none⟩ : Addr).add j = ⟨b, off + j, none⟩ := fun j => by unfold Addr.add; split <;> simp_all
    rw [e2, e2]
    exact ⟨f0, f2, hhi, rfl⟩)
  refine ⟨bs, hbl, fun i x hx => ?_, fun ad e j u hj => ?_⟩
  · have hi : i < l.length := (List.getElem?_eq_some_iff.1 hx).1
    have hb : bs[i]? = some (bs[i]'(by omega)) := by simp
    obtain ⟨p1, p2, p3, -⟩ := hba i _ hb
    rw [get_l l ⟨0, []⟩ i hi] at hx
    cases hx
    refine ⟨(bs[i]'(by omega)).2, ?_, by rw [← p1]; exact p2, p3⟩
    rw [hb, ← p1]
  · obtain ⟨i, x, hx, hh⟩ := wcells_inv bs j u hj
    obtain ⟨-, -, -, p4⟩ := hba i x hx
    obtain ⟨q1, q2, q3, q4⟩ := p4 ad e
    have hk : ∀ k, w.cell? (ad.add k) = W.cell? (ad.add k) := fun k => by
      obtain ⟨bb, oo, ss⟩ := ad
      simp only at q3 q4
      subst q4
      have e2 : (⟨bb, oo, none⟩ : Addr).add k = ⟨bb, oo + k, none⟩ := by unfold Addr.add; split <;> simp_all
      rw [e2]
      exact hB.cell (p := ⟨bb, oo + k, none⟩) q3
    rcases hh with ⟨rfl, rfl⟩ | ⟨rfl, rfl⟩
    · rw [hk]; exact q1
    · rw [hk]; exact q2
theorem SrcW.one {W w : World} {p : Int} {y : Value} {l : List UInt8} (hp : (Lit.int .i64 p).wf = true) (hy : Bytes W 0 W.heap.size y l) : SrcW W (w.alloc (.cells #[.int .i64 p, y] 74)) (.slice (some ⟨w.heap.size, 0, none⟩) 1 1) [⟨p, l⟩] := by
  refine ⟨_, _, rfl, fun h => (by cases h), [(p, y)], rfl, fun i x hx => ?_, fun ad e j u hj => ?_⟩
  · cases i with
    | zero => cases hx; exact ⟨y, rfl, hp, hy⟩
    | succ i => simp at hx
  · cases e
    have hn := World.alloc_heap_new w (.cells #[.int .i64 p, y] 74)
    rcases j with _ | _ | j'
    · cases hj; exact blk_cell hn 0
    · cases hj; exact blk_cell hn 1
    · simp [wcells] at hj

theorem wpList_appW {w : World} {ops : Array Oper} {rest : List Oper} {o : Oper} {a : Act} {Q : Exit → Act → World → Prop} (hgd : o.guard = none) (s x : Operand)
    (ho : o.op = .call { callee := .builtin .append, args := #[s, x], argTypes := #[37, 37] }) (base : Nat) (W : World) (v sv : Value) (l l2 : List WrL) (hs : a.eval s = v) (hx : a.eval x = sv)
    (hown : OwnW base W w v l) (hsrc : SrcW W w sv l2) (hlen : l.length + l2.length ≤ 100000) (hbase : base ≤ w.heap.size)
    (h : ∀ ad cc w', OwnW base W w' (.slice ad (l ++ l2).length cc) (l ++ l2) → Below base w w' → wpList Try.prog ops Q rest (a.put o.dst (.slice ad (l ++ l2).length cc)) w') : wpList Try.prog ops Q (o :: rest) a w := by
  obtain ⟨i0, hi0, hz0, hz1, hz2⟩ := info_parts (P := Try.prog) (e := 74) (z := .agg #[.int .i64 0, .slice none 0 0]) (size := 2) (bytes := 32) (by kernel_rfl)
  obtain ⟨xs, hrow, hxs⟩ := hown
  obtain ⟨ad, c, rfl, hn, bs, hbl, hba, hcl⟩ := hsrc
  have hform : ∀ {v : Value} {n : Nat} {ys : List Value} {w : World}, w.ownsRow base 74 2 v n ys → ∃ ad cc, v = .slice ad n cc := fun h => by
    rcases h.2 with ⟨rfl, h0⟩ | ⟨g, cap, cur, rfl, -⟩
    · exact ⟨none, 0, by rw [h0]⟩
    · exact ⟨_, _, rfl⟩
  rcases ad with _ | ad
  · obtain ⟨rfl, rfl⟩ := hn rfl
    obtain ⟨ad, cc, rfl⟩ := hform hrow
    refine wpList_append_own_none hgd s x 37 ho base 74 i0 2 Try.underlying37 hi0 _ _ _ hs hrow hx ?_
    have := h ad cc w (by rw [List.append_nil]; exact ⟨xs, hrow, hxs⟩) ((Below.refl _ w).mono hbase)
    rw [List.append_nil] at this
    exact this
  · have hone : ∀ u ∈ wcells bs, u.oneCell' = true := by
      intro u hu
      obtain ⟨j, hj⟩ := List.mem_iff_getElem?.1 hu
      obtain ⟨i, x, hxx, hh⟩ := wcells_inv bs j u hj
      have hi : i < l2.length := by rw [← hbl]; exact (List.getElem?_eq_some_iff.1 hxx).1
      obtain ⟨y, hy1, hy2, hy3⟩ := hba i _ (get_l l2 ⟨0, []⟩ i hi)
      rw [hy1] at hxx
      cases hxx
      rcases hh with ⟨-, rfl⟩ | ⟨-, rfl⟩
      · rfl
      · obtain ⟨a2, c2, rfl, -⟩ := hy3; rfl
    refine wpList_append_own w hgd s x 37 ho base 74 i0 _ 2 32 Try.underlying37 hi0 hz0 hz1 hz2 rfl (by decide) v l.length xs hs hrow ad l2.length c (wcells bs) hx (by rw [wcells_length, hbl]) (hcl ad rfl) hone (by unfold maxLen; omega) (by omega) hbase ?_
    intro v' w' hown' hg' _
    obtain ⟨ad', cc', rfl⟩ := hform hown'
    have hB' : Below base w w' := ((Below.refl w.heap.size w).mono hbase).grown hg' hbase (own_block hrow)
    have := h ad' cc' w' ⟨xs ++ wcells bs, by rw [List.length_append]; exact hown', fun j y hj => ?_⟩ hB'
    · rw [List.length_append] at this
      exact this
    · have hxl := hrow.1
      rcases Nat.lt_or_ge j l.length with hjl | hjl
      · rw [List.getElem?_append_left hjl] at hj
        obtain ⟨⟨p1, p2⟩, z, p3, p4⟩ := hxs j y hj
        exact ⟨⟨by rw [List.getElem?_append_left (by omega)]; exact p1, p2⟩, z, by rw [List.getElem?_append_left (by omega)]; exact p3, p4⟩
      · rw [List.getElem?_append_right hjl] at hj
        obtain ⟨z, p1, p2, p3⟩ := hba _ y hj
        obtain ⟨q1, q2⟩ := wcells_get bs _ _ p1
        refine ⟨⟨?_, p2⟩, z, ?_, p3⟩
        · rw [List.getElem?_append_right (by omega), hxl, show j * 2 - l.length * 2 = (j - l.length) * 2 by omega]; exact q1
        · rw [List.getElem?_append_right (by omega), hxl, show j * 2 + 1 - l.length * 2 = (j - l.length) * 2 + 1 by omega]; exact q2

theorem OwnW.same {base : Nat} {W w w' : World} {v : Value} {l : List WrL} (h : OwnW base W w v l) (hs : ∀ k, base ≤ k → ∀ o, w.heap[k]? = some o → w'.heap[k]? = some o) : OwnW base W w' v l := by
  obtain ⟨xs, ⟨hl, hrow⟩, hx⟩ := h
  refine ⟨xs, ⟨hl, ?_⟩, hx⟩
  rcases hrow with h | ⟨g, cap, cur, e, hg, hh, h1, h2, h3, h4⟩
  · exact .inl h
  · exact .inr ⟨g, cap, cur, e, hg, hs g hg _ hh, h1, h2, h3, h4⟩
theorem OwnW.set {base : Nat} {W w : World} {v : Value} {l : List WrL} (h : OwnW base W w v l) (r o : Nat) (u : Value) (hr : r < base) : OwnW base W (w.setCell ⟨r, o, none⟩ u) v l :=
  h.same fun k hk _ hx => (set_other w r o u k (by omega)).trans hx
theorem OwnW.alloc {base : Nat} {W w : World} {v : Value} {l : List WrL} (h : OwnW base W w v l) (o : Obj) : OwnW base W (w.alloc o) v l :=
  h.same fun k _ _ hx => (Below.heap_alloc w o k (Array.getElem?_eq_some_iff.1 hx).1).trans hx

/-- A world's first blocks. -/
def trunc (w : World) (n : Nat) : World := { w with heap := w.heap.extract 0 n }
theorem trunc_size {w : World} {n : Nat} (h : n ≤ w.heap.size) : (trunc w n).heap.size = n := by
  show (w.heap.extract 0 n).size = n
  rw [Array.size_extract]
  omega
theorem trunc_get {w : World} {n : Nat} (h : n ≤ w.heap.size) (k : Nat) (hk : k < n) : (trunc w n).heap[k]? = w.heap[k]? := by
  show (w.heap.extract 0 n)[k]? = _
  rw [Array.getElem?_extract]
  simp
  omega
theorem trunc_below {w : World} {n : Nat} (h : n ≤ w.heap.size) : Below (trunc w n).heap.size (trunc w n) w :=
  ⟨rfl, rfl, rfl, by rw [trunc_size h]; exact h, fun k hk => (trunc_get h k (by rw [trunc_size h] at hk; exact hk)).symm⟩
theorem trunc_kp {w : World} {n : Nat} (h : n ≤ w.heap.size) : Kp 0 n w (trunc w n) := fun k o _ hk => ⟨heap_cell (trunc_get h k hk) o, heap_frozen (trunc_get h k hk) o⟩
theorem OwnW.slK {base : Nat} {W w : World} {v : Value} {l : List WrL} (h : OwnW base W w v l) (hk : Kp 0 W.heap.size W w) (hs : W.heap.size ≤ w.heap.size) : Sl rWrite w 0 w.heap.size v l := by
  obtain ⟨xs, ⟨hl, hrow⟩, hx⟩ := h
  rcases hrow with ⟨rfl, h0⟩ | ⟨g, cap, cur, rfl, hg, hh, h1, h2, h3, h4⟩
  · have : l = [] := List.eq_nil_of_length_eq_zero (by omega)
    subst this
    exact Sl.nil_ _ _ _
  · refine ⟨_, _, rfl, h1, h2, fun _ => ⟨g, 0, rfl, Nat.zero_le _, (Array.getElem?_eq_some_iff.1 hh).1, fun i x hxi => ?_⟩, fun h => by cases h⟩
    obtain ⟨⟨e1, e2⟩, y, e3, e4⟩ := hx i x hxi
    have hc : ∀ j u, xs[j]? = some u → w.cell? ⟨g, j, none⟩ = some u := by
      intro j u hj
      rw [blk_cell hh, ← hj, ← h4, List.getElem?_take, if_pos]
      · simp
      · have := (List.getElem?_eq_some_iff.1 hj).1
        rw [hl] at this
        exact this
    refine ⟨?_, e2, y, ?_, (e4.kept hk).more (Nat.le_refl _) hs⟩
    · show w.cell? ⟨g, 0 + i * 2 + 0, none⟩ = _
      rw [Nat.zero_add, Nat.add_zero]
      exact hc _ _ e1
    · show w.cell? ⟨g, 0 + i * 2 + 1, none⟩ = _
      rw [Nat.zero_add]
      exact hc _ _ e3

/-- What a call answered: a disk; nothing that was there has turned. -/
structure GotD (w w' : World) (b u : Value) (d : DiskL) : Prop where
  disk : DiskV w' 0 w'.heap.size b u d
  below : Below w.heap.size w w'
/-- A disk whose data lies below hi, or in what was made from w on. -/
structure GotK (hi : Nat) (w w' : World) (b u : Value) (d : DiskL) : Prop where
  disk : ∀ W : World, w'.heap.size ≤ W.heap.size → (∀ k, k < hi ∨ w.heap.size ≤ k → k < w'.heap.size → W.heap[k]? = w'.heap[k]?) → DiskV W 0 W.heap.size b u d
  below : Below w.heap.size w w'
theorem GotK.got {hi : Nat} {w w' : World} {b u : Value} {d : DiskL} (h : GotK hi w w' b u d) : GotD w w' b u d := ⟨h.disk w' (Nat.le_refl _) (fun _ _ _ => rfl), h.below⟩

set_option maxRecDepth 100000 in
set_option maxHeartbeats 1000000 in
/-- The reference's With. -/
theorem rwith_any (b u : Value) (d : DiskL) (p : Int) (v : Value) (l : List UInt8) (w : World) (hi : Nat) (hhi : hi ≤ w.heap.size) (h : DiskV w 0 hi b u d) (hv : Bytes w 0 hi v l) (hp : (Lit.int .i64 p).wf = true) (hn : d.waits.length ≤ 5000) :
    Calls Try.prog 71 #[.agg #[b, u], .int .i64 p, v] w fun e w' => ∃ b' u', e = .returned (.agg #[b', u']) ∧ GotK hi w w' b' u' ⟨d.blocks, d.waits ++ [⟨p, l⟩]⟩ := by
  have hB := ((Below.refl w.heap.size w).alloc (Nat.le_refl _) (.cells #[b, u] 39)).alloc (by simp) (.cells #[.slice none 0 0, .slice none 0 0] 39)
  have hD : DiskV _ 0 _ b u d := (h.more (Nat.le_refl _) hhi).step hB
  have hv0 := (hv.more (Nat.le_refl _) hhi).step hB
  have hT : DiskV (trunc w hi) 0 (trunc w hi).heap.size b u d := by rw [trunc_size hhi]; exact ⟨Sl.keep h.1 (trunc_kp hhi), Sl.keep h.2 (trunc_kp hhi)⟩
  have hvT : Bytes (trunc w hi) 0 (trunc w hi).heap.size v l := by rw [trunc_size hhi]; exact hv.kept (trunc_kp hhi)
  have hBT := trunc_below hhi
  obtain ⟨T, hTT⟩ : ∃ T, trunc w hi = T := ⟨_, rfl⟩
  have HTT := Lib.hid hTT
  rw [hTT] at hT hvT hBT
  have HTS := Lib.hid (show T.heap.size = hi by rw [← hTT]; exact trunc_size hhi)
  have HTG := Lib.hid (show ∀ k, k < hi → T.heap[k]? = w.heap[k]? from fun k hk => by rw [← hTT]; exact trunc_get hhi k hk)
  clear hTT
  have hq := two_new w (.cells #[b, u] 39) (.cells #[.slice none 0 0, .slice none 0 0] 39)
  obtain ⟨ab, cb, rfl, g1, g2, -, -⟩ := h.1
  obtain ⟨au, cu, rfl, g3, g4, -, -⟩ := h.2
  obtain ⟨av, cv, rfl, y1, y2⟩ := hv.form rfl
  unfold maxLen at g2 g4 y2
  have HD0 := Lib.hid (And.intro hT (And.intro hvT hBT))
  clear hT hvT hBT
  clear h hv
  obtain ⟨W, hW⟩ : ∃ W, (w.alloc (.cells #[.slice ab d.blocks.length cb, .slice au d.waits.length cu] 39)).alloc (.cells #[.slice none 0 0, .slice none 0 0] 39) = W := ⟨_, rfl⟩
  rw [hW] at hB hD hq hv0
  have c0 := blk_cell hq.1 0
  have c1 := blk_cell hq.1 1
  simp at c0 c1
  have HQ := Lib.hid (And.intro hD (And.intro hv0 (And.intro hB hq)))
  clear hB hD hq hv0
  go_enter Try.func71, Try.ntmps71
  go_upto_region 2 with (fail)
  have h7 := World.alloc_heap_new W (.cells #[.slice ab d.blocks.length cb, .slice none 0 0] 39)
  have hst := (Below.refl W.heap.size W).alloc (Nat.le_refl _) (.cells #[.slice ab d.blocks.length cb, .slice none 0 0] 39)
  have n0 := (Array.getElem?_eq_some_iff.1 HQ.out.2.2.2.2).1
  obtain ⟨w1, hw1⟩ : ∃ w1, W.alloc (.cells #[.slice ab d.blocks.length cb, .slice none 0 0] 39) = w1 := ⟨_, rfl⟩
  rw [hw1] at h7 hst ⊢
  clear hw1
  have q1 := (hst.block _ (Array.getElem?_eq_some_iff.1 HQ.out.2.2.2.2).1).trans HQ.out.2.2.2.2
  have d0 := (hst.cell (p := ⟨w.heap.size, 0, none⟩) (cell_lt' c0)).trans c0
  have d1 := (hst.cell (p := ⟨w.heap.size, 1, none⟩) (cell_lt' c1)).trans c1
  have hBw1 := below_step HQ.out.2.2.1 HQ.out.2.2.1.size hst
  generalize hg7 : W.heap.size = g7 at *
  have HG7 := Lib.hid hg7
  clear hg7
  have e0 := blk_cell h7 0
  have e1 := blk_cell h7 1
  have f1 := blk_frozen h7 1
  simp at e0 e1
  have hsrc : SrcW T w1 (.slice au d.waits.length cu) d.waits := SrcW.of HD0.out.1.2 (HD0.out.2.2.trans (hBw1.mono HD0.out.2.2.size))
  have hown0 : OwnW w1.heap.size T w1 (.slice none 0 0) [] := OwnW.nil_ _ _ _
  have HS := Lib.hid (And.intro hsrc (And.intro hown0 (And.intro h7 (And.intro q1 (And.intro hst hBw1)))))
  clear c0 c1 hsrc hown0 h7 q1 hst hBw1
  go_upto_region 3 with (at_builtin; refine wpList_appW rfl (.tmp 12) (.tmp 14) rfl w1.heap.size T _ _ [] d.waits rfl rfl HS.out.2.1 HS.out.1 (by simp; omega) (Nat.le_refl _) ?_; intro a2 c2 w2 hown2 hB2; rw [List.nil_append] at hown2 ⊢; have k7 := (hB2.block _ (Array.getElem?_eq_some_iff.1 HS.out.2.2.1).1).trans HS.out.2.2.1; have k0 := blk_cell k7 0; have k1 := blk_cell k7 1; have kf := blk_frozen k7 1; simp at k0 k1; have HO := Lib.hid (And.intro hown2 (And.intro hB2 k7)); clear hown2 hB2 k7)
  have hown3 := HO.out.1.set g7 1 (.slice a2 d.waits.length c2) (Array.getElem?_eq_some_iff.1 HS.out.2.2.1).1
  have k73 := set_block HO.out.2.2 1 (.slice a2 d.waits.length c2)
  have hg1 : w.heap.size + 1 ≠ g7 := by have := (Array.getElem?_eq_some_iff.1 HQ.out.2.2.2.2).1; have := HG7.out; omega
  have q3 := (set_other w2 g7 1 (.slice a2 d.waits.length c2) (w.heap.size + 1) hg1).trans ((HO.out.2.1.block _ (Array.getElem?_eq_some_iff.1 HS.out.2.2.2.1).1).trans HS.out.2.2.2.1)
  have hgw : w.heap.size ≤ g7 := by have := HQ.out.2.2.1.size; have := HG7.out; omega
  have hBw : Below w.heap.size w w2 := below_step HS.out.2.2.2.2.2 HS.out.2.2.2.2.2.size HO.out.2.1
  have hBw3 := hBw.setCell (p := ⟨g7, 1, none⟩) hgw (.slice a2 d.waits.length c2)
  have hsz3 : w1.heap.size ≤ (w2.setCell ⟨g7, 1, none⟩ (.slice a2 d.waits.length c2)).heap.size := by rw [World.size_setCell]; exact HO.out.2.1.size
  obtain ⟨w3, hw3⟩ : ∃ w3, w2.setCell ⟨g7, 1, none⟩ (.slice a2 d.waits.length c2) = w3 := ⟨_, rfl⟩
  rw [hw3] at hown3 k73 q3 hBw3 hsz3 ⊢
  clear hw3 k0 k1 kf hBw
  have k0 := blk_cell k73 0
  have k1 := blk_cell k73 1
  have kf := blk_frozen k73 1
  simp at k0 k1
  have hone := SrcW.one (W := T) (w := w3) (p := p) hp HD0.out.2.1
  have hownA := hown3.alloc (.cells #[.int .i64 p, .slice av l.length cv] 74)
  have hBA := (Below.refl w3.heap.size w3).alloc (Nat.le_refl _) (.cells #[.int .i64 p, .slice av l.length cv] 74)
  have HO3 := Lib.hid (And.intro hone (And.intro hownA (And.intro k73 (And.intro q3 (And.intro hBw3 (And.intro hBA hgw))))))
  have hl7 := (Array.getElem?_eq_some_iff.1 k73).1
  have hszA : w1.heap.size ≤ (w3.alloc (.cells #[.int .i64 p, .slice av l.length cv] 74)).heap.size := Nat.le_trans hsz3 hBA.size
  clear hone hown3 hownA k73 q3 hBw3 hBA d0 d1 e0 e1 f1
  go_upto_region 4 with (at_builtin; refine wpList_appW rfl (.tmp 18) (.tmp 22) rfl w1.heap.size T _ _ d.waits [⟨p, l⟩] rfl rfl HO3.out.2.1 HO3.out.1 (by simp; omega) hszA ?_; intro a4 c4 w4 hown4 hB4; rw [show (d.waits ++ [(⟨p, l⟩ : WrL)]).length = d.waits.length + 1 by simp] at hown4; have k74 := (hB4.block g7 (Array.getElem?_eq_some_iff.1 HS.out.2.2.1).1).trans ((HO3.out.2.2.2.2.2.1.block g7 hl7).trans HO3.out.2.2.1); have j0 := blk_cell k74 0; have j1 := blk_cell k74 1; have jf := blk_frozen k74 1; simp at j0 j1; have HO4 := Lib.hid (And.intro hown4 (And.intro hB4 k74)); clear hown4 hB4 k74)
  have hBA := HO3.out.2.2.2.2.2.1
  have hB4 := HO4.out.2.1
  have hl71 : g7 < w1.heap.size := (Array.getElem?_eq_some_iff.1 HS.out.2.2.1).1
  have hq1l : w.heap.size + 1 < w1.heap.size := (Array.getElem?_eq_some_iff.1 HS.out.2.2.2.1).1
  have hl31 : w.heap.size + 1 < w3.heap.size := (Array.getElem?_eq_some_iff.1 HO3.out.2.2.2.1).1
  have hg1 : w.heap.size + 1 ≠ g7 := Nat.ne_of_lt n0
  have q4 := (hB4.block (w.heap.size + 1) hq1l).trans ((hBA.block _ hl31).trans HO3.out.2.2.2.1)
  have hgw := HO3.out.2.2.2.2.2.2
  have hBw5 := ((HO3.out.2.2.2.2.1.trans (hBA.mono HO3.out.2.2.2.2.1.size)).trans (hB4.mono (Nat.le_trans hgw (Nat.le_of_lt hl71)))).setCell (p := ⟨g7, 1, none⟩) hgw (.slice a4 (d.waits.length + 1) c4)
  have hown5 := HO4.out.1.set g7 1 (.slice a4 (d.waits.length + 1) c4) hl71
  have k75 := set_block HO4.out.2.2 1 (.slice a4 (d.waits.length + 1) c4)
  have q5 := (set_other w4 g7 1 (.slice a4 (d.waits.length + 1) c4) (w.heap.size + 1) hg1).trans q4
  have hsz5 : w1.heap.size ≤ (w4.setCell ⟨g7, 1, none⟩ (.slice a4 (d.waits.length + 1) c4)).heap.size := by rw [World.size_setCell]; exact Nat.le_trans hszA hB4.size
  obtain ⟨w5, hw5⟩ : ∃ w5, w4.setCell ⟨g7, 1, none⟩ (.slice a4 (d.waits.length + 1) c4) = w5 := ⟨_, rfl⟩
  rw [hw5] at hBw5 hown5 k75 q5 hsz5 ⊢
  have m0 := blk_cell k75 0
  have m1 := blk_cell k75 1
  have r0 := blk_cell q5 0
  have r1 := blk_cell q5 1
  have z0 := blk_frozen q5 0
  have z1 := blk_frozen q5 1
  simp at m0 m1 r0 r1
  have HF := Lib.hid (And.intro hBw5 (And.intro hown5 hsz5))
  clear hBw5 hown5 k75 q5 q4 hsz5 hw5 hBA hB4 j0 j1 jf k0 k1 kf
  go_wp2
  refine bodyPost_ret (v := .agg #[.slice ab d.blocks.length cb, .slice a4 (d.waits.length + 1) c4]) (by simp [results, Try.results71, go_sem, r0, r1]) rfl ?_
  obtain ⟨hBw5, hown5, hsz5⟩ := HF.out
  have hBf := (hBw5.setCell (p := ⟨w.heap.size + 1, 0, none⟩) (Nat.le_succ _) (.slice ab d.blocks.length cb)).setCell (p := ⟨w.heap.size + 1, 1, none⟩) (Nat.le_succ _) (.slice a4 (d.waits.length + 1) c4)
  have hown6 := (hown5.set (w.heap.size + 1) 0 (.slice ab d.blocks.length cb) hq1l).set (w.heap.size + 1) 1 (.slice a4 (d.waits.length + 1) c4) hq1l
  have hww1 : w.heap.size ≤ w1.heap.size := HS.out.2.2.2.2.2.size
  refine ⟨_, _, rfl, fun W hs hk => ?_, hBf⟩
  have hkT : Kp 0 T.heap.size T W := fun k o _ h2 => by
    rw [HTS.out] at h2
    have e := (hk k (.inl h2) (Nat.lt_of_lt_of_le (by omega) hBf.size)).trans ((hBf.block k (by omega)).trans (HTG.out k h2).symm)
    exact ⟨heap_cell e o, heap_frozen e o⟩
  have hTs : T.heap.size ≤ W.heap.size := by rw [HTS.out]; exact Nat.le_trans hhi (Nat.le_trans hBf.size hs)
  exact ⟨(Sl.keep HD0.out.1.1 hkT).more (Nat.le_refl _) hTs, (hown6.same fun k h1 o h2 => (hk k (.inr (by omega)) (Array.getElem?_eq_some_iff.1 h2).1).trans h2).slK hkT hTs⟩
end Go.Proofs.Ytldidclnfkmonaa

namespace Go.Proofs.Ytldidclnfkmonaa
open Go.RowKit

theorem GotD.nil_ {w w' : World} (h : Below w.heap.size w w') : GotD w w' (.slice none 0 0) (.slice none 0 0) ⟨[], []⟩ := ⟨DiskV.nil_ _ _ _, h⟩

set_option maxRecDepth 100000 in
set_option maxHeartbeats 1000000 in
/-- The reference's Write. -/
theorem rdwrite_any (b u : Value) (d : DiskL) (p : Int) (v : Value) (l : List UInt8) (w : World) (h : DiskV w 0 w.heap.size b u d) (hv : Bytes w 0 w.heap.size v l) :
    Calls Try.prog 43 #[.agg #[b, u], .int .i64 p, v] w fun e w' => ∃ b' u', e = .returned (.tuple #[.agg #[b', u'], .int .i64 (errW d p l)]) ∧ GotD w w' b' u' (writeD d p l) := by
  have hB := ((Below.refl w.heap.size w).alloc (Nat.le_refl _) (.cells #[b, u] 39)).alloc (by simp) (.cells #[.slice none 0 0, .slice none 0 0] 39)
  have hD : DiskV _ 0 _ b u d := h.step hB
  have hv0 := hv.step hB
  have hq := two_new w (.cells #[b, u] 39) (.cells #[.slice none 0 0, .slice none 0 0] 39)
  have hck := fun V hh => rmayd_any b u d V hh
  have htw := fun V hi hhi hh hv (hp : (Lit.int .i64 p).wf = true) (hn : d.waits.length ≤ 5000) => rwith_any b u d p v l V hi hhi hh hv hp hn
  obtain ⟨ab, cb, rfl, g1, g2, -, -⟩ := h.1
  obtain ⟨au, cu, rfl, g1', g2', -, -⟩ := h.2
  obtain ⟨av, cv, rfl, y1, y2⟩ := hv.form rfl
  have HV := Lib.hid hv
  unfold maxLen at g2 g2' y2
  have HD0 := Lib.hid (And.intro h hv)
  clear h hv
  obtain ⟨W, hW⟩ : ∃ W, (w.alloc (.cells #[.slice ab d.blocks.length cb, .slice au d.waits.length cu] 39)).alloc (.cells #[.slice none 0 0, .slice none 0 0] 39) = W := ⟨_, rfl⟩
  rw [hW] at hB hD hq hv0
  have c0 := blk_cell hq.1 0
  have c1 := blk_cell hq.1 1
  simp at c0 c1
  have HQ := Lib.hid (And.intro hD (And.intro hv0 (And.intro hB hq)))
  obtain ⟨ea, hea⟩ : ∃ ea, errA d p = ea := ⟨_, rfl⟩
  have HC := Lib.hid (And.intro hck htw)
  have HEA := Lib.hid hea
  obtain ⟨ew, hew⟩ : ∃ ew, errW d p l = ew := ⟨_, rfl⟩
  obtain ⟨wd, hwd⟩ : ∃ wd, writeD d p l = wd := ⟨_, rfl⟩
  rw [hew, hwd]
  have HE := Lib.hid (And.intro hew hwd)
  clear hB hD hq hck htw hea hew hwd hv0
  go_enter Try.func43, Try.ntmps43
  go_wp2_with fail
  refine (HC.out.1 W HQ.out.1).mono ?_
  rintro e w1 ⟨rfl, hst⟩
  obtain ⟨hD, hv0, hB, q0, q1⟩ := HQ.out
  replace q0 := (hst.block _ (Array.getElem?_eq_some_iff.1 q0).1).trans q0
  replace q1 := (hst.block _ (Array.getElem?_eq_some_iff.1 q1).1).trans q1
  replace hD := hD.step hst
  replace hv0 := hv0.step hst
  replace hB := below_step hB hB.size hst
  clear c0 c1
  have c0 := blk_cell q0 0
  have c1 := blk_cell q0 1
  have r0 := blk_cell q1 0
  have r1 := blk_cell q1 1
  have f0 := blk_frozen q1 0
  have f1 := blk_frozen q1 1
  simp at c0 c1 r0 r1
  have HQ1 := Lib.hid (And.intro hD (And.intro hB (And.intro hv0 (And.intro q0 q1))))
  clear hD hB q0 q1 hst HQ hv0
  have hfail : ∀ W : World, Below w.heap.size w W → Below w.heap.size w ((W.setCell ⟨w.heap.size + 1, 0, none⟩ (.slice none 0 0)).setCell ⟨w.heap.size + 1, 1, none⟩ (.slice none 0 0)) := fun W h =>
    (h.setCell (p := ⟨w.heap.size + 1, 0, none⟩) (Nat.le_succ _) _).setCell (p := ⟨w.heap.size + 1, 1, none⟩) (Nat.le_succ _) _
  have HF := Lib.hid hfail
  clear hfail
  have hbad : ∀ n : Int, ea = n → n ≠ 0 → ew = n ∧ wd = ⟨[], []⟩ := by
    intro n hn h0
    obtain ⟨h1, h2⟩ := HE.out
    have he := HEA.out
    have e1 : ew = n := by rw [← h1]; unfold errW; rw [he, hn, if_pos h0]
    refine ⟨e1, ?_⟩
    rw [← h2]
    unfold writeD
    rw [h1, e1, if_neg h0]
  have HBAD := Lib.hid hbad
  clear hbad
  cases hmay : mayD d
  case false =>
    obtain rfl : ea = 8 := by rw [← HEA.out]; unfold errA; rw [hmay]; rfl
    obtain ⟨rfl, rfl⟩ := HBAD.out 8 rfl (by decide)
    clear hmay
    go_wp2
    refine bodyPost_ret (v := .tuple #[.agg #[.slice none 0 0, .slice none 0 0], .int .i64 8]) (by simp [results, Try.results43, go_sem, r0, r1]) rfl ⟨_, _, rfl, GotD.nil_ (HF.out _ HQ1.out.2.1)⟩
  have hea2 : ea = if p < 0 ∨ 256 ≤ p then 2 else 0 := by rw [← HEA.out, errA_may p hmay]
  have HEA2 := Lib.hid hea2
  have HMM := Lib.hid hmay
  clear hea2 hmay
  by_cases p0 : p < 0
  · obtain rfl : ea = 2 := by rw [HEA2.out, if_pos (.inl p0)]
    obtain ⟨rfl, rfl⟩ := HBAD.out 2 rfl (by decide)
    go_wp2
    refine bodyPost_ret (v := .tuple #[.agg #[.slice none 0 0, .slice none 0 0], .int .i64 2]) (by simp [results, Try.results43, go_sem, r0, r1]) rfl ⟨_, _, rfl, GotD.nil_ (HF.out _ HQ1.out.2.1)⟩
  have q0 : decide (p < 0) = false := by simp; omega
  by_cases p2 : 256 ≤ p
  · obtain rfl : ea = 2 := by rw [HEA2.out, if_pos (.inr p2)]
    obtain ⟨rfl, rfl⟩ := HBAD.out 2 rfl (by decide)
    go_wp2
    refine bodyPost_ret (v := .tuple #[.agg #[.slice none 0 0, .slice none 0 0], .int .i64 2]) (by simp [results, Try.results43, go_sem, r0, r1]) rfl ⟨_, _, rfl, GotD.nil_ (HF.out _ HQ1.out.2.1)⟩
  have q1 : decide (256 ≤ p) = false := by simp; omega
  obtain rfl : ea = 0 := by rw [HEA2.out, if_neg (by omega)]
  have HM' := Lib.hid (errA_zero HEA.out)
  by_cases hl : l.length = 128
  case neg =>
    have hw : ew = 3 ∧ wd = ⟨[], []⟩ := by
      obtain ⟨h1, h2⟩ := HE.out
      have h0 := HEA.out
      have e1 : ew = 3 := by rw [← h1]; unfold errW; rw [h0, if_neg (by simp), if_pos hl]
      refine ⟨e1, ?_⟩
      rw [← h2]
      unfold writeD
      rw [h1, e1, if_neg (by decide)]
    obtain ⟨rfl, rfl⟩ := hw
    have i1 : ¬ (l.length : Int) = 128 := by omega
    go_wp2
    refine bodyPost_ret (v := .tuple #[.agg #[.slice none 0 0, .slice none 0 0], .int .i64 3]) (by simp [results, Try.results43, go_sem, r0, r1]) rfl ⟨_, _, rfl, GotD.nil_ (HF.out _ HQ1.out.2.1)⟩
  have dl : ((l.length : Int) != 128) = false := by simp; omega
  by_cases hm : d.waits.length = 4096
  case pos =>
    have hw : ew = 9 ∧ wd = ⟨[], []⟩ := by
      obtain ⟨h1, h2⟩ := HE.out
      have h0 := HEA.out
      have e1 : ew = 9 := by rw [← h1]; unfold errW; rw [h0, if_neg (by simp), if_neg (by simpa using hl), if_pos hm]
      refine ⟨e1, ?_⟩
      rw [← h2]
      unfold writeD
      rw [h1, e1, if_neg (by decide)]
    obtain ⟨rfl, rfl⟩ := hw
    have i2 : (4096 : Int) ≤ d.waits.length := by omega
    have hl' := Lib.hid hl
    have hm' := Lib.hid hm
    clear hl hm
    go_wp2
    refine bodyPost_ret (v := .tuple #[.agg #[.slice none 0 0, .slice none 0 0], .int .i64 9]) (by simp [results, Try.results43, go_sem, r0, r1]) rfl ⟨_, _, rfl, GotD.nil_ (HF.out _ HQ1.out.2.1)⟩
  have hw : ew = 0 ∧ wd = ⟨d.blocks, d.waits ++ [⟨p, l⟩]⟩ := by
    obtain ⟨h1, h2⟩ := HE.out
    have h0 := HEA.out
    have e1 : ew = 0 := by rw [← h1]; unfold errW; rw [h0, if_neg (by simp), if_neg (by simpa using hl), if_neg hm]
    refine ⟨e1, ?_⟩
    rw [← h2]
    unfold writeD
    rw [h1, e1, if_pos rfl]
  obtain ⟨rfl, rfl⟩ := hw
  have hm2 := (may_len HMM.out).2.1
  have dm : decide ((4096 : Int) ≤ d.waits.length) = false := by simp; omega
  have HL := Lib.hid (And.intro hl hm2)
  clear hl hm hm2
  go_wp2_with fail
  refine (HC.out.2 w1 w.heap.size HQ1.out.2.1.size ⟨HD0.out.1.1.below HQ1.out.2.1 (Nat.le_refl _), HD0.out.1.2.below HQ1.out.2.1 (Nat.le_refl _)⟩ (HD0.out.2.below HQ1.out.2.1 (Nat.le_refl _)) (WalkArith.wf_i64 (by omega)) (by have := HL.out.2; omega)).mono ?_
  rintro e z ⟨b', u', rfl, hgd⟩
  obtain ⟨ab', cb', rfl, -, -, -, -⟩ := hgd.got.disk.1
  obtain ⟨au', cu', rfl, -, -, -, -⟩ := hgd.got.disk.2
  have hst := hgd.below
  have q1l := (Array.getElem?_eq_some_iff.1 HQ1.out.2.2.2.2).1
  have p1 := (hst.block _ q1l).trans HQ1.out.2.2.2.2
  have r0' := blk_cell p1 0
  have r1' := blk_cell p1 1
  have f0' := blk_frozen p1 0
  have f1' := blk_frozen p1 1
  simp at r0' r1'
  have HT := Lib.hid hgd
  clear r0 r1 c0 c1 f0 f1 hst p1 hgd
  generalize (DiskL.mk d.blocks (d.waits ++ [⟨p, l⟩])).blocks.length = n1 at *
  generalize (DiskL.mk d.blocks (d.waits ++ [⟨p, l⟩])).waits.length = n2 at *
  go_wp2
  refine bodyPost_ret (v := .tuple #[.agg #[.slice ab' n1 cb', .slice au' n2 cu'], .int .i64 0]) (by simp [results, Try.results43, go_sem, r0', r1']) rfl ?_
  have hB := HQ1.out.2.1
  have hBf := ((below_step hB hB.size HT.out.below).setCell (p := ⟨w.heap.size + 1, 0, none⟩) (Nat.le_succ _) (.slice ab' n1 cb')).setCell (p := ⟨w.heap.size + 1, 1, none⟩) (Nat.le_succ _) (.slice au' n2 cu')
  refine ⟨_, _, rfl, HT.out.disk _ (by rw [World.size_setCell, World.size_setCell]; exact Nat.le_refl _) (fun k h1 _ => (set_other _ _ _ _ k (by omega)).trans (set_other z _ _ _ k (by omega))), hBf⟩
end Go.Proofs.Ytldidclnfkmonaa

