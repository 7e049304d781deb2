/- RingCodes: the words and contracts, part 10. -/
import Derived.Test.YtcibihakjcenaaaRingCodesQ1
import Derived.Test.YtcibihakjcenaaaRingCodesQ2
import Derived.Test.YtcibihakjcenaaaRingCodesQ3
import Derived.Test.YtcibihakjcenaaaRingCodesQ4
import Derived.Test.YtcibihakjcenaaaRingCodesQ5
import Derived.Test.YtcibihakjcenaaaRingCodesQ6
import Derived.Test.YtcibihakjcenaaaRingCodesQ7
import Derived.Test.YtcibihakjcenaaaRingCodesQ8
import Derived.Test.YtcibihakjcenaaaRingCodesQ9
import Derived.WalkKit
import Derived.WalkLawsBesides
import Derived.WalkSpells
import Derived.Lib.Hide
import Derived.Laws.Rows
import Derived.Laws.AppendOwnNone
import Derived.Maps.AppendAt
import Derived.RangeFuncNested
import Derived.RangeFuncBound
import Derived.RangeFuncCalls
import Derived.RangeFuncLeaves
import Derived.RangeFuncBox
import Derived.Shelf.Abstract
import Derived.Shelf.RegionOpen
import Derived.OwnWalkIn
import Derived.TacticsInMore
import Derived.LoopNIn
import Derived.LoopIn
import Derived.KernelRfl
import Derived.Lib.AppendZerosOnto
import Derived.Lib.SliceRun
import Derived.Lib.Walk
import Derived.Deep.LoopGhost
import Derived.Laws.CopyOwn
import Derived.ProofKit
import Derived.Deep.Slices
import Derived.WideShapes
import Derived.OrdersHeld
import Derived.Deep.QuietTactic
import Derived.BigQuiet
import Derived.StillTailTactics
import Derived.OpenShut
import Derived.Deep.DeepCutAuto
import Derived.Laws.CopyRow
import Derived.Laws.MakeOwn
import Derived.Deep.RegionHeld
namespace Go.Proofs.Ytcibihakjcenaaa
open Go.RowKit

/-- The last 124 bytes of a sealed block, and the block. -/
def padL (l : List UInt8) : List UInt8 := l ++ List.replicate (124 - l.length) 0
def sealL (l : List UInt8) : List UInt8 := fourL (crc (padL l)).toNat ++ padL l
theorem padL_length (l : List UInt8) (h : l.length ≤ 124) : (padL l).length = 124 := by simp [padL]; omega
theorem fourL_length (n : Nat) : (fourL n).length = 4 := rfl
theorem splice_pad (l : List UInt8) (h : l.length ≤ 124) : splice (List.replicate 124 (0 : UInt8)) 0 (l.take (min l.length 124)) = padL l := by
  rw [Nat.min_eq_left h, List.take_length]
  simp only [splice, padL, List.take_zero, List.nil_append, Nat.zero_add, List.drop_replicate]

set_option maxHeartbeats 1000000 in
theorem seal_yes (v : Value) (l : List UInt8) (w : World) (hI : Bytes w 0 w.heap.size v l) (hl : l.length ≤ 124) :
    Calls Try.prog 56 #[v] w fun e w' => ∃ u, e = .returned (.tuple #[u, .int .i64 0]) ∧ MadeB w w' u (sealL l) := by
  obtain ⟨a, c, rfl, g1, g2, _, _⟩ := id hI
  go_enter Try.func56, Try.ntmps56
  go_wp2_with (first
    | (refine wpList_makeB rfl (.const (.int .i64 124)) (.const (.int .i64 124)) 26 rfl 5 Try.underlying26 info_u8 124 rfl rfl (by omega) ?_; intro w1 hrow hb1)
    | (refine wpList_copyB rfl (.tmp 9) (.tmp 10) 26 26 rfl 5 Try.underlying26 info_u8 w.heap.size 0 124 124 rfl (List.replicate 124 0) hrow _ _ _ l rfl (hI.step hb1) (by rw [List.length_replicate]; omega) w.heap.size (Nat.le_refl _) ?_; intro w2 hrow2 hb2))
  rw [splice_pad l hl] at hrow2
  have hB2 := hb1.trans hb2
  have hp := padL_length l hl
  have hbp : Bytes w2 0 w2.heap.size (.slice (some ⟨w.heap.size, 0, none⟩) 124 124) (padL l) := by
    have := hrow2.bytes (by unfold maxLen; omega)
    rw [hp] at this
    exact this.more (Nat.zero_le _) hrow2.lt
  have hc := of_any _ _ _ hbp
  have hpl := fun k h => concat_any k h
  clear hpl hrow hb1 hb2
  have HL := Lib.hid hp
  have HR := Lib.hid hrow2
  have Hc := Lib.hid hc
  clear hp hrow2 hc
  refine Hc.out.mono ?_
  rintro e w3 ⟨rfl, hb3⟩
  have hlt := (crc (padL l)).isLt
  have hbp3 := hbp.step hb3
  have hB3 := hB2.trans (hb3.mono hB2.size)
  go_wp2_with fail
  refine (four_any _ _ (by omega)).mono ?_
  rintro e w4 ⟨v4, rfl, hm4⟩
  have hbp4 := hbp3.step hm4.below
  have hB4 := hB3.trans (hm4.below.mono hB3.size)
  have hb4 := hm4.bytes.all0
  have HP := Lib.hid (And.intro hbp4 hb4)
  obtain ⟨a4, c4, rfl, _, _, _, _⟩ := id hb4
  clear hbp hbp3 hbp4 hm4 hb4 hb3 hB2 hB3 hI
  have hlast : ∀ t, Calls Try.prog 54 #[.slice (some ⟨w4.heap.size, 0, none⟩) 2 2] (w4.alloc (.cells #[.slice a4 4 c4, .slice (some ⟨w.heap.size, 0, none⟩) 124 124] t))
      fun e w' => ∃ u, e = .returned u ∧ MadeB (w4.alloc (.cells #[.slice a4 4 c4, .slice (some ⟨w.heap.size, 0, none⟩) 124 124] t)) w' u (sealL l) := fun t => by
    have hb := (Below.refl w4.heap.size w4).alloc (Nat.le_refl _) (.cells #[.slice a4 4 c4, .slice (some ⟨w.heap.size, 0, none⟩) 124 124] t)
    have h := concat_any [(.slice a4 4 c4, fourL (crc (padL l)).toNat), (.slice (some ⟨w.heap.size, 0, none⟩) 124 124, padL l)] w4.heap.size 0 2 (w4.alloc (.cells #[.slice a4 4 c4, .slice (some ⟨w.heap.size, 0, none⟩) 124 124] t)) (by simp)
      (fun i p hp => by
        rw [Nat.zero_add, World.cell?_alloc_new]
        match i, hp with
        | 0, hp => cases hp; rfl
        | 1, hp => cases hp; rfl)
      (fun p hp => by
        simp only [List.mem_cons, List.not_mem_nil, or_false] at hp
        rcases hp with rfl | rfl
        · exact HP.out.2.step hb
        · exact HP.out.1.step hb)
      (by simp) (by omega) (by have := HL.out; simp [catL, this, fourL])
    rw [show catL [(.slice a4 4 c4, fourL (crc (padL l)).toNat), (.slice (some ⟨w.heap.size, 0, none⟩) 124 124, padL l)] = sealL l by simp [catL, sealL]] at h
    exact h
  have hl4 : (fourL (crc (padL l)).toNat).length = 4 := rfl
  rw [hl4] at *
  clear hl4
  have HP' := Lib.hid hB4
  go_wp2_with fail
  refine (hlast _).mono ?_
  rintro e w5 ⟨u, rfl, hm5⟩
  go_wp2
  go_ret2
  have hb := (Below.refl w4.heap.size w4).alloc (Nat.le_refl _) (.cells #[.slice a4 4 c4, .slice (some ⟨w.heap.size, 0, none⟩) 124 124] 26)
  exact ⟨u, rfl, hm5.bytes.more (Nat.le_trans hB4.size hb.size) (Nat.le_refl _), hm5.thawed, below_step hB4 hB4.size (below_step hb hb.size hm5.below)⟩

/-- Does a block open? -/
def opensL (l : List UInt8) : Bool := getN l 0 4 == (crc (l.drop 4)).toNat
def openE (l : List UInt8) : Int := if l.length = 128 then (if opensL l then 0 else 8) else 3
def openL (l : List UInt8) : List UInt8 := if openE l = 0 then l.drop 4 else []

set_option maxHeartbeats 1000000 in
theorem open_any (v : Value) (l : List UInt8) (w : World) (hI : Bytes w 0 w.heap.size v l) :
    Calls Try.prog 59 #[v] w fun e w' => ∃ u, e = .returned (.tuple #[u, .int .i64 (openE l)]) ∧ MadeB w w' u (openL l) := by
  by_cases hl : l.length = 128
  · obtain ⟨b, off, c, rfl, g0, g1, g2, g3, g4⟩ := hI.at_ (by omega)
    clear g4
    rw [hl] at g2 hI ⊢
    unfold maxLen at g3
    have hcut := hI.cut 4 124 (c - 4) (by omega) (by omega) (by unfold maxLen; omega)
    rw [List.take_of_length_le (by simp; omega)] at hcut
    have hdl : (l.drop 4).length = 124 := by simp; omega
    have hget := getFour_any _ l 0 w hI
    have hE0 : getE l 0 4 = 0 := if_pos (by simp; omega)
    have hgl := getN_lt l 0 4
    rw [hE0] at hget
    have hc := of_any _ _ _ hcut
    have hcl := fun w1 h => clone_any _ _ w1 (hcut.step (w' := w1) h) (by omega)
    have hof := fun w1 h => of_any _ _ w1 (hcut.step (w' := w1) h)
    have hrel : opensL l = true ↔ (getN l 0 4 : Int) = ((crc (l.drop 4)).toNat : Int) := by simp only [opensL, beq_iff_eq]; omega
    unfold openL openE
    rw [if_pos hl]
    have hlt := (crc (l.drop 4)).isLt
    clear hcut hc hE0 hI
    unfold u32v at hof
    generalize crc (l.drop 4) = C at *
    generalize C.toNat = cn at *
    generalize getN l 0 4 = gn at *
    generalize l.drop 4 = d at *
    have HH := Lib.hid (And.intro hcl hof)
    clear hcl hof
    by_cases ho : opensL l = true
    · rw [hrel] at ho
      rw [if_pos (hrel.2 ho), if_pos rfl]
      obtain rfl : gn = cn := by omega
      clear hrel ho hdl
      go_enter Try.func59, Try.ntmps59
      go_wp2_with fail
      refine hget.mono ?_
      rintro e w1 ⟨rfl, hb1⟩
      go_wp2_with fail
      refine (HH.out.2 w1 hb1).mono ?_
      rintro e w2 ⟨rfl, hb2⟩
      have hb12 := below_step hb1 hb1.size hb2
      go_wp2_with fail
      refine (HH.out.1 w2 hb12).mono ?_
      rintro e w3 ⟨u, rfl, hm⟩
      go_wp2
      go_ret2
      exact ⟨u, rfl, hm.bytes.more hb12.size (Nat.le_refl _), hm.thawed, below_step hb12 hb12.size hm.below⟩
    · have hne : ¬ ((gn : Int) = (cn : Int)) := fun h => ho (hrel.2 h)
      rw [if_neg ho, if_neg (by decide)]
      clear hrel ho hdl
      go_enter Try.func59, Try.ntmps59
      go_wp2_with fail
      refine hget.mono ?_
      rintro e w1 ⟨rfl, hb1⟩
      go_wp2_with fail
      refine (HH.out.2 w1 hb1).mono ?_
      rintro e w2 ⟨rfl, hb2⟩
      go_wp2
      go_ret2
      exact ⟨_, rfl, MadeB.nil_ (below_step hb1 hb1.size hb2)⟩
  · have e1 : openE l = 3 := by simp [openE, hl]
    have e2 : openL l = [] := by simp [openL, e1]
    rw [e1, e2]
    obtain ⟨a, c, rfl, g1, g2, _, _⟩ := id hI
    clear hI e1 e2
    go_enter Try.func59, Try.ntmps59
    go_wp2
    go_ret2
    exact ⟨_, rfl, MadeB.nil_ (Below.refl _ _)⟩
end Go.Proofs.Ytcibihakjcenaaa

namespace Go.Proofs.Ytcibihakjcenaaa
open Go.RowKit

/-- A disk, and where it lies. -/
structure DR (V : World) (lo hi : Nat) (b u : Value) (d : DiskL) : Prop where
  v : DiskV V lo hi b u d
  hi : hi ≤ V.heap.size
theorem DR.step {V V' : World} {lo hi : Nat} {b u : Value} {d : DiskL} (h : DR V lo hi b u d) (hst : Below V.heap.size V V') : DR V' lo hi b u d := ⟨⟨h.v.1.below hst h.hi, h.v.2.below hst h.hi⟩, Nat.le_trans h.hi hst.size⟩
theorem DR.v0 {V : World} {lo hi : Nat} {b u : Value} {d : DiskL} (h : DR V lo hi b u d) : DiskV V 0 V.heap.size b u d := h.v.more (Nat.zero_le _) h.hi
theorem DR.of {V V' : World} {b u : Value} {d : DiskL} (h : MadeD V V' b u d) : DR V' V.heap.size V'.heap.size b u d := ⟨h.disk.v, Nat.le_refl _⟩
structure BR (V : World) (lo hi : Nat) (v : Value) (l : List UInt8) : Prop where
  v : Bytes V lo hi v l
  hi : hi ≤ V.heap.size
theorem BR.step {V V' : World} {lo hi : Nat} {v : Value} {l : List UInt8} (h : BR V lo hi v l) (hst : Below V.heap.size V V') : BR V' lo hi v l := ⟨h.v.below hst h.hi, Nat.le_trans h.hi hst.size⟩
theorem BR.v0 {V : World} {lo hi : Nat} {v : Value} {l : List UInt8} (h : BR V lo hi v l) : Bytes V 0 V.heap.size v l := h.v.more (Nat.zero_le _) h.hi

end Go.Proofs.Ytcibihakjcenaaa

namespace Go.Proofs.Ytcibihakjcenaaa
open Go.RowKit

/-- The cells of some writes. -/
def wcells (bs : List (Int × Value)) : List Value := bs.flatMap fun x => [.int .i64 x.1, x.2]
theorem wcells_length (bs : List (Int × Value)) : (wcells bs).length = bs.length * 2 := by
  induction bs with
  | nil => rfl
  | cons x l ih =>
    show ([Value.int .i64 x.1, x.2] ++ wcells l).length = _
    rw [List.length_append, ih]
    simp
    omega
theorem wcells_get (bs : List (Int × Value)) (i : Nat) (x : Int × Value) (h : bs[i]? = some x) : (wcells bs)[i * 2]? = some (.int .i64 x.1) ∧ (wcells bs)[i * 2 + 1]? = some x.2 := by
  induction bs generalizing i with
  | nil => simp at h
  | cons y l ih =>
    cases i with
    | zero => simp at h; subst h; exact ⟨rfl, rfl⟩
    | succ i =>
      obtain ⟨h1, h2⟩ := ih i (by simpa using h)
      have e : wcells (y :: l) = .int .i64 y.1 :: y.2 :: wcells l := rfl
      rw [e, show (i + 1) * 2 = i * 2 + 1 + 1 by omega, show i * 2 + 1 + 1 + 1 = (i * 2 + 1) + 1 + 1 by omega, List.getElem?_cons_succ, List.getElem?_cons_succ, List.getElem?_cons_succ, List.getElem?_cons_succ]
      exact ⟨h1, h2⟩
theorem wcells_inv (bs : List (Int × Value)) (j : Nat) (u : Value) (h : (wcells bs)[j]? = some u) : ∃ i x, bs[i]? = some x ∧ ((j = i * 2 ∧ u = .int .i64 x.1) ∨ (j = i * 2 + 1 ∧ u = x.2)) := by
  have hj : j < bs.length * 2 := by rw [← wcells_length]; exact (List.getElem?_eq_some_iff.1 h).1
  have hi : j / 2 < bs.length := by omega
  refine ⟨j / 2, bs[j / 2], by simp [hi], ?_⟩
  obtain ⟨h1, h2⟩ := wcells_get bs (j / 2) bs[j / 2] (by simp [hi])
  rcases Nat.mod_two_eq_zero_or_one j with e | e
  · left
    have e2 : j = j / 2 * 2 := by omega
    rw [e2] at h
    exact ⟨e2, Option.some.inj (h.symm.trans h1)⟩
  · right
    have e2 : j = j / 2 * 2 + 1 := by omega
    rw [e2] at h
    exact ⟨e2, Option.some.inj (h.symm.trans h2)⟩

/-- Writes that may be appended: their cells are there; their bytes lie in W. -/
def SrcW (W w : World) (sv : Value) (l : List WrL) : Prop := ∃ a c, sv = .slice a l.length c ∧ (a = none → c = 0 ∧ l = []) ∧
  ∃ bs : List (Int × Value), bs.length = l.length ∧ (∀ (i : Nat) (x : WrL), l[i]? = some x → ∃ y : Value, bs[i]? = some (x.at_, y) ∧ (Lit.int .i64 x.at_).wf = true ∧ Bytes W 0 W.heap.size y x.data) ∧
    ∀ ad, a = some ad → ∀ j u, (wcells bs)[j]? = some u → w.cell? (ad.add j) = some u
theorem SrcW.of {W w : World} {sv : Value} {l : List WrL} (h : Sl rWrite W 0 W.heap.size sv l) (hB : Below W.heap.size W w) : SrcW W w sv l := by
  obtain ⟨a, c, rfl, h1, h2, h3, h4⟩ := id h
  refine ⟨a, c, rfl, fun e => ⟨h4 e, List.eq_nil_of_length_eq_zero (by have := h4 e; omega)⟩, ?_⟩
  obtain ⟨bs, hbl, hba⟩ := list_of (n := l.length) (p := fun i (x : Int × Value) => x.1 = (l.getD i ⟨0, []⟩).at_ ∧ (Lit.int .i64 x.1).wf = true ∧ Bytes W 0 W.heap.size x.2 (l.getD i ⟨0, []⟩).data ∧ ∀ ad, a = some ad → W.cell? (ad.add (i * 2)) = some (.int .i64 x.1) ∧ W.cell? (ad.add (i * 2 + 1)) = some x.2 ∧ ad.block < W.heap.size ∧ ad.spot = none) (fun i hi => by
    obtain ⟨b, off, rfl, hlo, hhi, hc⟩ := h3 (by omega)
    obtain ⟨f0, f1, v, f2, f3⟩ := hc i _ (get_l l ⟨0, []⟩ i hi)
    refine ⟨((l.getD i ⟨0, []⟩).at_, v), rfl, f1, f3, fun ad e => ?_⟩
    cases e
    have e2 : ∀ j, (⟨b, off, none⟩ : Addr).add j = ⟨b, off + j, none⟩ := fun j => by unfold Addr.add; split <;> simp_all
    rw [e2, e2]
    exact ⟨f0, f2, hhi, rfl⟩)
  refine ⟨bs, hbl, fun i x hx => ?_, fun ad e j u hj => ?_⟩
  · have hi : i < l.length := (List.getElem?_eq_some_iff.1 hx).1
    have hb : bs[i]? = some (bs[i]'(by omega)) := by simp
    obtain ⟨p1, p2, p3, -⟩ := hba i _ hb
    rw [get_l l ⟨0, []⟩ i hi] at hx
    cases hx
    refine ⟨(bs[i]'(by omega)).2, ?_, by rw [← p1]; exact p2, p3⟩
    rw [hb, ← p1]
  · obtain ⟨i, x, hx, hh⟩ := wcells_inv bs j u hj
    obtain ⟨-, -, -, p4⟩ := hba i x hx
    obtain ⟨q1, q2, q3, q4⟩ := p4 ad e
    have hk : ∀ k, w.cell? (ad.add k) = W.cell? (ad.add k) := fun k => by
      obtain ⟨bb, oo, ss⟩ := ad
      simp only at q3 q4
      subst q4
      have e2 : (⟨bb, oo, none⟩ : Addr).add k = ⟨bb, oo + k, none⟩ := by unfold Addr.add; split <;> simp_all
      rw [e2]
      exact hB.cell (p := ⟨bb, oo + k, none⟩) q3
    rcases hh with ⟨rfl, rfl⟩ | ⟨rfl, rfl⟩
    · rw [hk]; exact q1
    · rw [hk]; exact q2
theorem OwnW.same {base : Nat} {W w w' : World} {v : Value} {l : List WrL} (h : OwnW base W w v l) (hs : ∀ k, base ≤ k → ∀ o, w.heap[k]? = some o → w'.heap[k]? = some o) : OwnW base W w' v l := by
  obtain ⟨xs, ⟨hl, hrow⟩, hx⟩ := h
  refine ⟨xs, ⟨hl, ?_⟩, hx⟩
  rcases hrow with h | ⟨g, cap, cur, e, hg, hh, h1, h2, h3, h4⟩
  · exact .inl h
  · exact .inr ⟨g, cap, cur, e, hg, hs g hg _ hh, h1, h2, h3, h4⟩
theorem OwnW.alloc {base : Nat} {W w : World} {v : Value} {l : List WrL} (h : OwnW base W w v l) (o : Obj) : OwnW base W (w.alloc o) v l :=
  h.same fun k _ _ hx => (Below.heap_alloc w o k (Array.getElem?_eq_some_iff.1 hx).1).trans hx

/-- What a call answered: a disk; nothing that was there has turned. -/
structure GotD (w w' : World) (b u : Value) (d : DiskL) : Prop where
  disk : DiskV w' 0 w'.heap.size b u d
  below : Below w.heap.size w w'
/-- A disk whose data lies below hi, or in what was made from w on. -/
structure GotK (hi : Nat) (w w' : World) (b u : Value) (d : DiskL) : Prop where
  disk : ∀ W : World, w'.heap.size ≤ W.heap.size → (∀ k, k < hi ∨ w.heap.size ≤ k → k < w'.heap.size → W.heap[k]? = w'.heap[k]?) → DiskV W 0 W.heap.size b u d
  below : Below w.heap.size w w'
end Go.Proofs.Ytcibihakjcenaaa

namespace Go.Proofs.Ytcibihakjcenaaa
open Go.RowKit

theorem GotD.nil_ {w w' : World} (h : Below w.heap.size w w') : GotD w w' (.slice none 0 0) (.slice none 0 0) ⟨[], []⟩ := ⟨DiskV.nil_ _ _ _, h⟩

theorem GotK.nil_ {hi : Nat} {w w' : World} (h : Below w.heap.size w w') : GotK hi w w' (.slice none 0 0) (.slice none 0 0) ⟨[], []⟩ := ⟨fun _ _ _ => ⟨Sl.nil_ _ _ _, Sl.nil_ _ _ _⟩, h⟩
end Go.Proofs.Ytcibihakjcenaaa

namespace Go.Proofs.Ytcibihakjcenaaa
open Go.RowKit

theorem OwnW.src {base : Nat} {W w : World} {v : Value} {l : List WrL} (h : OwnW base W w v l) : SrcW W w v l := by
  obtain ⟨xs, ⟨hl, hrow⟩, hx⟩ := h
  obtain ⟨bs, hbl, hba⟩ := list_of (n := l.length) (p := fun i (b : Int × Value) => b.1 = (l.getD i ⟨0, []⟩).at_ ∧ (Lit.int .i64 b.1).wf = true ∧ Bytes W 0 W.heap.size b.2 (l.getD i ⟨0, []⟩).data ∧ xs[i * 2]? = some (.int .i64 b.1) ∧ xs[i * 2 + 1]? = some b.2) (fun i hi => by
    obtain ⟨⟨p1, p2⟩, y, p3, p4⟩ := hx i _ (get_l l ⟨0, []⟩ i hi)
    exact ⟨((l.getD i ⟨0, []⟩).at_, y), rfl, p2, p4, p1, p3⟩)
  have hba2 : ∀ (i : Nat) (x : WrL), l[i]? = some x → ∃ y : Value, bs[i]? = some (x.at_, y) ∧ (Lit.int .i64 x.at_).wf = true ∧ Bytes W 0 W.heap.size y x.data := fun i x hxi => by
    have hi : i < l.length := (List.getElem?_eq_some_iff.1 hxi).1
    have hb : bs[i]? = some (bs[i]'(by omega)) := by simp
    obtain ⟨p1, p2, p3, -, -⟩ := hba i _ hb
    rw [get_l l ⟨0, []⟩ i hi] at hxi
    cases hxi
    exact ⟨(bs[i]'(by omega)).2, by rw [hb, ← p1], by rw [← p1]; exact p2, p3⟩
  rcases hrow with ⟨rfl, h0⟩ | ⟨g, cap, cur, rfl, hg, hh, h1, h2, h3, h4⟩
  · have e : l = [] := List.eq_nil_of_length_eq_zero (by omega)
    exact ⟨none, 0, by rw [e]; rfl, fun _ => ⟨rfl, e⟩, bs, hbl, hba2, fun ad e => by cases e⟩
  · refine ⟨_, _, rfl, fun e => (by cases e), bs, hbl, hba2, fun ad e j u hj => ?_⟩
    cases e
    have e2 : (⟨g, 0, none⟩ : Addr).add j = ⟨g, j, none⟩ := by unfold Addr.add; split <;> simp_all
    obtain ⟨i, x, hxi, hh2⟩ := wcells_inv bs j u hj
    obtain ⟨-, -, -, q1, q2⟩ := hba i x hxi
    have hxj : xs[j]? = some u := by
      rcases hh2 with ⟨rfl, rfl⟩ | ⟨rfl, rfl⟩
      · exact q1
      · exact q2
    rw [e2, blk_cell hh, ← hxj, ← h4, List.getElem?_take, if_pos]
    · simp
    · have := (List.getElem?_eq_some_iff.1 hxj).1
      rw [hl] at this
      exact this
end Go.Proofs.Ytcibihakjcenaaa

namespace Go.Proofs.Ytcibihakjcenaaa
open Go.RowKit

/-- The blocks of a call's own variables. -/
def boxS (lo n : Nat) (k : Nat) : Bool := decide (lo ≤ k) && decide (k < lo + n)
theorem boxS_no {lo n k : Nat} (h : lo + n ≤ k) : boxS lo n k = false := by unfold boxS; simp; omega
theorem boxS_yes {lo n k : Nat} (h1 : lo ≤ k) (h2 : k < lo + n) : boxS lo n k = true := by unfold boxS; simp; omega
end Go.Proofs.Ytcibihakjcenaaa

namespace Go.Proofs.Ytcibihakjcenaaa
open Go.RowKit

/-- An item that may be written. -/
def rItemT : Rd ItemL where
  n := 5
  R w lo hi x f := f 0 = some (bV x.key.kind) ∧ f 1 = some (wV x.key.id) ∧ f 2 = some (wV x.key.off) ∧ f 3 = some (.int .i64 x.ref) ∧ (Lit.int .i64 x.ref).wf = true ∧ ∃ v, f 4 = some v ∧ Bytes w lo hi v x.val ∧ Thawed w v
  keep hk h := by obtain ⟨g0, g1, g2, g3, g4, v, h1, h2, h3⟩ := h; exact ⟨g0, g1, g2, g3, g4, v, h1, h2.kept hk, thawed_kept h2 h3 hk⟩
  more h1 h2 h := by obtain ⟨g0, g1, g2, g3, g4, v, k1, k2, k3⟩ := h; exact ⟨g0, g1, g2, g3, g4, v, k1, k2.more h1 h2, k3⟩
  ext he h := by
    obtain ⟨g0, g1, g2, g3, g4, v, k1, k2⟩ := h
    exact ⟨(he 0 (by decide)) ▸ g0, (he 1 (by decide)) ▸ g1, (he 2 (by decide)) ▸ g2, (he 3 (by decide)) ▸ g3, g4, v, (he 4 (by decide)) ▸ k1, k2⟩
theorem sl_itemT {w : World} {lo hi : Nat} {v : Value} {l : List ItemL} (h : Sl rItemT w lo hi v l) : Sl rItem w lo hi v l := h.imp rfl fun x f hh => by
  obtain ⟨g0, g1, g2, g3, g4, v, k1, k2, -⟩ := hh
  exact ⟨g0, g1, g2, g3, g4, v, k1, k2⟩
/-- What a call made: items in new memory that may be written. -/
structure MadeN (w w' : World) (v : Value) (l : List ItemL) : Prop where
  items : Sl rItemT w' w.heap.size w'.heap.size v l
  row : ∀ g o, v.ownBlock = some g → w'.frozen? ⟨g, o, none⟩ = false
  below : Below w.heap.size w w'
theorem MadeN.nil_ {w w' : World} (h : Below w.heap.size w w') : MadeN w w' (.slice none 0 0) [] := ⟨Sl.nil_ _ _ _, fun g o h => (by cases h), h⟩
theorem MadeN.v0 {w w' : World} {v : Value} {l : List ItemL} (h : MadeN w w' v l) : Sl rItem w' 0 w'.heap.size v l := (sl_itemT h.items).all0
end Go.Proofs.Ytcibihakjcenaaa

namespace Go.Proofs.Ytcibihakjcenaaa
open Go.RowKit

def KeepC (n₀ Bs : Nat) (A B : World) : Prop := Below n₀ A B ∧ B.cell? ⟨Bs, 0, none⟩ = A.cell? ⟨Bs, 0, none⟩ ∧ B.cell? ⟨Bs + 1, 0, none⟩ = A.cell? ⟨Bs + 1, 0, none⟩
theorem KeepC.refl (n₀ Bs : Nat) (A : World) : KeepC n₀ Bs A A := ⟨Below.refl _ _, rfl, rfl⟩
theorem KeepC.trans {n₀ Bs : Nat} {A B C : World} (h : KeepC n₀ Bs A B) (k : KeepC n₀ Bs B C) : KeepC n₀ Bs A C := ⟨h.1.trans k.1, k.2.1.trans h.2.1, k.2.2.trans h.2.2⟩
end Go.Proofs.Ytcibihakjcenaaa

