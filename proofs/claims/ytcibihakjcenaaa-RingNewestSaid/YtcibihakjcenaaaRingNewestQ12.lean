/- RingNewest: the words and contracts, part 12. -/
import Derived.Test.YtcibihakjcenaaaRingNewestQ1
import Derived.Test.YtcibihakjcenaaaRingNewestQ2
import Derived.Test.YtcibihakjcenaaaRingNewestQ3
import Derived.Test.YtcibihakjcenaaaRingNewestQ4
import Derived.Test.YtcibihakjcenaaaRingNewestQ5
import Derived.Test.YtcibihakjcenaaaRingNewestQ6
import Derived.Test.YtcibihakjcenaaaRingNewestQ7
import Derived.Test.YtcibihakjcenaaaRingNewestQ8
import Derived.Test.YtcibihakjcenaaaRingNewestQ9
import Derived.Test.YtcibihakjcenaaaRingNewestQ10
import Derived.Test.YtcibihakjcenaaaRingNewestQ11
import Derived.Test.YtcibihakjcenaaaChecked
import Derived.WalkKit
import Derived.WalkLawsBesides
import Derived.WalkSpells
import Derived.Lib.Hide
import Derived.Laws.Rows
import Derived.Laws.AppendOwnNone
import Derived.Maps.AppendAt
import Derived.RangeFuncNested
import Derived.RangeFuncBound
import Derived.RangeFuncCalls
import Derived.RangeFuncLeaves
import Derived.RangeFuncBox
import Derived.Shelf.Abstract
import Derived.Shelf.RegionOpen
import Derived.OwnWalkIn
import Derived.TacticsInMore
import Derived.LoopNIn
import Derived.LoopIn
import Derived.KernelRfl
import Derived.Lib.AppendZerosOnto
import Derived.Lib.SliceRun
import Derived.Lib.Walk
import Derived.Deep.LoopGhost
import Derived.Laws.CopyOwn
import Derived.ProofKit
import Derived.Deep.Slices
import Derived.WideShapes
import Derived.OrdersHeld
import Derived.Deep.QuietTactic
import Derived.BigQuiet
import Derived.StillTailTactics
import Derived.OpenShut
import Derived.Deep.DeepCutAuto
import Derived.Laws.CopyRow
import Derived.Laws.MakeOwn
import Derived.Deep.RegionHeld
import Derived.BigFrameIn
import Derived.ShutString
import Derived.ChangeOld
import Derived.Below
namespace Go.Proofs.Ytcibihakjcenaaa
open Go.RowKit

/-- The last 124 bytes of a sealed block, and the block. -/
def padL (l : List UInt8) : List UInt8 := l ++ List.replicate (124 - l.length) 0
def sealL (l : List UInt8) : List UInt8 := fourL (crc (padL l)).toNat ++ padL l
theorem padL_length (l : List UInt8) (h : l.length ≤ 124) : (padL l).length = 124 := by simp [padL]; omega
theorem fourL_length (n : Nat) : (fourL n).length = 4 := rfl
theorem sealL_length (l : List UInt8) (h : l.length ≤ 124) : (sealL l).length = 128 := by simp [sealL, fourL_length, padL_length l h]
theorem splice_pad (l : List UInt8) (h : l.length ≤ 124) : splice (List.replicate 124 (0 : UInt8)) 0 (l.take (min l.length 124)) = padL l := by
  rw [Nat.min_eq_left h, List.take_length]
  simp only [splice, padL, List.take_zero, List.nil_append, Nat.zero_add, List.drop_replicate]

set_option maxHeartbeats 1000000 in
theorem seal_yes (v : Value) (l : List UInt8) (w : World) (hI : Bytes w 0 w.heap.size v l) (hl : l.length ≤ 124) :
    Calls Try.prog 56 #[v] w fun e w' => ∃ u, e = .returned (.tuple #[u, .int .i64 0]) ∧ MadeB w w' u (sealL l) := by
  obtain ⟨a, c, rfl, g1, g2, _, _⟩ := id hI
  go_enter Try.func56, Try.ntmps56
  go_wp2_with (first
    | (refine wpList_makeB rfl (.const (.int .i64 124)) (.const (.int .i64 124)) 26 rfl 5 Try.underlying26 info_u8 124 rfl rfl (by omega) ?_; intro w1 hrow hb1)
    | (refine wpList_copyB rfl (.tmp 9) (.tmp 10) 26 26 rfl 5 Try.underlying26 info_u8 w.heap.size 0 124 124 rfl (List.replicate 124 0) hrow _ _ _ l rfl (hI.step hb1) (by rw [List.length_replicate]; omega) w.heap.size (Nat.le_refl _) ?_; intro w2 hrow2 hb2))
  rw [splice_pad l hl] at hrow2
  have hB2 := hb1.trans hb2
  have hp := padL_length l hl
  have hbp : Bytes w2 0 w2.heap.size (.slice (some ⟨w.heap.size, 0, none⟩) 124 124) (padL l) := by
    have := hrow2.bytes (by unfold maxLen; omega)
    rw [hp] at this
    exact this.more (Nat.zero_le _) hrow2.lt
  have hc := of_any _ _ _ hbp
  have hpl := fun k h => concat_any k h
  clear hpl hrow hb1 hb2
  have HL := Lib.hid hp
  have HR := Lib.hid hrow2
  have Hc := Lib.hid hc
  clear hp hrow2 hc
  refine Hc.out.mono ?_
  rintro e w3 ⟨rfl, hb3⟩
  have hlt := (crc (padL l)).isLt
  have hbp3 := hbp.step hb3
  have hB3 := hB2.trans (hb3.mono hB2.size)
  go_wp2_with fail
  refine (four_any _ _ (by omega)).mono ?_
  rintro e w4 ⟨v4, rfl, hm4⟩
  have hbp4 := hbp3.step hm4.below
  have hB4 := hB3.trans (hm4.below.mono hB3.size)
  have hb4 := hm4.bytes.all0
  have HP := Lib.hid (And.intro hbp4 hb4)
  obtain ⟨a4, c4, rfl, _, _, _, _⟩ := id hb4
  clear hbp hbp3 hbp4 hm4 hb4 hb3 hB2 hB3 hI
  have hlast : ∀ t, Calls Try.prog 54 #[.slice (some ⟨w4.heap.size, 0, none⟩) 2 2] (w4.alloc (.cells #[.slice a4 4 c4, .slice (some ⟨w.heap.size, 0, none⟩) 124 124] t))
      fun e w' => ∃ u, e = .returned u ∧ MadeB (w4.alloc (.cells #[.slice a4 4 c4, .slice (some ⟨w.heap.size, 0, none⟩) 124 124] t)) w' u (sealL l) := fun t => by
    have hb := (Below.refl w4.heap.size w4).alloc (Nat.le_refl _) (.cells #[.slice a4 4 c4, .slice (some ⟨w.heap.size, 0, none⟩) 124 124] t)
    have h := concat_any [(.slice a4 4 c4, fourL (crc (padL l)).toNat), (.slice (some ⟨w.heap.size, 0, none⟩) 124 124, padL l)] w4.heap.size 0 2 (w4.alloc (.cells #[.slice a4 4 c4, .slice (some ⟨w.heap.size, 0, none⟩) 124 124] t)) (by simp)
      (fun i p hp => by
        rw [Nat.zero_add, World.cell?_alloc_new]
        match i, hp with
        | 0, hp => cases hp; rfl
        | 1, hp => cases hp; rfl)
      (fun p hp => by
        simp only [List.mem_cons, List.not_mem_nil, or_false] at hp
        rcases hp with rfl | rfl
        · exact HP.out.2.step hb
        · exact HP.out.1.step hb)
      (by simp) (by omega) (by have := HL.out; simp [catL, this, fourL])
    rw [show catL [(.slice a4 4 c4, fourL (crc (padL l)).toNat), (.slice (some ⟨w.heap.size, 0, none⟩) 124 124, padL l)] = sealL l by simp [catL, sealL]] at h
    exact h
  have hl4 : (fourL (crc (padL l)).toNat).length = 4 := rfl
  rw [hl4] at *
  clear hl4
  have HP' := Lib.hid hB4
  go_wp2_with fail
  refine (hlast _).mono ?_
  rintro e w5 ⟨u, rfl, hm5⟩
  go_wp2
  go_ret2
  have hb := (Below.refl w4.heap.size w4).alloc (Nat.le_refl _) (.cells #[.slice a4 4 c4, .slice (some ⟨w.heap.size, 0, none⟩) 124 124] 26)
  exact ⟨u, rfl, hm5.bytes.more (Nat.le_trans hB4.size hb.size) (Nat.le_refl _), hm5.thawed, below_step hB4 hB4.size (below_step hb hb.size hm5.below)⟩

/-- Does a block open? -/
def opensL (l : List UInt8) : Bool := getN l 0 4 == (crc (l.drop 4)).toNat
def openE (l : List UInt8) : Int := if l.length = 128 then (if opensL l then 0 else 8) else 3
def openL (l : List UInt8) : List UInt8 := if openE l = 0 then l.drop 4 else []

set_option maxHeartbeats 1000000 in
theorem open_any (v : Value) (l : List UInt8) (w : World) (hI : Bytes w 0 w.heap.size v l) :
    Calls Try.prog 59 #[v] w fun e w' => ∃ u, e = .returned (.tuple #[u, .int .i64 (openE l)]) ∧ MadeB w w' u (openL l) := by
  by_cases hl : l.length = 128
  · obtain ⟨b, off, c, rfl, g0, g1, g2, g3, g4⟩ := hI.at_ (by omega)
    clear g4
    rw [hl] at g2 hI ⊢
    unfold maxLen at g3
    have hcut := hI.cut 4 124 (c - 4) (by omega) (by omega) (by unfold maxLen; omega)
    rw [List.take_of_length_le (by simp; omega)] at hcut
    have hdl : (l.drop 4).length = 124 := by simp; omega
    have hget := getFour_any _ l 0 w hI
    have hE0 : getE l 0 4 = 0 := if_pos (by simp; omega)
    have hgl := getN_lt l 0 4
    rw [hE0] at hget
    have hc := of_any _ _ _ hcut
    have hcl := fun w1 h => clone_any _ _ w1 (hcut.step (w' := w1) h) (by omega)
    have hof := fun w1 h => of_any _ _ w1 (hcut.step (w' := w1) h)
    have hrel : opensL l = true ↔ (getN l 0 4 : Int) = ((crc (l.drop 4)).toNat : Int) := by simp only [opensL, beq_iff_eq]; omega
    unfold openL openE
    rw [if_pos hl]
    have hlt := (crc (l.drop 4)).isLt
    clear hcut hc hE0 hI
    unfold u32v at hof
    generalize crc (l.drop 4) = C at *
    generalize C.toNat = cn at *
    generalize getN l 0 4 = gn at *
    generalize l.drop 4 = d at *
    have HH := Lib.hid (And.intro hcl hof)
    clear hcl hof
    by_cases ho : opensL l = true
    · rw [hrel] at ho
      rw [if_pos (hrel.2 ho), if_pos rfl]
      obtain rfl : gn = cn := by omega
      clear hrel ho hdl
      go_enter Try.func59, Try.ntmps59
      go_wp2_with fail
      refine hget.mono ?_
      rintro e w1 ⟨rfl, hb1⟩
      go_wp2_with fail
      refine (HH.out.2 w1 hb1).mono ?_
      rintro e w2 ⟨rfl, hb2⟩
      have hb12 := below_step hb1 hb1.size hb2
      go_wp2_with fail
      refine (HH.out.1 w2 hb12).mono ?_
      rintro e w3 ⟨u, rfl, hm⟩
      go_wp2
      go_ret2
      exact ⟨u, rfl, hm.bytes.more hb12.size (Nat.le_refl _), hm.thawed, below_step hb12 hb12.size hm.below⟩
    · have hne : ¬ ((gn : Int) = (cn : Int)) := fun h => ho (hrel.2 h)
      rw [if_neg ho, if_neg (by decide)]
      clear hrel ho hdl
      go_enter Try.func59, Try.ntmps59
      go_wp2_with fail
      refine hget.mono ?_
      rintro e w1 ⟨rfl, hb1⟩
      go_wp2_with fail
      refine (HH.out.2 w1 hb1).mono ?_
      rintro e w2 ⟨rfl, hb2⟩
      go_wp2
      go_ret2
      exact ⟨_, rfl, MadeB.nil_ (below_step hb1 hb1.size hb2)⟩
  · have e1 : openE l = 3 := by simp [openE, hl]
    have e2 : openL l = [] := by simp [openL, e1]
    rw [e1, e2]
    obtain ⟨a, c, rfl, g1, g2, _, _⟩ := id hI
    clear hI e1 e2
    go_enter Try.func59, Try.ntmps59
    go_wp2
    go_ret2
    exact ⟨_, rfl, MadeB.nil_ (Below.refl _ _)⟩
end Go.Proofs.Ytcibihakjcenaaa

namespace Go.Proofs.Ytcibihakjcenaaa
open Go.RowKit

theorem errA_may {d : DiskL} (p : Int) (h : mayD d = true) : errA d p = if p < 0 ∨ 256 ≤ p then 2 else 0 := by
  unfold errA
  rw [if_pos h]
theorem may_of (bl : List (List UInt8)) (wl : List WrL) (h1 : bl.length = 256) (h2 : wl.length ≤ 4096) (h3 : ∀ x ∈ bl, x.length = 128) (h4 : ∀ x ∈ wl, 0 ≤ x.at_ ∧ x.at_ < 256 ∧ x.data.length = 128) : mayD ⟨bl, wl⟩ = true := by
  unfold mayD okW
  simp only [Bool.and_eq_true, beq_iff_eq, decide_eq_true_eq, List.all_eq_true]
  exact ⟨⟨⟨h1, h2⟩, h3⟩, fun x hx => ⟨⟨(h4 x hx).1, (h4 x hx).2.1⟩, (h4 x hx).2.2⟩⟩
theorem errW_zero {d : DiskL} {p : Int} {l : List UInt8} (h : errW d p l = 0) : mayD d = true ∧ 0 ≤ p ∧ p < 256 ∧ l.length = 128 ∧ d.waits.length < 4096 ∧ errA d p = 0 := by
  unfold errW at h
  split at h
  · rename_i h1; exact absurd h h1
  · rename_i h1
    split at h
    · cases h
    · rename_i h2
      split at h
      · cases h
      · rename_i h3
        have h1' : errA d p = 0 := by
          rcases Decidable.em (errA d p = 0) with e | e
          · exact e
          · exact absurd e h1
        have h4 := errA_zero h1'
        have h5 := may_len h4.1
        have h2' : l.length = 128 := by
          rcases Decidable.em (l.length = 128) with e | e
          · exact e
          · exact absurd e h2
        exact ⟨h4.1, h4.2.1, h4.2.2, h2', by omega, h1'⟩
theorem write_may {d : DiskL} {p : Int} {l : List UInt8} (h : errW d p l = 0) : writeD d p l = ⟨d.blocks, d.waits ++ [⟨p, l⟩]⟩ ∧ mayD (writeD d p l) = true := by
  have e : writeD d p l = ⟨d.blocks, d.waits ++ [⟨p, l⟩]⟩ := by unfold writeD; rw [if_pos h]
  refine ⟨e, ?_⟩
  rw [e]
  obtain ⟨h1, h2, h3, h4, h5, -⟩ := errW_zero h
  obtain ⟨m1, m2, m3, m4⟩ := may_len h1
  refine may_of _ _ m1 (by rw [List.length_append]; simp; omega) m3 (fun x hx => ?_)
  rcases List.mem_append.1 hx with hx | hx
  · exact m4 x hx
  · obtain rfl := List.mem_singleton.1 hx
    exact ⟨h2, h3, h4⟩
end Go.Proofs.Ytcibihakjcenaaa

namespace Go.Proofs.Ytcibihakjcenaaa
open Go.RowKit

theorem errA_same {d e : DiskL} (p : Int) (h : mayD d = true) (h' : mayD e = true) : errA d p = errA e p := by rw [errA_may p h, errA_may p h']
theorem read_write_self {d : DiskL} {p : Int} {l : List UInt8} (h : errW d p l = 0) : readB (writeD d p l) p = l := by
  have hw := write_may h
  have hz := errW_zero h
  unfold readB
  rw [errA_same p hw.2 hz.1, hz.2.2.2.2.2, if_pos rfl, hw.1]
  unfold seenD
  simp only
  rw [lastW_app, if_pos rfl]
theorem read_write_other {d : DiskL} {p q : Int} {l : List UInt8} (h : errW d p l = 0) (hne : q ≠ p) : readB (writeD d p l) q = readB d q := by
  have hw := write_may h
  have hz := errW_zero h
  unfold readB
  rw [errA_same q hw.2 hz.1, hw.1]
  unfold seenD
  simp only
  rw [lastW_app]
  rw [if_neg (c := p = q) (fun e => hne e.symm)]

end Go.Proofs.Ytcibihakjcenaaa

namespace Go.Proofs.Ytcibihakjcenaaa
open Go.RowKit

/-- A disk, and where it lies. -/
structure DR (V : World) (lo hi : Nat) (b u : Value) (d : DiskL) : Prop where
  v : DiskV V lo hi b u d
  hi : hi ≤ V.heap.size
theorem DR.step {V V' : World} {lo hi : Nat} {b u : Value} {d : DiskL} (h : DR V lo hi b u d) (hst : Below V.heap.size V V') : DR V' lo hi b u d := ⟨⟨h.v.1.below hst h.hi, h.v.2.below hst h.hi⟩, Nat.le_trans h.hi hst.size⟩
theorem DR.v0 {V : World} {lo hi : Nat} {b u : Value} {d : DiskL} (h : DR V lo hi b u d) : DiskV V 0 V.heap.size b u d := h.v.more (Nat.zero_le _) h.hi
theorem DR.of {V V' : World} {b u : Value} {d : DiskL} (h : MadeD V V' b u d) : DR V' V.heap.size V'.heap.size b u d := ⟨h.disk.v, Nat.le_refl _⟩
structure BR (V : World) (lo hi : Nat) (v : Value) (l : List UInt8) : Prop where
  v : Bytes V lo hi v l
  hi : hi ≤ V.heap.size
theorem BR.step {V V' : World} {lo hi : Nat} {v : Value} {l : List UInt8} (h : BR V lo hi v l) (hst : Below V.heap.size V V') : BR V' lo hi v l := ⟨h.v.below hst h.hi, Nat.le_trans h.hi hst.size⟩
theorem BR.v0 {V : World} {lo hi : Nat} {v : Value} {l : List UInt8} (h : BR V lo hi v l) : Bytes V 0 V.heap.size v l := h.v.more (Nat.zero_le _) h.hi

end Go.Proofs.Ytcibihakjcenaaa

namespace Go.Proofs.Ytcibihakjcenaaa
open Go.RowKit

/-- The cells of some writes. -/
def wcells (bs : List (Int × Value)) : List Value := bs.flatMap fun x => [.int .i64 x.1, x.2]
theorem wcells_length (bs : List (Int × Value)) : (wcells bs).length = bs.length * 2 := by
  induction bs with
  | nil => rfl
  | cons x l ih =>
    show ([Value.int .i64 x.1, x.2] ++ wcells l).length = _
    rw [List.length_append, ih]
    simp
    omega
theorem wcells_get (bs : List (Int × Value)) (i : Nat) (x : Int × Value) (h : bs[i]? = some x) : (wcells bs)[i * 2]? = some (.int .i64 x.1) ∧ (wcells bs)[i * 2 + 1]? = some x.2 := by
  induction bs generalizing i with
  | nil => simp at h
  | cons y l ih =>
    cases i with
    | zero => simp at h; subst h; exact ⟨rfl, rfl⟩
    | succ i =>
      obtain ⟨h1, h2⟩ := ih i (by simpa using h)
      have e : wcells (y :: l) = .int .i64 y.1 :: y.2 :: wcells l := rfl
      rw [e, show (i + 1) * 2 = i * 2 + 1 + 1 by omega, show i * 2 + 1 + 1 + 1 = (i * 2 + 1) + 1 + 1 by omega, List.getElem?_cons_succ, List.getElem?_cons_succ, List.getElem?_cons_succ, List.getElem?_cons_succ]
      exact ⟨h1, h2⟩
theorem wcells_inv (bs : List (Int × Value)) (j : Nat) (u : Value) (h : (wcells bs)[j]? = some u) : ∃ i x, bs[i]? = some x ∧ ((j = i * 2 ∧ u = .int .i64 x.1) ∨ (j = i * 2 + 1 ∧ u = x.2)) := by
  have hj : j < bs.length * 2 := by rw [← wcells_length]; exact (List.getElem?_eq_some_iff.1 h).1
  have hi : j / 2 < bs.length := by omega
  refine ⟨j / 2, bs[j / 2], by simp [hi], ?_⟩
  obtain ⟨h1, h2⟩ := wcells_get bs (j / 2) bs[j / 2] (by simp [hi])
  rcases Nat.mod_two_eq_zero_or_one j with e | e
  · left
    have e2 : j = j / 2 * 2 := by omega
    rw [e2] at h
    exact ⟨e2, Option.some.inj (h.symm.trans h1)⟩
  · right
    have e2 : j = j / 2 * 2 + 1 := by omega
    rw [e2] at h
    exact ⟨e2, Option.some.inj (h.symm.trans h2)⟩

/-- Writes that may be appended: their cells are there; their bytes lie in W. -/
def SrcW (W w : World) (sv : Value) (l : List WrL) : Prop := ∃ a c, sv = .slice a l.length c ∧ (a = none → c = 0 ∧ l = []) ∧
  ∃ bs : List (Int × Value), bs.length = l.length ∧ (∀ (i : Nat) (x : WrL), l[i]? = some x → ∃ y : Value, bs[i]? = some (x.at_, y) ∧ (Lit.int .i64 x.at_).wf = true ∧ Bytes W 0 W.heap.size y x.data) ∧
    ∀ ad, a = some ad → ∀ j u, (wcells bs)[j]? = some u → w.cell? (ad.add j) = some u
theorem SrcW.of {W w : World} {sv : Value} {l : List WrL} (h : Sl rWrite W 0 W.heap.size sv l) (hB : Below W.heap.size W w) : SrcW W w sv l := by
  obtain ⟨a, c, rfl, h1, h2, h3, h4⟩ := id h
  refine ⟨a, c, rfl, fun e => ⟨h4 e, List.eq_nil_of_length_eq_zero (by have := h4 e; omega)⟩, ?_⟩
  obtain ⟨bs, hbl, hba⟩ := list_of (n := l.length) (p := fun i (x : Int × Value) => x.1 = (l.getD i ⟨0, []⟩).at_ ∧ (Lit.int .i64 x.1).wf = true ∧ Bytes W 0 W.heap.size x.2 (l.getD i ⟨0, []⟩).data ∧ ∀ ad, a = some ad → W.cell? (ad.add (i * 2)) = some (.int .i64 x.1) ∧ W.cell? (ad.add (i * 2 + 1)) = some x.2 ∧ ad.block < W.heap.size ∧ ad.spot = none) (fun i hi => by
    obtain ⟨b, off, rfl, hlo, hhi, hc⟩ := h3 (by omega)
    obtain ⟨f0, f1, v, f2, f3⟩ := hc i _ (get_l l ⟨0, []⟩ i hi)
    refine ⟨((l.getD i ⟨0, []⟩).at_, v), rfl, f1, f3, fun ad e => ?_⟩
    cases e
    have e2 : ∀ j, (⟨b, off, none⟩ : Addr).add j = ⟨b, off + j, none⟩ := fun j => by unfold Addr.add; split <;> simp_all
    rw [e2, e2]
    exact ⟨f0, f2, hhi, rfl⟩)
  refine ⟨bs, hbl, fun i x hx => ?_, fun ad e j u hj => ?_⟩
  · have hi : i < l.length := (List.getElem?_eq_some_iff.1 hx).1
    have hb : bs[i]? = some (bs[i]'(by omega)) := by simp
    obtain ⟨p1, p2, p3, -⟩ := hba i _ hb
    rw [get_l l ⟨0, []⟩ i hi] at hx
    cases hx
    refine ⟨(bs[i]'(by omega)).2, ?_, by rw [← p1]; exact p2, p3⟩
    rw [hb, ← p1]
  · obtain ⟨i, x, hx, hh⟩ := wcells_inv bs j u hj
    obtain ⟨-, -, -, p4⟩ := hba i x hx
    obtain ⟨q1, q2, q3, q4⟩ := p4 ad e
    have hk : ∀ k, w.cell? (ad.add k) = W.cell? (ad.add k) := fun k => by
      obtain ⟨bb, oo, ss⟩ := ad
      simp only at q3 q4
      subst q4
      have e2 : (⟨bb, oo, none⟩ : Addr).add k = ⟨bb, oo + k, none⟩ := by unfold Addr.add; split <;> simp_all
      rw [e2]
      exact hB.cell (p := ⟨bb, oo + k, none⟩) q3
    rcases hh with ⟨rfl, rfl⟩ | ⟨rfl, rfl⟩
    · rw [hk]; exact q1
    · rw [hk]; exact q2
theorem OwnW.same {base : Nat} {W w w' : World} {v : Value} {l : List WrL} (h : OwnW base W w v l) (hs : ∀ k, base ≤ k → ∀ o, w.heap[k]? = some o → w'.heap[k]? = some o) : OwnW base W w' v l := by
  obtain ⟨xs, ⟨hl, hrow⟩, hx⟩ := h
  refine ⟨xs, ⟨hl, ?_⟩, hx⟩
  rcases hrow with h | ⟨g, cap, cur, e, hg, hh, h1, h2, h3, h4⟩
  · exact .inl h
  · exact .inr ⟨g, cap, cur, e, hg, hs g hg _ hh, h1, h2, h3, h4⟩
theorem OwnW.alloc {base : Nat} {W w : World} {v : Value} {l : List WrL} (h : OwnW base W w v l) (o : Obj) : OwnW base W (w.alloc o) v l :=
  h.same fun k _ _ hx => (Below.heap_alloc w o k (Array.getElem?_eq_some_iff.1 hx).1).trans hx

/-- What a call answered: a disk; nothing that was there has turned. -/
structure GotD (w w' : World) (b u : Value) (d : DiskL) : Prop where
  disk : DiskV w' 0 w'.heap.size b u d
  below : Below w.heap.size w w'
/-- A disk whose data lies below hi, or in what was made from w on. -/
structure GotK (hi : Nat) (w w' : World) (b u : Value) (d : DiskL) : Prop where
  disk : ∀ W : World, w'.heap.size ≤ W.heap.size → (∀ k, k < hi ∨ w.heap.size ≤ k → k < w'.heap.size → W.heap[k]? = w'.heap[k]?) → DiskV W 0 W.heap.size b u d
  below : Below w.heap.size w w'
end Go.Proofs.Ytcibihakjcenaaa

namespace Go.Proofs.Ytcibihakjcenaaa
open Go.RowKit

theorem GotD.nil_ {w w' : World} (h : Below w.heap.size w w') : GotD w w' (.slice none 0 0) (.slice none 0 0) ⟨[], []⟩ := ⟨DiskV.nil_ _ _ _, h⟩

theorem GotK.nil_ {hi : Nat} {w w' : World} (h : Below w.heap.size w w') : GotK hi w w' (.slice none 0 0) (.slice none 0 0) ⟨[], []⟩ := ⟨fun _ _ _ => ⟨Sl.nil_ _ _ _, Sl.nil_ _ _ _⟩, h⟩
end Go.Proofs.Ytcibihakjcenaaa

namespace Go.Proofs.Ytcibihakjcenaaa
open Go.RowKit

/-- The blocks of a call's own variables. -/
def boxS (lo n : Nat) (k : Nat) : Bool := decide (lo ≤ k) && decide (k < lo + n)
theorem boxS_no {lo n k : Nat} (h : lo + n ≤ k) : boxS lo n k = false := by unfold boxS; simp; omega
theorem boxS_yes {lo n k : Nat} (h1 : lo ≤ k) (h2 : k < lo + n) : boxS lo n k = true := by unfold boxS; simp; omega
end Go.Proofs.Ytcibihakjcenaaa

namespace Go.Proofs.Ytcibihakjcenaaa
open Go.RowKit

/-- An item that may be written. -/
def rItemT : Rd ItemL where
  n := 5
  R w lo hi x f := f 0 = some (bV x.key.kind) ∧ f 1 = some (wV x.key.id) ∧ f 2 = some (wV x.key.off) ∧ f 3 = some (.int .i64 x.ref) ∧ (Lit.int .i64 x.ref).wf = true ∧ ∃ v, f 4 = some v ∧ Bytes w lo hi v x.val ∧ Thawed w v
  keep hk h := by obtain ⟨g0, g1, g2, g3, g4, v, h1, h2, h3⟩ := h; exact ⟨g0, g1, g2, g3, g4, v, h1, h2.kept hk, thawed_kept h2 h3 hk⟩
  more h1 h2 h := by obtain ⟨g0, g1, g2, g3, g4, v, k1, k2, k3⟩ := h; exact ⟨g0, g1, g2, g3, g4, v, k1, k2.more h1 h2, k3⟩
  ext he h := by
    obtain ⟨g0, g1, g2, g3, g4, v, k1, k2⟩ := h
    exact ⟨(he 0 (by decide)) ▸ g0, (he 1 (by decide)) ▸ g1, (he 2 (by decide)) ▸ g2, (he 3 (by decide)) ▸ g3, g4, v, (he 4 (by decide)) ▸ k1, k2⟩
theorem sl_itemT {w : World} {lo hi : Nat} {v : Value} {l : List ItemL} (h : Sl rItemT w lo hi v l) : Sl rItem w lo hi v l := h.imp rfl fun x f hh => by
  obtain ⟨g0, g1, g2, g3, g4, v, k1, k2, -⟩ := hh
  exact ⟨g0, g1, g2, g3, g4, v, k1, k2⟩
/-- What a call made: items in new memory that may be written. -/
structure MadeN (w w' : World) (v : Value) (l : List ItemL) : Prop where
  items : Sl rItemT w' w.heap.size w'.heap.size v l
  row : ∀ g o, v.ownBlock = some g → w'.frozen? ⟨g, o, none⟩ = false
  below : Below w.heap.size w w'
theorem MadeN.nil_ {w w' : World} (h : Below w.heap.size w w') : MadeN w w' (.slice none 0 0) [] := ⟨Sl.nil_ _ _ _, fun g o h => (by cases h), h⟩
theorem MadeN.v0 {w w' : World} {v : Value} {l : List ItemL} (h : MadeN w w' v l) : Sl rItem w' 0 w'.heap.size v l := (sl_itemT h.items).all0
end Go.Proofs.Ytcibihakjcenaaa

namespace Go.Proofs.Ytcibihakjcenaaa
open Go.RowKit

def KeepC (n₀ Bs : Nat) (A B : World) : Prop := Below n₀ A B ∧ B.cell? ⟨Bs, 0, none⟩ = A.cell? ⟨Bs, 0, none⟩ ∧ B.cell? ⟨Bs + 1, 0, none⟩ = A.cell? ⟨Bs + 1, 0, none⟩
theorem KeepC.refl (n₀ Bs : Nat) (A : World) : KeepC n₀ Bs A A := ⟨Below.refl _ _, rfl, rfl⟩
theorem KeepC.trans {n₀ Bs : Nat} {A B C : World} (h : KeepC n₀ Bs A B) (k : KeepC n₀ Bs B C) : KeepC n₀ Bs A C := ⟨h.1.trans k.1, k.2.1.trans h.2.1, k.2.2.trans h.2.2⟩
end Go.Proofs.Ytcibihakjcenaaa

namespace Go.Proofs.Ytcibihakjcenaaa
open Go.RowKit

theorem open_sealN (b : List UInt8) (h : b.length ≤ 124) : openE (sealL b) = 0 ∧ openL (sealL b) = padL b := by
  have hl := sealL_length b h
  have ht : (sealL b).take 4 = fourL (crc (padL b)).toNat := by simp [sealL, fourL]
  have hd : (sealL b).drop 4 = padL b := by simp [sealL, fourL]
  have ho : opensL (sealL b) = true := by
    simp only [opensL, beq_iff_eq, getN_zero (sealL b) (by omega), ht, hd]
    exact numOf_fourL (crc (padL b)).toNat (by have := (crc (padL b)).isLt; omega)
  have h1 : openE (sealL b) = 0 := by
    unfold openE
    rw [if_pos hl, if_pos ho]
  exact ⟨h1, by unfold openL; rw [if_pos h1, hd]⟩
end Go.Proofs.Ytcibihakjcenaaa

namespace Go.Proofs.Ytcibihakjcenaaa
open Go.RowKit

/-- May a block be taken? -/
def takB (x : Int) : Bool := decide (8 ≤ x) && decide (x < 256)
/-- A superblock that may be. -/
def mayU (s : SupL) : Bool := s.dead.all takB && (takB s.root && decide (s.dead.length ≤ 40))
def deadB (l : List Int) : List UInt8 := (l.map fun x => twoL x.toNat).flatten
def headU (s : SupL) : List UInt8 := fourL s.gen.toNat ++ twoL s.root.toNat ++ fourL s.next.toNat ++ fourL s.table.toNat ++ [UInt8.ofNat s.dead.length]
def bytesU (s : SupL) : List UInt8 := headU s ++ deadB s.dead
def blockU (s : SupL) : List UInt8 := if mayU s then sealL (bytesU s) else []
def errUw (s : SupL) : Int := if mayU s then 0 else 8
/-- The first k numbers of a list of what waits to be reaped; none: there is no room. -/
def deadR (b : List UInt8) : Nat → Option (List Int)
  | 0 => some []
  | k + 1 => match deadR b k with
    | none => none
    | some l => if getE b (15 + 2 * (k : Int)) 2 = 0 then some (l ++ [(getN b (15 + 2 * (k : Int)) 2 : Int)]) else none
def rawU (b : List UInt8) (l : List Int) : SupL := ⟨UInt32.ofNat (getN b 0 4), (getN b 4 2 : Int), UInt32.ofNat (getN b 6 4), UInt32.ofNat (getN b 10 4), l⟩
def deadAll (b : List UInt8) : Option (List Int) := deadR b (b.getD 14 0).toNat
def okU (l : List UInt8) : Bool := match deadAll (openL l) with
  | none => false
  | some d => mayU (rawU (openL l) d) && blockU (rawU (openL l) d) == l
def errUr (l : List UInt8) : Int := if openE l = 0 then (if okU l then 0 else 8) else openE l
def noU : SupL := ⟨0, 0, 0, 0, []⟩
def readU (l : List UInt8) : SupL := if errUr l = 0 then rawU (openL l) ((deadAll (openL l)).getD []) else noU
theorem mayU_iff {s : SupL} : mayU s = true ↔ (∀ x ∈ s.dead, 8 ≤ x ∧ x < 256) ∧ (8 ≤ s.root ∧ s.root < 256) ∧ s.dead.length ≤ 40 := by
  unfold mayU takB
  simp [List.all_eq_true]
theorem twoL_len (n : Nat) : (twoL n).length = 2 := rfl
theorem deadB_len (l : List Int) : (deadB l).length = 2 * l.length := by
  unfold deadB
  induction l with
  | nil => rfl
  | cons a l ih => simp only [List.map_cons, List.flatten_cons, List.length_append, ih, twoL_len, List.length_cons]; omega
theorem deadB_app (l m : List Int) : deadB (l ++ m) = deadB l ++ deadB m := by unfold deadB; rw [List.map_append, List.flatten_append]
theorem headU_len (s : SupL) : (headU s).length = 15 := by
  unfold headU
  simp only [List.length_append, fourL_length, twoL_len, List.length_cons, List.length_nil]
theorem bytesU_len {s : SupL} (h : mayU s = true) : (bytesU s).length ≤ 124 := by
  unfold bytesU
  have := (mayU_iff.1 h).2.2
  rw [List.length_append, headU_len, deadB_len]
  omega
theorem get_at (l a b c : List UInt8) (k : Int) (m : Nat) (h : l = a ++ b ++ c) (hk : k = a.length) (hm : m = b.length) : getN l k m = numOf b ∧ getE l k m = 0 := by
  subst h hk hm
  exact get_mid a b c
theorem deadR_is (z : List UInt8) (s : SupL) (hs : ∀ x ∈ s.dead, 8 ≤ x ∧ x < 256) : ∀ k, k ≤ s.dead.length → deadR (bytesU s ++ z) k = some (s.dead.take k)
  | 0, _ => rfl
  | k + 1, hk => by
    have ih := deadR_is z s hs k (by omega)
    have hx : k < s.dead.length := by omega
    have hr := hs _ (List.getElem_mem hx)
    have e : s.dead = s.dead.take k ++ s.dead[k] :: s.dead.drop (k + 1) := by
      rw [← List.drop_eq_getElem_cons hx, List.take_append_drop]
    have eB : bytesU s ++ z = (headU s ++ deadB (s.dead.take k)) ++ twoL (s.dead[k]).toNat ++ (deadB (s.dead.drop (k + 1)) ++ z) := by
      have h1 : deadB s.dead = deadB (s.dead.take k) ++ (twoL (s.dead[k]).toNat ++ deadB (s.dead.drop (k + 1))) := by
        conv => lhs; rw [e]
        rw [deadB_app]
        rfl
      unfold bytesU
      rw [h1]
      simp only [List.append_assoc]
    obtain ⟨g1, g2⟩ := get_at _ _ _ _ (15 + 2 * (k : Int)) 2 eB (by rw [List.length_append, headU_len, deadB_len, List.length_take]; omega) rfl
    rw [deadR, ih]
    dsimp only
    rw [if_pos g2, g1, numOf_twoL _ (by omega), List.take_add_one, List.getElem?_eq_getElem hx]
    have e9 : ((s.dead[k].toNat : Nat) : Int) = s.dead[k] := by omega
    rw [e9]
    rfl
theorem u32_nat (x : UInt32) : UInt32.ofNat x.toNat = x := by simp
theorem backU1 {s : SupL} (h : mayU s = true) : errUr (blockU s) = 0 ∧ readU (blockU s) = s ∧ (blockU s).length = 128 := by
  have hl := bytesU_len h
  obtain ⟨o1, o2⟩ := open_sealN (bytesU s) hl
  obtain ⟨m1, m2, m3⟩ := mayU_iff.1 h
  have hb : blockU s = sealL (bytesU s) := by unfold blockU; rw [h]; rfl
  have hp : padL (bytesU s) = bytesU s ++ List.replicate (124 - (bytesU s).length) 0 := rfl
  generalize List.replicate (124 - (bytesU s).length) (0 : UInt8) = z at hp
  have e0 : bytesU s ++ z = [] ++ fourL s.gen.toNat ++ (twoL s.root.toNat ++ (fourL s.next.toNat ++ (fourL s.table.toNat ++ ([UInt8.ofNat s.dead.length] ++ (deadB s.dead ++ z))))) := by unfold bytesU headU; simp only [List.append_assoc, List.nil_append]
  have e1 : bytesU s ++ z = fourL s.gen.toNat ++ twoL s.root.toNat ++ (fourL s.next.toNat ++ (fourL s.table.toNat ++ ([UInt8.ofNat s.dead.length] ++ (deadB s.dead ++ z)))) := by unfold bytesU headU; simp only [List.append_assoc]
  have e2 : bytesU s ++ z = (fourL s.gen.toNat ++ twoL s.root.toNat) ++ fourL s.next.toNat ++ (fourL s.table.toNat ++ ([UInt8.ofNat s.dead.length] ++ (deadB s.dead ++ z))) := by unfold bytesU headU; simp only [List.append_assoc]
  have e3 : bytesU s ++ z = (fourL s.gen.toNat ++ twoL s.root.toNat ++ fourL s.next.toNat) ++ fourL s.table.toNat ++ ([UInt8.ofNat s.dead.length] ++ (deadB s.dead ++ z)) := by unfold bytesU headU; simp only [List.append_assoc]
  have e4 : bytesU s ++ z = (fourL s.gen.toNat ++ twoL s.root.toNat ++ fourL s.next.toNat ++ fourL s.table.toNat) ++ (UInt8.ofNat s.dead.length :: (deadB s.dead ++ z)) := by unfold bytesU headU; simp only [List.append_assoc, List.cons_append, List.nil_append]
  have g0 := (get_at _ _ _ _ 0 4 e0 rfl rfl).1
  have g1 := (get_at _ _ _ _ 4 2 e1 rfl rfl).1
  have g2 := (get_at _ _ _ _ 6 4 e2 rfl rfl).1
  have g3 := (get_at _ _ _ _ 10 4 e3 rfl rfl).1
  have g4 : (bytesU s ++ z).getD 14 0 = UInt8.ofNat s.dead.length := by
    rw [e4, List.getD_eq_getElem?_getD, List.getElem?_append_right (by simp only [List.length_append, fourL_length, twoL_len]; omega)]
    simp only [List.length_append, fourL_length, twoL_len]
    rfl
  rw [numOf_fourL _ s.gen.toNat_lt] at g0
  rw [numOf_twoL _ (by omega)] at g1
  rw [numOf_fourL _ s.next.toNat_lt] at g2
  rw [numOf_fourL _ s.table.toNat_lt] at g3
  have g5 : deadAll (bytesU s ++ z) = some s.dead := by
    unfold deadAll
    rw [g4]
    have : (UInt8.ofNat s.dead.length).toNat = s.dead.length := by rw [UInt8.toNat_ofNat']; omega
    rw [this, deadR_is z s m1 _ (Nat.le_refl _), List.take_length]
  have g6 : rawU (bytesU s ++ z) s.dead = s := by
    unfold rawU
    rw [g0, g1, g2, g3, u32_nat, u32_nat, u32_nat]
    have : ((s.root.toNat : Nat) : Int) = s.root := by omega
    rw [this]
  have hop : openL (blockU s) = bytesU s ++ z := by rw [hb, o2, hp]
  have hok : okU (blockU s) = true := by
    unfold okU
    rw [hop, g5]
    dsimp only
    rw [g6, h]
    simp
  have her : errUr (blockU s) = 0 := by
    unfold errUr
    rw [hb, o1, if_pos rfl, ← hb, hok]
    rfl
  refine ⟨her, ?_, by rw [hb]; exact sealL_length _ hl⟩
  unfold readU
  rw [if_pos her, hop, g5]
  exact g6
end Go.Proofs.Ytcibihakjcenaaa

namespace Go.Proofs.Ytcibihakjcenaaa
open Go.ChangeShapes Go.WideShapes Go.ChangeAt Go.RowKit

theorem own_ : ownKnob Try.prog.godebug = none := by kernel_rfl
theorem laidOut_ : laidOutB Try.prog = true := by kernel_rfl

end Go.Proofs.Ytcibihakjcenaaa

namespace Go.Proofs.Ytcibihakjcenaaa
open Go.ChangeShapes Go.WideShapes Go.ChangeAt Go.RowKit

section
variable {H : Type} {enc : TypeId × Value → H} {W : World} {r : Reach} {base : Nat} {spare : Nat → Bool} {held : Bool} {v : Value} {d : DataW H} {p : List MemPlace}
/-- What a superblock's number and list are. -/
def SupV (W : World) (lo hi : Nat) (v : Value) (x : SupL) : Prop := (Lit.int .i64 x.root).wf = true ∧ Sl (rInt .i64) W lo hi v x.dead
set_option maxRecDepth 100000 in
theorem arg_super (hv : Value.okWide Try.prog W r base 25 v) (h : DataW.Trod enc Try.prog W 0 spare held 25 v d p) :
    ∃ (x : SupL) (u : Value), v = .agg #[wV x.gen, .int .i64 x.root, wV x.next, wV x.table, u] ∧ SupV W 0 W.heap.size u x := by
  have ht : fieldsOf Try.prog 25 = some [(0, 22), (1, 3), (2, 22), (3, 22), (4, 23)] := by kernel_rfl
  obtain ⟨cs, rfl, hsz⟩ := okW_struct ht hv
  obtain ⟨fuel, hf⟩ := h
  obtain ⟨g, nx, tb, n, u, l, hcs, hw, hS⟩ := open_super ht Try.underlying22 (by kernel_rfl) Try.underlying3 (by kernel_rfl) (by kernel_rfl) (by kernel_rfl) Try.underlying23 hf
  refine ⟨⟨g, n, nx, tb, l⟩, u, ?_, hw, hS⟩
  congr 1
  apply Array.toList_inj.1
  exact hcs
end
end Go.Proofs.Ytcibihakjcenaaa

