/- RingApart: the words and contracts, part 12. -/
import Derived.Test.YtcibihakjcenaaaRingApartQ1
import Derived.Test.YtcibihakjcenaaaRingApartQ2
import Derived.Test.YtcibihakjcenaaaRingApartQ3
import Derived.Test.YtcibihakjcenaaaRingApartQ4
import Derived.Test.YtcibihakjcenaaaRingApartQ5
import Derived.Test.YtcibihakjcenaaaRingApartQ6
import Derived.Test.YtcibihakjcenaaaRingApartQ7
import Derived.Test.YtcibihakjcenaaaRingApartQ8
import Derived.Test.YtcibihakjcenaaaRingApartQ9
import Derived.Test.YtcibihakjcenaaaRingApartQ10
import Derived.Test.YtcibihakjcenaaaRingApartQ11
import Derived.Test.YtcibihakjcenaaaChecked
import Derived.WalkKit
import Derived.WalkLawsBesides
import Derived.WalkSpells
import Derived.Lib.Hide
import Derived.Laws.Rows
import Derived.Laws.AppendOwnNone
import Derived.Maps.AppendAt
import Derived.RangeFuncNested
import Derived.RangeFuncBound
import Derived.RangeFuncCalls
import Derived.RangeFuncLeaves
import Derived.RangeFuncBox
import Derived.Shelf.Abstract
import Derived.Shelf.RegionOpen
import Derived.OwnWalkIn
import Derived.TacticsInMore
import Derived.LoopNIn
import Derived.LoopIn
import Derived.ProofKit
import Derived.Deep.Slices
import Derived.WideShapes
import Derived.OrdersHeld
import Derived.Deep.QuietTactic
import Derived.BigQuiet
import Derived.StillTailTactics
import Derived.OpenShut
import Derived.Lib.SliceRun
import Derived.Lib.AppendZerosOnto
import Derived.Lib.Walk
import Derived.Deep.LoopGhost
import Derived.Laws.CopyOwn
import Derived.Deep.DeepCutAuto
import Derived.Laws.CopyRow
import Derived.Laws.MakeOwn
import Derived.Deep.RegionHeld
import Derived.KernelRfl
import Derived.BigFrameIn
import Derived.ShutString
import Derived.ChangeOld
import Derived.Below
namespace Go.Proofs.Ytcibihakjcenaaa
open Go.RowKit

/-- The cells of some writes. -/
def wcells (bs : List (Int × Value)) : List Value := bs.flatMap fun x => [.int .i64 x.1, x.2]
theorem wcells_length (bs : List (Int × Value)) : (wcells bs).length = bs.length * 2 := by
  induction bs with
  | nil => rfl
  | cons x l ih =>
    show ([Value.int .i64 x.1, x.2] ++ wcells l).length = _
    rw [List.length_append, ih]
    simp
    omega
theorem wcells_get (bs : List (Int × Value)) (i : Nat) (x : Int × Value) (h : bs[i]? = some x) : (wcells bs)[i * 2]? = some (.int .i64 x.1) ∧ (wcells bs)[i * 2 + 1]? = some x.2 := by
  induction bs generalizing i with
  | nil => simp at h
  | cons y l ih =>
    cases i with
    | zero => simp at h; subst h; exact ⟨rfl, rfl⟩
    | succ i =>
      obtain ⟨h1, h2⟩ := ih i (by simpa using h)
      have e : wcells (y :: l) = .int .i64 y.1 :: y.2 :: wcells l := rfl
      rw [e, show (i + 1) * 2 = i * 2 + 1 + 1 by omega, show i * 2 + 1 + 1 + 1 = (i * 2 + 1) + 1 + 1 by omega, List.getElem?_cons_succ, List.getElem?_cons_succ, List.getElem?_cons_succ, List.getElem?_cons_succ]
      exact ⟨h1, h2⟩
theorem wcells_inv (bs : List (Int × Value)) (j : Nat) (u : Value) (h : (wcells bs)[j]? = some u) : ∃ i x, bs[i]? = some x ∧ ((j = i * 2 ∧ u = .int .i64 x.1) ∨ (j = i * 2 + 1 ∧ u = x.2)) := by
  have hj : j < bs.length * 2 := by rw [← wcells_length]; exact (List.getElem?_eq_some_iff.1 h).1
  have hi : j / 2 < bs.length := by omega
  refine ⟨j / 2, bs[j / 2], by simp [hi], ?_⟩
  obtain ⟨h1, h2⟩ := wcells_get bs (j / 2) bs[j / 2] (by simp [hi])
  rcases Nat.mod_two_eq_zero_or_one j with e | e
  · left
    have e2 : j = j / 2 * 2 := by omega
    rw [e2] at h
    exact ⟨e2, Option.some.inj (h.symm.trans h1)⟩
  · right
    have e2 : j = j / 2 * 2 + 1 := by omega
    rw [e2] at h
    exact ⟨e2, Option.some.inj (h.symm.trans h2)⟩

/-- Writes that may be appended: their cells are there; their bytes lie in W. -/
def SrcW (W w : World) (sv : Value) (l : List WrL) : Prop := ∃ a c, sv = .slice a l.length c ∧ (a = none → c = 0 ∧ l = []) ∧
  ∃ bs : List (Int × Value), bs.length = l.length ∧ (∀ (i : Nat) (x : WrL), l[i]? = some x → ∃ y : Value, bs[i]? = some (x.at_, y) ∧ (Lit.int .i64 x.at_).wf = true ∧ Bytes W 0 W.heap.size y x.data) ∧
    ∀ ad, a = some ad → ∀ j u, (wcells bs)[j]? = some u → w.cell? (ad.add j) = some u
theorem SrcW.of {W w : World} {sv : Value} {l : List WrL} (h : Sl rWrite W 0 W.heap.size sv l) (hB : Below W.heap.size W w) : SrcW W w sv l := by
  obtain ⟨a, c, rfl, h1, h2, h3, h4⟩ := id h
  refine ⟨a, c, rfl, fun e => ⟨h4 e, List.eq_nil_of_length_eq_zero (by have := h4 e; omega)⟩, ?_⟩
  obtain ⟨bs, hbl, hba⟩ := list_of (n := l.length) (p := fun i (x : Int × Value) => x.1 = (l.getD i ⟨0, []⟩).at_ ∧ (Lit.int .i64 x.1).wf = true ∧ Bytes W 0 W.heap.size x.2 (l.getD i ⟨0, []⟩).data ∧ ∀ ad, a = some ad → W.cell? (ad.add (i * 2)) = some (.int .i64 x.1) ∧ W.cell? (ad.add (i * 2 + 1)) = some x.2 ∧ ad.block < W.heap.size ∧ ad.spot = none) (fun i hi => by
    obtain ⟨b, off, rfl, hlo, hhi, hc⟩ := h3 (by omega)
    obtain ⟨f0, f1, v, f2, f3⟩ := hc i _ (get_l l ⟨0, []⟩ i hi)
    refine ⟨((l.getD i ⟨0, []⟩).at_, v), rfl, f1, f3, fun ad e => ?_⟩
    cases e
    have e2 : ∀ j, (⟨b, off, none⟩ : Addr).add j = ⟨b, off + j, none⟩ := fun j => by unfold Addr.add; split <;> simp_all
    rw [e2, e2]
    exact ⟨f0, f2, hhi, rfl⟩)
  refine ⟨bs, hbl, fun i x hx => ?_, fun ad e j u hj => ?_⟩
  · have hi : i < l.length := (List.getElem?_eq_some_iff.1 hx).1
    have hb : bs[i]? = some (bs[i]'(by omega)) := by simp
    obtain ⟨p1, p2, p3, -⟩ := hba i _ hb
    rw [get_l l ⟨0, []⟩ i hi] at hx
    cases hx
    refine ⟨(bs[i]'(by omega)).2, ?_, by rw [← p1]; exact p2, p3⟩
    rw [hb, ← p1]
  · obtain ⟨i, x, hx, hh⟩ := wcells_inv bs j u hj
    obtain ⟨-, -, -, p4⟩ := hba i x hx
    obtain ⟨q1, q2, q3, q4⟩ := p4 ad e
    have hk : ∀ k, w.cell? (ad.add k) = W.cell? (ad.add k) := fun k => by
      obtain ⟨bb, oo, ss⟩ := ad
      simp only at q3 q4
      subst q4
      have e2 : (⟨bb, oo, none⟩ : Addr).add k = ⟨bb, oo + k, none⟩ := by unfold Addr.add; split <;> simp_all
      rw [e2]
      exact hB.cell (p := ⟨bb, oo + k, none⟩) q3
    rcases hh with ⟨rfl, rfl⟩ | ⟨rfl, rfl⟩
    · rw [hk]; exact q1
    · rw [hk]; exact q2
theorem OwnW.same {base : Nat} {W w w' : World} {v : Value} {l : List WrL} (h : OwnW base W w v l) (hs : ∀ k, base ≤ k → ∀ o, w.heap[k]? = some o → w'.heap[k]? = some o) : OwnW base W w' v l := by
  obtain ⟨xs, ⟨hl, hrow⟩, hx⟩ := h
  refine ⟨xs, ⟨hl, ?_⟩, hx⟩
  rcases hrow with h | ⟨g, cap, cur, e, hg, hh, h1, h2, h3, h4⟩
  · exact .inl h
  · exact .inr ⟨g, cap, cur, e, hg, hs g hg _ hh, h1, h2, h3, h4⟩
theorem OwnW.alloc {base : Nat} {W w : World} {v : Value} {l : List WrL} (h : OwnW base W w v l) (o : Obj) : OwnW base W (w.alloc o) v l :=
  h.same fun k _ _ hx => (Below.heap_alloc w o k (Array.getElem?_eq_some_iff.1 hx).1).trans hx

/-- What a call answered: a disk; nothing that was there has turned. -/
structure GotD (w w' : World) (b u : Value) (d : DiskL) : Prop where
  disk : DiskV w' 0 w'.heap.size b u d
  below : Below w.heap.size w w'
/-- A disk whose data lies below hi, or in what was made from w on. -/
structure GotK (hi : Nat) (w w' : World) (b u : Value) (d : DiskL) : Prop where
  disk : ∀ W : World, w'.heap.size ≤ W.heap.size → (∀ k, k < hi ∨ w.heap.size ≤ k → k < w'.heap.size → W.heap[k]? = w'.heap[k]?) → DiskV W 0 W.heap.size b u d
  below : Below w.heap.size w w'
end Go.Proofs.Ytcibihakjcenaaa

namespace Go.Proofs.Ytcibihakjcenaaa
open Go.RowKit

theorem GotD.nil_ {w w' : World} (h : Below w.heap.size w w') : GotD w w' (.slice none 0 0) (.slice none 0 0) ⟨[], []⟩ := ⟨DiskV.nil_ _ _ _, h⟩

theorem GotK.nil_ {hi : Nat} {w w' : World} (h : Below w.heap.size w w') : GotK hi w w' (.slice none 0 0) (.slice none 0 0) ⟨[], []⟩ := ⟨fun _ _ _ => ⟨Sl.nil_ _ _ _, Sl.nil_ _ _ _⟩, h⟩
end Go.Proofs.Ytcibihakjcenaaa

namespace Go.Proofs.Ytcibihakjcenaaa
open Go.RowKit

/-- The blocks of a call's own variables. -/
def boxS (lo n : Nat) (k : Nat) : Bool := decide (lo ≤ k) && decide (k < lo + n)
theorem boxS_no {lo n k : Nat} (h : lo + n ≤ k) : boxS lo n k = false := by unfold boxS; simp; omega
theorem boxS_yes {lo n k : Nat} (h1 : lo ≤ k) (h2 : k < lo + n) : boxS lo n k = true := by unfold boxS; simp; omega
end Go.Proofs.Ytcibihakjcenaaa

namespace Go.Proofs.Ytcibihakjcenaaa
open Go.RowKit

/-- An item that may be written. -/
def rItemT : Rd ItemL where
  n := 5
  R w lo hi x f := f 0 = some (bV x.key.kind) ∧ f 1 = some (wV x.key.id) ∧ f 2 = some (wV x.key.off) ∧ f 3 = some (.int .i64 x.ref) ∧ (Lit.int .i64 x.ref).wf = true ∧ ∃ v, f 4 = some v ∧ Bytes w lo hi v x.val ∧ Thawed w v
  keep hk h := by obtain ⟨g0, g1, g2, g3, g4, v, h1, h2, h3⟩ := h; exact ⟨g0, g1, g2, g3, g4, v, h1, h2.kept hk, thawed_kept h2 h3 hk⟩
  more h1 h2 h := by obtain ⟨g0, g1, g2, g3, g4, v, k1, k2, k3⟩ := h; exact ⟨g0, g1, g2, g3, g4, v, k1, k2.more h1 h2, k3⟩
  ext he h := by
    obtain ⟨g0, g1, g2, g3, g4, v, k1, k2⟩ := h
    exact ⟨(he 0 (by decide)) ▸ g0, (he 1 (by decide)) ▸ g1, (he 2 (by decide)) ▸ g2, (he 3 (by decide)) ▸ g3, g4, v, (he 4 (by decide)) ▸ k1, k2⟩
theorem sl_itemT {w : World} {lo hi : Nat} {v : Value} {l : List ItemL} (h : Sl rItemT w lo hi v l) : Sl rItem w lo hi v l := h.imp rfl fun x f hh => by
  obtain ⟨g0, g1, g2, g3, g4, v, k1, k2, -⟩ := hh
  exact ⟨g0, g1, g2, g3, g4, v, k1, k2⟩
/-- What a call made: items in new memory that may be written. -/
structure MadeN (w w' : World) (v : Value) (l : List ItemL) : Prop where
  items : Sl rItemT w' w.heap.size w'.heap.size v l
  row : ∀ g o, v.ownBlock = some g → w'.frozen? ⟨g, o, none⟩ = false
  below : Below w.heap.size w w'
theorem MadeN.nil_ {w w' : World} (h : Below w.heap.size w w') : MadeN w w' (.slice none 0 0) [] := ⟨Sl.nil_ _ _ _, fun g o h => (by cases h), h⟩
theorem MadeN.v0 {w w' : World} {v : Value} {l : List ItemL} (h : MadeN w w' v l) : Sl rItem w' 0 w'.heap.size v l := (sl_itemT h.items).all0
end Go.Proofs.Ytcibihakjcenaaa

namespace Go.Proofs.Ytcibihakjcenaaa
open Go.RowKit

def KeepC (n₀ Bs : Nat) (A B : World) : Prop := Below n₀ A B ∧ B.cell? ⟨Bs, 0, none⟩ = A.cell? ⟨Bs, 0, none⟩ ∧ B.cell? ⟨Bs + 1, 0, none⟩ = A.cell? ⟨Bs + 1, 0, none⟩
theorem KeepC.refl (n₀ Bs : Nat) (A : World) : KeepC n₀ Bs A A := ⟨Below.refl _ _, rfl, rfl⟩
theorem KeepC.trans {n₀ Bs : Nat} {A B C : World} (h : KeepC n₀ Bs A B) (k : KeepC n₀ Bs B C) : KeepC n₀ Bs A C := ⟨h.1.trans k.1, k.2.1.trans h.2.1, k.2.2.trans h.2.2⟩
end Go.Proofs.Ytcibihakjcenaaa

namespace Go.Proofs.Ytcibihakjcenaaa
open Go.RowKit

theorem open_sealN (b : List UInt8) (h : b.length ≤ 124) : openE (sealL b) = 0 ∧ openL (sealL b) = padL b := by
  have hl := sealL_length b h
  have ht : (sealL b).take 4 = fourL (crc (padL b)).toNat := by simp [sealL, fourL]
  have hd : (sealL b).drop 4 = padL b := by simp [sealL, fourL]
  have ho : opensL (sealL b) = true := by
    simp only [opensL, beq_iff_eq, getN_zero (sealL b) (by omega), ht, hd]
    exact numOf_fourL (crc (padL b)).toNat (by have := (crc (padL b)).isLt; omega)
  have h1 : openE (sealL b) = 0 := by
    unfold openE
    rw [if_pos hl, if_pos ho]
  exact ⟨h1, by unfold openL; rw [if_pos h1, hd]⟩
end Go.Proofs.Ytcibihakjcenaaa

namespace Go.Proofs.Ytcibihakjcenaaa
open Go.RowKit

/-- May a block be taken? -/
def takB (x : Int) : Bool := decide (8 ≤ x) && decide (x < 256)
/-- A superblock that may be. -/
def mayU (s : SupL) : Bool := s.dead.all takB && (takB s.root && decide (s.dead.length ≤ 40))
def deadB (l : List Int) : List UInt8 := (l.map fun x => twoL x.toNat).flatten
def headU (s : SupL) : List UInt8 := fourL s.gen.toNat ++ twoL s.root.toNat ++ fourL s.next.toNat ++ fourL s.table.toNat ++ [UInt8.ofNat s.dead.length]
def bytesU (s : SupL) : List UInt8 := headU s ++ deadB s.dead
def blockU (s : SupL) : List UInt8 := if mayU s then sealL (bytesU s) else []
def errUw (s : SupL) : Int := if mayU s then 0 else 8
/-- The first k numbers of a list of what waits to be reaped; none: there is no room. -/
def deadR (b : List UInt8) : Nat → Option (List Int)
  | 0 => some []
  | k + 1 => match deadR b k with
    | none => none
    | some l => if getE b (15 + 2 * (k : Int)) 2 = 0 then some (l ++ [(getN b (15 + 2 * (k : Int)) 2 : Int)]) else none
def rawU (b : List UInt8) (l : List Int) : SupL := ⟨UInt32.ofNat (getN b 0 4), (getN b 4 2 : Int), UInt32.ofNat (getN b 6 4), UInt32.ofNat (getN b 10 4), l⟩
def deadAll (b : List UInt8) : Option (List Int) := deadR b (b.getD 14 0).toNat
def okU (l : List UInt8) : Bool := match deadAll (openL l) with
  | none => false
  | some d => mayU (rawU (openL l) d) && blockU (rawU (openL l) d) == l
def errUr (l : List UInt8) : Int := if openE l = 0 then (if okU l then 0 else 8) else openE l
def noU : SupL := ⟨0, 0, 0, 0, []⟩
def readU (l : List UInt8) : SupL := if errUr l = 0 then rawU (openL l) ((deadAll (openL l)).getD []) else noU
theorem mayU_iff {s : SupL} : mayU s = true ↔ (∀ x ∈ s.dead, 8 ≤ x ∧ x < 256) ∧ (8 ≤ s.root ∧ s.root < 256) ∧ s.dead.length ≤ 40 := by
  unfold mayU takB
  simp [List.all_eq_true]
theorem twoL_len (n : Nat) : (twoL n).length = 2 := rfl
theorem deadB_len (l : List Int) : (deadB l).length = 2 * l.length := by
  unfold deadB
  induction l with
  | nil => rfl
  | cons a l ih => simp only [List.map_cons, List.flatten_cons, List.length_append, ih, twoL_len, List.length_cons]; omega
theorem deadB_app (l m : List Int) : deadB (l ++ m) = deadB l ++ deadB m := by unfold deadB; rw [List.map_append, List.flatten_append]
theorem headU_len (s : SupL) : (headU s).length = 15 := by
  unfold headU
  simp only [List.length_append, fourL_length, twoL_len, List.length_cons, List.length_nil]
theorem bytesU_len {s : SupL} (h : mayU s = true) : (bytesU s).length ≤ 124 := by
  unfold bytesU
  have := (mayU_iff.1 h).2.2
  rw [List.length_append, headU_len, deadB_len]
  omega
theorem get_at (l a b c : List UInt8) (k : Int) (m : Nat) (h : l = a ++ b ++ c) (hk : k = a.length) (hm : m = b.length) : getN l k m = numOf b ∧ getE l k m = 0 := by
  subst h hk hm
  exact get_mid a b c
theorem deadR_is (z : List UInt8) (s : SupL) (hs : ∀ x ∈ s.dead, 8 ≤ x ∧ x < 256) : ∀ k, k ≤ s.dead.length → deadR (bytesU s ++ z) k = some (s.dead.take k)
  | 0, _ => rfl
  | k + 1, hk => by
    have ih := deadR_is z s hs k (by omega)
    have hx : k < s.dead.length := by omega
    have hr := hs _ (List.getElem_mem hx)
    have e : s.dead = s.dead.take k ++ s.dead[k] :: s.dead.drop (k + 1) := by
      rw [← List.drop_eq_getElem_cons hx, List.take_append_drop]
    have eB : bytesU s ++ z = (headU s ++ deadB (s.dead.take k)) ++ twoL (s.dead[k]).toNat ++ (deadB (s.dead.drop (k + 1)) ++ z) := by
      have h1 : deadB s.dead = deadB (s.dead.take k) ++ (twoL (s.dead[k]).toNat ++ deadB (s.dead.drop (k + 1))) := by
        conv => lhs; rw [e]
        rw [deadB_app]
        rfl
      unfold bytesU
      rw [h1]
      simp only [List.append_assoc]
    obtain ⟨g1, g2⟩ := get_at _ _ _ _ (15 + 2 * (k : Int)) 2 eB (by rw [List.length_append, headU_len, deadB_len, List.length_take]; omega) rfl
    rw [deadR, ih]
    dsimp only
    rw [if_pos g2, g1, numOf_twoL _ (by omega), List.take_add_one, List.getElem?_eq_getElem hx]
    have e9 : ((s.dead[k].toNat : Nat) : Int) = s.dead[k] := by omega
    rw [e9]
    rfl
theorem u32_nat (x : UInt32) : UInt32.ofNat x.toNat = x := by simp
theorem backU1 {s : SupL} (h : mayU s = true) : errUr (blockU s) = 0 ∧ readU (blockU s) = s ∧ (blockU s).length = 128 := by
  have hl := bytesU_len h
  obtain ⟨o1, o2⟩ := open_sealN (bytesU s) hl
  obtain ⟨m1, m2, m3⟩ := mayU_iff.1 h
  have hb : blockU s = sealL (bytesU s) := by unfold blockU; rw [h]; rfl
  have hp : padL (bytesU s) = bytesU s ++ List.replicate (124 - (bytesU s).length) 0 := rfl
  generalize List.replicate (124 - (bytesU s).length) (0 : UInt8) = z at hp
  have e0 : bytesU s ++ z = [] ++ fourL s.gen.toNat ++ (twoL s.root.toNat ++ (fourL s.next.toNat ++ (fourL s.table.toNat ++ ([UInt8.ofNat s.dead.length] ++ (deadB s.dead ++ z))))) := by unfold bytesU headU; simp only [List.append_assoc, List.nil_append]
  have e1 : bytesU s ++ z = fourL s.gen.toNat ++ twoL s.root.toNat ++ (fourL s.next.toNat ++ (fourL s.table.toNat ++ ([UInt8.ofNat s.dead.length] ++ (deadB s.dead ++ z)))) := by unfold bytesU headU; simp only [List.append_assoc]
  have e2 : bytesU s ++ z = (fourL s.gen.toNat ++ twoL s.root.toNat) ++ fourL s.next.toNat ++ (fourL s.table.toNat ++ ([UInt8.ofNat s.dead.length] ++ (deadB s.dead ++ z))) := by unfold bytesU headU; simp only [List.append_assoc]
  have e3 : bytesU s ++ z = (fourL s.gen.toNat ++ twoL s.root.toNat ++ fourL s.next.toNat) ++ fourL s.table.toNat ++ ([UInt8.ofNat s.dead.length] ++ (deadB s.dead ++ z)) := by unfold bytesU headU; simp only [List.append_assoc]
  have e4 : bytesU s ++ z = (fourL s.gen.toNat ++ twoL s.root.toNat ++ fourL s.next.toNat ++ fourL s.table.toNat) ++ (UInt8.ofNat s.dead.length :: (deadB s.dead ++ z)) := by unfold bytesU headU; simp only [List.append_assoc, List.cons_append, List.nil_append]
  have g0 := (get_at _ _ _ _ 0 4 e0 rfl rfl).1
  have g1 := (get_at _ _ _ _ 4 2 e1 rfl rfl).1
  have g2 := (get_at _ _ _ _ 6 4 e2 rfl rfl).1
  have g3 := (get_at _ _ _ _ 10 4 e3 rfl rfl).1
  have g4 : (bytesU s ++ z).getD 14 0 = UInt8.ofNat s.dead.length := by
    rw [e4, List.getD_eq_getElem?_getD, List.getElem?_append_right (by simp only [List.length_append, fourL_length, twoL_len]; omega)]
    simp only [List.length_append, fourL_length, twoL_len]
    rfl
  rw [numOf_fourL _ s.gen.toNat_lt] at g0
  rw [numOf_twoL _ (by omega)] at g1
  rw [numOf_fourL _ s.next.toNat_lt] at g2
  rw [numOf_fourL _ s.table.toNat_lt] at g3
  have g5 : deadAll (bytesU s ++ z) = some s.dead := by
    unfold deadAll
    rw [g4]
    have : (UInt8.ofNat s.dead.length).toNat = s.dead.length := by rw [UInt8.toNat_ofNat']; omega
    rw [this, deadR_is z s m1 _ (Nat.le_refl _), List.take_length]
  have g6 : rawU (bytesU s ++ z) s.dead = s := by
    unfold rawU
    rw [g0, g1, g2, g3, u32_nat, u32_nat, u32_nat]
    have : ((s.root.toNat : Nat) : Int) = s.root := by omega
    rw [this]
  have hop : openL (blockU s) = bytesU s ++ z := by rw [hb, o2, hp]
  have hok : okU (blockU s) = true := by
    unfold okU
    rw [hop, g5]
    dsimp only
    rw [g6, h]
    simp
  have her : errUr (blockU s) = 0 := by
    unfold errUr
    rw [hb, o1, if_pos rfl, ← hb, hok]
    rfl
  refine ⟨her, ?_, by rw [hb]; exact sealL_length _ hl⟩
  unfold readU
  rw [if_pos her, hop, g5]
  exact g6
end Go.Proofs.Ytcibihakjcenaaa

namespace Go.Proofs.Ytcibihakjcenaaa
open Go.ChangeShapes Go.WideShapes Go.ChangeAt Go.RowKit

theorem own_ : ownKnob Try.prog.godebug = none := by kernel_rfl
theorem laidOut_ : laidOutB Try.prog = true := by kernel_rfl

theorem arg_bytes {H : Type} {enc : TypeId × Value → H} {P : Program} {W : World} {r : Reach} {base b0 : Nat} {spare : Nat → Bool} {held : Bool} {t e : TypeId} {v : Value} {d : DataW H} {p : List MemPlace} (ht : P.underlying t = some (.slice e)) (he : P.underlying e = some (.int .u8))
    (hC : P.cellsOf e = 1) (hv : Value.okWide P W r base t v) (h : DataW.Trod enc P W b0 spare held t v d p) : ∃ l, Bytes W 0 W.heap.size v l := by
  obtain ⟨a, len, cap, rfl⟩ := okWide_slice ht hv
  obtain ⟨fuel, hf⟩ := h
  rcases open_ints ht he hC hf with ⟨hcs, _⟩ | ⟨x, l, c, zs, hcs, _, hl, hm, hz, _, hcell, hwz⟩
  · simp [Value.cells] at hcs
    obtain ⟨rfl, rfl, rfl⟩ := hcs
    exact ⟨[], Bytes.nil_ _ _ _⟩
  · simp [Value.cells] at hcs
    obtain ⟨rfl, rfl, rfl⟩ := hcs
    have hz' : zs.length = cap ∨ zs.length = len := by first | exact .inl hz | (split at hz <;> first | exact .inl hz | exact .inr hz)
    have hb8 : ∀ n ∈ zs, 0 ≤ n ∧ n ≤ 255 := fun n hn => bounds_u8 (hwz n hn)
    have hll : len ≤ zs.length := by omega
    refine ⟨(zs.take len).map fun n => UInt8.ofNat n.toNat, some x, cap, by simp [Nat.min_eq_left hll], by simp; omega, hm, fun hp => ?_, fun h => by cases h⟩
    have hp' : 0 < len := by simp at hp; omega
    have h0 := hcell 0 (by omega)
    obtain ⟨b, off, spot⟩ := x
    have hspot : spot = none := by simpa [Addr.add] using World.cell?_spot h0
    subst hspot
    have hblk : b < W.heap.size := cell_lt' (a := ⟨b, off, none⟩) (by simpa [Addr.add] using h0)
    refine ⟨b, off, rfl, Nat.zero_le _, hblk, fun i y hy => ?_⟩
    have hi : i < len := by have := (List.getElem?_eq_some_iff.1 hy).1; simp at this; omega
    have hc := hcell i (by omega)
    have e2 : (⟨b, off, none⟩ : Addr).add i = ⟨b, off + i, none⟩ := by unfold Addr.add; split <;> simp_all
    rw [e2] at hc
    rw [hc]
    have hi2 : i < zs.length := by omega
    have hbz := hb8 zs[i] (List.getElem_mem hi2)
    simp [hi, hi2] at hy
    subst hy
    simp [bV, hi2]
    omega
end Go.Proofs.Ytcibihakjcenaaa

namespace Go.Proofs.Ytcibihakjcenaaa
open Go.ChangeShapes Go.WideShapes Go.ChangeAt Go.RowKit

section
variable {H : Type} {enc : TypeId × Value → H} {W : World} {r : Reach} {base : Nat} {spare : Nat → Bool} {held : Bool} {v : Value} {d : DataW H} {p : List MemPlace}
/-- What a superblock's number and list are. -/
def SupV (W : World) (lo hi : Nat) (v : Value) (x : SupL) : Prop := (Lit.int .i64 x.root).wf = true ∧ Sl (rInt .i64) W lo hi v x.dead
set_option maxRecDepth 100000 in
theorem arg_super (hv : Value.okWide Try.prog W r base 25 v) (h : DataW.Trod enc Try.prog W 0 spare held 25 v d p) :
    ∃ (x : SupL) (u : Value), v = .agg #[wV x.gen, .int .i64 x.root, wV x.next, wV x.table, u] ∧ SupV W 0 W.heap.size u x := by
  have ht : fieldsOf Try.prog 25 = some [(0, 22), (1, 3), (2, 22), (3, 22), (4, 23)] := by kernel_rfl
  obtain ⟨cs, rfl, hsz⟩ := okW_struct ht hv
  obtain ⟨fuel, hf⟩ := h
  obtain ⟨g, nx, tb, n, u, l, hcs, hw, hS⟩ := open_super ht Try.underlying22 (by kernel_rfl) Try.underlying3 (by kernel_rfl) (by kernel_rfl) (by kernel_rfl) Try.underlying23 hf
  refine ⟨⟨g, n, nx, tb, l⟩, u, ?_, hw, hS⟩
  congr 1
  apply Array.toList_inj.1
  exact hcs
end
end Go.Proofs.Ytcibihakjcenaaa

namespace Go.Proofs.Ytcibihakjcenaaa
open Go.RowKit

theorem taken_any (x : Int) (w : World) : Calls Try.prog 69 #[.int .i64 x] w fun e w' => e = .returned (.bool (takB x)) ∧ w' = w := by
  by_cases h1 : 8 ≤ x
  · by_cases h2 : x < 256
    · have e : takB x = true := by unfold takB; simp [h1, h2]
      rw [e]
      go_enter Try.func69, Try.ntmps69
      go_wp2
      go_ret
      exact ⟨rfl, rfl⟩
    · have e : takB x = false := by unfold takB; simp [h2]
      rw [e]
      go_enter Try.func69, Try.ntmps69
      go_wp2
      go_ret
      exact ⟨rfl, rfl⟩
  · have e : takB x = false := by unfold takB; simp [h1]
    rw [e]
    go_enter Try.func69, Try.ntmps69
    go_wp2
    go_ret
    exact ⟨rfl, rfl⟩
theorem untaken_any (x : Int) (w : World) : Calls Try.prog 68 #[.int .i64 x] w fun e w' => e = .returned (.bool (!takB x)) ∧ w' = w := by
  have ht := fun W => taken_any x W
  generalize takB x = t at *
  go_enter Try.func68, Try.ntmps68
  go_wp2_with fail
  refine (ht _).mono ?_
  rintro e w1 ⟨rfl, rfl⟩
  go_wp2
  go_ret
  exact ⟨rfl, rfl⟩
theorem Sl.cellI {k : IntKind} {w : World} {lo hi n c b off : Nat} {l : List Int} (h : Sl (rInt k) w lo hi (.slice (some ⟨b, off, none⟩) n c) l) (i : Nat) (hx : i < l.length) : w.cell? ⟨b, off + i, none⟩ = some (.int k (l.getD i 0)) := by
  obtain ⟨a, c', e, h1, h2, h3, h4⟩ := h
  cases e
  obtain ⟨b', off', ea, _, _, hc⟩ := h3 (by omega)
  cases ea
  have := (hc i (l.getD i 0) (by simp [hx])).1
  simpa [rInt] using this
set_option maxRecDepth 100000 in
set_option maxHeartbeats 1000000 in
/-- slices.IndexFunc, asked with the closure of ring.Check. -/
theorem udead_any (v : Value) (l : List Int) (w : World) (hI : Sl (rInt .i64) w 0 w.heap.size v l) :
    Calls Try.prog 111 #[v, .func (.func 68) #[] #[]] w fun e w' => ∃ r : Int, e = .returned (.int .i64 r) ∧ decide (0 ≤ r) = !(l.all takB) ∧ Below w.heap.size w w' := by
  have hl := hI.len_le
  unfold maxLen at hl
  obtain ⟨a, c, rfl, g1, g2, g3, -⟩ := id hI
  unfold maxLen at g2
  have HI := Lib.hid hI
  clear hI g3
  go_enter Try.func111, Try.ntmps111
  go_wp2
  go_loopg [5, 8] l.length (fun g _ i wr => ∃ k : Nat, k ≤ l.length ∧ l.length - k ≤ g ∧ i = .int .i64 k ∧ (l.take k).all takB = true ∧ Below w.heap.size w wr)
  case atStart => exact ⟨0, Nat.zero_le _, by omega, rfl, rfl, Below.refl _ _⟩
  case round =>
    obtain ⟨k, hk, hg, rfl, hA, hB⟩ := hrel
    by_cases hlt : k < l.length
    · obtain ⟨b, off, ea⟩ : ∃ b off, a = some ⟨b, off, none⟩ := by
        obtain ⟨a', c', e, -, -, h3, -⟩ := HI.out
        cases e
        obtain ⟨b, off, ea, -⟩ := h3 (by omega)
        exact ⟨b, off, ea⟩
      subst ea
      have ck := (HI.out.below hB (Nat.le_refl _)).cellI k hlt
      have hS : (l.take (k + 1)).all takB = takB (l.getD k 0) := by
        rw [List.take_succ_eq_append_getElem hlt, List.all_append, hA]
        simp [hlt]
      have hAll : l.all takB = true → takB (l.getD k 0) = true := fun h => List.all_eq_true.1 h _ (by rw [List.getD_eq_getElem?_getD, List.getElem?_eq_getElem hlt]; exact List.getElem_mem hlt)
      have HS := Lib.hid (And.intro hS (And.intro hAll (And.intro hB hA)))
      clear hS hAll hB hA
      have ht := fun W => untaken_any (l.getD k 0) W
      generalize l.getD k 0 = x at *
      generalize takB x = t at *
      go_wp2_with fail
      refine (ht _).mono ?_
      rintro e w1 ⟨rfl, rfl⟩
      cases t
      case false =>
        go_wp2
        go_ret
        refine ⟨k, rfl, ?_, by simpa using HS.out.2.2.1⟩
        have : ¬ l.all takB = true := fun h => by have := HS.out.2.1 h; cases this
        simp [this]
      case true =>
        go_wp2
        go_roundg (l.length - (k + 1))
        case measure => omega
        case rel => exact ⟨k + 1, by omega, Nat.le_refl _, by go_num, HS.out.1, by simpa using HS.out.2.2.1⟩
    · have hkl : k = l.length := by omega
      subst hkl
      rw [List.take_length] at hA
      go_wp2
      go_ret
      exact ⟨-1, rfl, by rw [hA]; rfl, hB⟩
set_option maxRecDepth 100000 in
set_option maxHeartbeats 1000000 in
theorem cdead_any (v : Value) (l : List Int) (w : World) (hI : Sl (rInt .i64) w 0 w.heap.size v l) :
    Calls Try.prog 67 #[v, .func (.func 68) #[] #[]] w fun e w' => e = .returned (.bool (!(l.all takB))) ∧ Below w.heap.size w w' := by
  have hd := fun W hh => udead_any v l W hh
  generalize l.all takB = t at *
  obtain ⟨a, c, rfl, g1, g2, -, -⟩ := id hI
  unfold maxLen at g2
  go_enter Try.func67, Try.ntmps67
  go_wp2_with fail
  refine (hd _ ?_).mono ?_
  · exact hI
  rintro e w1 ⟨r, rfl, hr, hB⟩
  cases t
  · have h1 : 0 ≤ r := by simpa using hr
    go_wp2
    go_ret
    exact ⟨rfl, by simpa using hB⟩
  · have h1 : ¬ 0 ≤ r := by simpa using hr
    go_wp2
    go_ret
    exact ⟨rfl, by simpa using hB⟩
set_option maxRecDepth 100000 in
set_option maxHeartbeats 1000000 in
/-- ring.Check. -/
theorem ucheck_any (s : SupL) (u : Value) (w : World) (h_s : SupV w 0 w.heap.size u s) :
    Calls Try.prog 20 #[.agg #[wV s.gen, .int .i64 s.root, wV s.next, wV s.table, u]] w fun e w' => e = .returned (.int .i64 (errUw s)) ∧ Below w.heap.size w w' := by
  have hI := h_s.2
  have hl := hI.len_le
  unfold maxLen at hl
  obtain ⟨a, c, rfl, g1, g2, -, -⟩ := id hI
  unfold maxLen at g2
  have hE : errUw s = if s.dead.all takB && (takB s.root && decide (s.dead.length ≤ 40)) then 0 else 8 := by unfold errUw mayU; rfl
  generalize errUw s = z at *
  have hd := fun W v hh => cdead_any v s.dead W hh
  have ht := fun W => taken_any s.root W
  generalize wV s.gen = vg
  generalize wV s.next = vn
  generalize wV s.table = vt
  generalize s.root = ro at *
  generalize s.dead.all takB = da at *
  generalize takB ro = tr at *
  have HE := Lib.hid hE
  clear hE
  have hst := (Below.refl w.heap.size w).alloc (Nat.le_refl _) (.cells #[vg, .int .i64 ro, vn, vt, .slice a s.dead.length c] 25)
  have hq := LK.new w (.cells #[vg, .int .i64 ro, vn, vt, .slice a s.dead.length c] 25)
  replace hI := hI.step hst
  have HI := Lib.hid (And.intro hI hst)
  clear hI hst h_s
  go_enter Try.func20, Try.ntmps20
  go_upto_region 1 with (fail)
  obtain ⟨V, hV⟩ : ∃ V, (w.alloc (.cells #[vg, .int .i64 ro, vn, vt, .slice a s.dead.length c] 25)) = V := ⟨_, rfl⟩
  rw [hV] at hq HI ⊢
  clear hV
  have c1 := LK.cell hq 1
  have c4 := LK.cell hq 4
  simp at c1 c4
  go_wp2_with fail
  refine (hd _ _ HI.out.1).mono ?_
  rintro e w1 ⟨rfl, hst⟩
  have HB := Lib.hid (HI.out.2.trans (hst.mono HI.out.2.size))
  replace hq := hq.step hst
  clear c1 c4 HI hst
  have c1 := LK.cell hq 1
  have c4 := LK.cell hq 4
  simp at c1 c4
  cases da
  case false =>
    go_wp2
    go_ret
    exact ⟨by rw [HE.out]; simp, by simpa using HB.out⟩
  case true =>
    go_wp2_with fail
    refine (ht _).mono ?_
    rintro e w2 ⟨rfl, rfl⟩
    cases tr
    case false =>
      go_wp2
      go_ret
      exact ⟨by rw [HE.out]; simp, by simpa using HB.out⟩
    case true =>
      by_cases h40 : s.dead.length ≤ 40
      · have h41 : ¬ (40 : Int) < s.dead.length := by omega
        go_wp2
        go_ret
        exact ⟨by rw [HE.out]; simp [h40], by simpa using HB.out⟩
      · have h41 : (40 : Int) < s.dead.length := by omega
        go_wp2
        go_ret
        exact ⟨by rw [HE.out]; simp [h40], by simpa using HB.out⟩
end Go.Proofs.Ytcibihakjcenaaa

