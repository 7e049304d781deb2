/- DropTwice: the words and contracts, part 13. -/
import Derived.Test.YtbddbadmfhplmaaDropTwiceQ1
import Derived.Test.YtbddbadmfhplmaaDropTwiceQ2
import Derived.Test.YtbddbadmfhplmaaDropTwiceQ3
import Derived.Test.YtbddbadmfhplmaaDropTwiceQ4
import Derived.Test.YtbddbadmfhplmaaDropTwiceQ5
import Derived.Test.YtbddbadmfhplmaaDropTwiceQ6
import Derived.Test.YtbddbadmfhplmaaDropTwiceQ7
import Derived.Test.YtbddbadmfhplmaaDropTwiceQ8
import Derived.Test.YtbddbadmfhplmaaDropTwiceQ9
import Derived.Test.YtbddbadmfhplmaaDropTwiceQ10
import Derived.Test.YtbddbadmfhplmaaDropTwiceQ11
import Derived.Test.YtbddbadmfhplmaaDropTwiceQ12
import Derived.WalkKit
import Derived.WalkLawsBesides
import Derived.WalkSpells
import Derived.Lib.Hide
import Derived.Laws.Rows
import Derived.Laws.AppendOwnNone
import Derived.Maps.AppendAt
import Derived.ProofKit
import Derived.Deep.Slices
import Derived.WideShapes
import Derived.RangeFuncNested
import Derived.RangeFuncBound
import Derived.RangeFuncCalls
import Derived.RangeFuncLeaves
import Derived.RangeFuncBox
import Derived.Shelf.Abstract
import Derived.Shelf.RegionOpen
import Derived.OwnWalkIn
import Derived.TacticsInMore
import Derived.LoopNIn
import Derived.LoopIn
import Derived.Lib.AppendZerosOnto
import Derived.Lib.SliceRun
import Derived.Lib.Walk
import Derived.Deep.LoopGhost
import Derived.Laws.CopyOwn
import Derived.Laws.CopyRow
import Derived.OrdersHeld
import Derived.Deep.QuietTactic
import Derived.BigQuiet
import Derived.StillTailTactics
import Derived.OpenShut
import Derived.Deep.DeepCutAuto
import Derived.Deep.RegionHeld
import Derived.Laws.MakeOwn
import Derived.KernelRfl
import Derived.BigFrameIn
import Derived.OrdersIn
namespace Go.Proofs.Ytbddbadmfhplmaa
open Go.RowKit

theorem openE_zeroN (l : List UInt8) (h : openE l = 0) : l.length = 128 ∧ opensL l = true := by
  unfold openE at h
  split at h
  · split at h
    · exact ⟨by assumption, by assumption⟩
    · cases h
  · cases h
theorem seal_openN (l : List UInt8) (h : openE l = 0) : openL l = l.drop 4 ∧ l.length = 128 ∧ sealL (l.drop 4) = l := by
  obtain ⟨h1, h2⟩ := openE_zeroN l h
  refine ⟨by unfold openL; rw [if_pos h], h1, ?_⟩
  unfold sealL
  rw [show padL (l.drop 4) = l.drop 4 by simp [padL, h1]]
  have hn : getN l 0 4 = (crc (l.drop 4)).toNat := by simpa [opensL] using h2
  have hg := (get_yes' l 0 4 (by omega)).1
  rw [← hn]
  have h4 := four_of l 0 (by omega)
  rw [show getN l 0 4 = numOf ((l.drop 0).take 4) from hg, h4]
  simp
theorem open_sealN (b : List UInt8) (h : b.length ≤ 124) : openE (sealL b) = 0 ∧ openL (sealL b) = padL b := by
  have hl := sealL_length b h
  have ht : (sealL b).take 4 = fourL (crc (padL b)).toNat := by simp [sealL, fourL]
  have hd : (sealL b).drop 4 = padL b := by simp [sealL, fourL]
  have ho : opensL (sealL b) = true := by
    simp only [opensL, beq_iff_eq, getN_zero (sealL b) (by omega), ht, hd]
    exact numOf_fourL (crc (padL b)).toNat (by have := (crc (padL b)).isLt; omega)
  have h1 : openE (sealL b) = 0 := by
    unfold openE
    rw [if_pos hl, if_pos ho]
  exact ⟨h1, by unfold openL; rw [if_pos h1, hd]⟩
theorem bodyN_cons (x : ItemL) (l : List ItemL) : bodyN (x :: l) = itemB x ++ bodyN l := by simp [bodyN]
theorem bodyN_snoc (l : List ItemL) (x : ItemL) : bodyN (l ++ [x]) = bodyN l ++ itemB x := by simp [bodyN]
theorem rdS_body (its : List ItemL) (z : List UInt8) (hm : ∀ x ∈ its, mayI x = true) : ∀ k, k ≤ its.length → rdS (bodyN its ++ z) k = some (its.take k, bodyN (its.drop k) ++ z)
  | 0, _ => rfl
  | k + 1, hk => by
    have hx : k < its.length := hk
    have hd : its.drop k = its[k] :: its.drop (k + 1) := List.drop_eq_getElem_cons hx
    obtain ⟨h1, h2, h3⟩ := read_item its[k] (hm _ (List.getElem_mem hx)) (bodyN (its.drop (k + 1)) ++ z)
    rw [rdS, rdS_body its z hm k (by omega)]
    simp only
    rw [hd, bodyN_cons, List.append_assoc, if_pos h1, h2, h3, List.drop_left, List.take_succ_eq_append_getElem hx]
theorem rdS_join (r : List UInt8) : ∀ (k : Nat) (s : List ItemL × List UInt8), rdS r k = some s → r = bodyN s.1 ++ s.2
  | 0, s, h => by cases h; rfl
  | k + 1, s, h => by
    rw [rdS] at h
    cases h0 : rdS r k with
    | none => rw [h0] at h; cases h
    | some t =>
      rw [h0] at h
      simp only at h
      split at h
      · rename_i hr
        cases h
        have ih := rdS_join r k t h0
        obtain ⟨-, h2, -⟩ := item_read t.2 hr
        rw [bodyN_snoc, h2, List.append_assoc, List.take_append_drop]
        exact ih
      · cases h
theorem back1 {n : NodeL} (h : mayN n = true) : errNd (blockN n) = 0 ∧ readNd (blockN n) = n ∧ (blockN n).length = 128 := by
  have hlen := bytesN_len h
  have hb : blockN n = sealL (bytesN n) := by unfold blockN; rw [if_pos h]
  obtain ⟨o1, o2⟩ := open_sealN (bytesN n) hlen
  obtain ⟨⟨l0, l6⟩, l5, -, -⟩ := mayN_all h
  obtain ⟨lv, its⟩ := n
  obtain ⟨lv, rfl⟩ := Int.eq_ofNat_of_zero_le l0
  simp only at l6 l5
  have e : padL (bytesN ⟨(lv : Int), its⟩) = 78 :: UInt8.ofNat lv :: UInt8.ofNat its.length :: (bodyN its ++ List.replicate (124 - (bytesN ⟨(lv : Int), its⟩).length) 0) := by
    simp [padL, bytesN, headN]
  rw [e] at o2
  have hr := rdS_body its (List.replicate (124 - (bytesN ⟨(lv : Int), its⟩).length) 0) (mayN_items h) its.length (Nat.le_refl _)
  rw [List.take_length, List.drop_length] at hr
  have n1 : (UInt8.ofNat lv).toNat = lv := by rw [UInt8.toNat_ofNat']; omega
  have n2 : (UInt8.ofNat its.length).toNat = its.length := by rw [UInt8.toNat_ofNat']; omega
  have ha : rdAll (sealL (bytesN ⟨(lv : Int), its⟩)) = some (its, List.replicate (124 - (bytesN ⟨(lv : Int), its⟩).length) 0) := by
    unfold rdAll
    rw [o2]
    simp only [List.drop_succ_cons, List.drop_zero, List.getD_cons_succ, List.getD_cons_zero, n2]
    exact hr
  have hz : maxL (List.replicate (124 - (bytesN ⟨(lv : Int), its⟩).length) (0 : UInt8)) = 0 := (maxL_zero _).2 fun x hx => (List.mem_replicate.1 hx).2
  have hk : okRd (sealL (bytesN ⟨(lv : Int), its⟩)) = true := by
    unfold okRd
    rw [ha, o2]
    simp only [List.getD_cons_succ, List.getD_cons_zero, n1, n2, h, hz]
    simp [l5]
  have he : errNd (sealL (bytesN ⟨(lv : Int), its⟩)) = 0 := by
    unfold errNd
    rw [if_pos o1, if_pos hk]
  refine ⟨by rw [hb]; exact he, ?_, by rw [hb]; exact sealL_length _ hlen⟩
  rw [hb]
  unfold readNd
  rw [if_pos he, ha, o2]
  simp only [List.getD_cons_succ, List.getD_cons_zero, n1, Option.getD_some]
theorem back2 {l : List UInt8} (h : errNd l = 0) : mayN (readNd l) = true ∧ blockN (readNd l) = l := by
  have ho : openE l = 0 := by
    unfold errNd at h
    split at h
    · assumption
    · exact h
  obtain ⟨o1, o2, o3⟩ := seal_openN l ho
  have hk : okRd l = true := by
    unfold errNd at h
    rw [if_pos ho] at h
    cases hk : okRd l with
    | true => rfl
    | false => rw [hk] at h; simp at h
  have hL : (openL l).length = 124 := by rw [o1, List.length_drop]; omega
  have hrn : readNd l = ⟨(((openL l).getD 1 0).toNat : Int), ((rdAll l).getD ([], [])).1⟩ := by
    unfold readNd
    rw [if_pos h]
  unfold okRd at hk
  cases hs : rdAll l with
  | none => rw [hs] at hk; simp at hk
  | some s =>
    rw [hs] at hk hrn
    simp only [Bool.and_eq_true, beq_iff_eq, decide_eq_true_eq] at hk
    obtain ⟨⟨k0, k2⟩, km, kz⟩ := hk
    simp only [Option.getD_some] at hrn
    unfold rdAll at hs
    rw [← o1] at o3
    generalize openL l = L at *
    match L, hL with
    | x0 :: x1 :: x2 :: r, hL =>
      simp only [List.getD_cons_succ, List.getD_cons_zero, List.drop_succ_cons, List.drop_zero] at k0 k2 km hrn hs
      subst k0
      have hj := rdS_join _ _ _ hs
      have hl := (rdS_len hs).1
      refine ⟨by rw [hrn]; exact km, ?_⟩
      rw [hrn]
      unfold blockN
      rw [if_pos km]
      have hby : bytesN ⟨(x1.toNat : Int), s.1⟩ = 78 :: x1 :: x2 :: bodyN s.1 := by
        simp [bytesN, headN, hl]
      have hz : s.2 = List.replicate s.2.length 0 := List.eq_replicate_iff.2 ⟨rfl, (maxL_zero _).1 kz⟩
      have hp : padL (bytesN ⟨(x1.toNat : Int), s.1⟩) = 78 :: x1 :: x2 :: r := by
        have hrl : r.length = (bodyN s.1).length + s.2.length := by rw [hj, List.length_append]
        have h3 : r.length = 121 := by simpa using hL
        unfold padL
        rw [hby]
        simp only [List.length_cons, List.cons_append]
        rw [show 124 - ((bodyN s.1).length + 1 + 1 + 1) = s.2.length by omega, ← hz, ← hj]
      have hp2 : padL (78 :: x1 :: x2 :: r) = 78 :: x1 :: x2 :: r := by
        unfold padL
        rw [hL]
        simp
      rw [← o3]
      unfold sealL
      rw [hp, hp2]
    | [], hL => simp at hL
    | [_], hL => simp at hL
    | [_, _], hL => simp at hL
end Go.Proofs.Ytbddbadmfhplmaa

namespace Go.Proofs.Ytbddbadmfhplmaa
open Go.RowKit

/-- All places of a leaf's items are loosened; none: one has no count. -/
def looseA : List UInt8 → List ItemL → Option (List UInt8)
  | now, [] => some now
  | now, y :: l => if y.ref = 0 then looseA now l else if now.getD y.ref.toNat 0 = 0 then none else looseA (now.set y.ref.toNat (now.getD y.ref.toNat 0 + 255)) l
/-- The counts behind what waits to be left (the first one first); none: it can't be. The number: more than all counts. -/
def lvF (d : DiskL) (first : List UInt8) : Nat → List UInt8 → List (Nat × Int) → Option (List UInt8)
  | 0, _, _ => none
  | _ + 1, now, [] => some now
  | k + 1, now, x :: st =>
    if now.getD x.1 0 = 0 then none
    else if 1 < (now.getD x.1 0).toNat then lvF d first k (now.set x.1 (now.getD x.1 0 + 255)) st
    else if errNd (seenD d x.1) ≠ 0 ∨ first.getD x.1 0 = 0 ∨ (0 ≤ x.2 ∧ (readNd (seenD d x.1)).level ≠ x.2) then none
    else if 0 < (readNd (seenD d x.1)).level then lvF d first k (now.set x.1 0) ((readNd (seenD d x.1)).items.map (fun y => (y.ref.toNat, (readNd (seenD d x.1)).level - 1)) ++ st)
    else match looseA (now.set x.1 0) (readNd (seenD d x.1)).items with
      | none => none
      | some now' => lvF d first k now' st
/-- How much is counted. -/
def sumC (now : List UInt8) : Nat := (now.map UInt8.toNat).sum
theorem sumC_set (l : List UInt8) (i : Nat) (x : UInt8) (h : i < l.length) : sumC (l.set i x) + (l.getD i 0).toNat = sumC l + x.toNat := by
  unfold sumC
  induction l generalizing i with
  | nil => simp at h
  | cons a l ih =>
    cases i with
    | zero => simp; omega
    | succ i =>
      have := ih i (by simpa using h)
      simp only [List.set_cons_succ, List.map_cons, List.sum_cons, List.getD_cons_succ]
      omega
theorem getD_out (l : List UInt8) (i : Nat) (h : l.length ≤ i) : l.getD i 0 = 0 := by simp [h]
theorem lt_of_nz {l : List UInt8} {i : Nat} (h : l.getD i 0 ≠ 0) : i < l.length := by
  rcases Nat.lt_or_ge i l.length with h1 | h1
  · exact h1
  · exact absurd (getD_out l i h1) h
theorem sumC_dn {l : List UInt8} {i : Nat} (h : l.getD i 0 ≠ 0) : sumC (l.set i (l.getD i 0 + 255)) + 1 = sumC l := by
  have h1 := sumC_set l i (l.getD i 0 + 255) (lt_of_nz h)
  have h2 := u8_down h
  have h3 : (l.getD i 0).toNat ≠ 0 := fun e => h (u8_inj e)
  omega
theorem sumC_nought {l : List UInt8} {i : Nat} (h : l.getD i 0 ≠ 0) : sumC (l.set i 0) + 1 ≤ sumC l := by
  have h1 := sumC_set l i 0 (lt_of_nz h)
  have h3 : (l.getD i 0).toNat ≠ 0 := fun e => h (u8_inj e)
  have h4 : (0 : UInt8).toNat = 0 := rfl
  omega
theorem looseA_sum : ∀ {its : List ItemL} {now now' : List UInt8}, looseA now its = some now' → sumC now' ≤ sumC now
  | [], now, now', h => by cases h; exact Nat.le_refl _
  | y :: l, now, now', h => by
    rw [looseA] at h
    split at h
    · exact looseA_sum h
    · split at h
      · cases h
      · rename_i h1
        have := looseA_sum h
        have := sumC_dn h1
        omega
/-- The number does not matter, where it is great enough. -/
theorem lvF_any (d : DiskL) (first : List UInt8) : ∀ (k m : Nat) (now : List UInt8) (st : List (Nat × Int)), sumC now < k → sumC now < m → lvF d first k now st = lvF d first m now st
  | 0, _, _, _, h, _ => by omega
  | _, 0, _, _, _, h => by omega
  | k + 1, m + 1, now, [], _, _ => rfl
  | k + 1, m + 1, now, x :: st, hk, hm => by
    rw [lvF, lvF]
    split
    · rfl
    · rename_i h0
      have h1 := sumC_dn h0
      have h2 := sumC_nought h0
      split
      · exact lvF_any d first k m _ _ (by omega) (by omega)
      · split
        · rfl
        · split
          · exact lvF_any d first k m _ _ (by omega) (by omega)
          · cases h : looseA (now.set x.1 0) (readNd (seenD d x.1)).items with
            | none => rfl
            | some now' =>
              have := looseA_sum h
              exact lvF_any d first k m _ _ (by omega) (by omega)
theorem sumC_le256 (l : List UInt8) : sumC l ≤ l.length * 255 := by
  unfold sumC
  induction l with
  | nil => exact Nat.le_refl _
  | cons a l ih =>
    have := a.toNat_lt
    simp only [List.map_cons, List.sum_cons, List.length_cons]
    omega
theorem looseA_app : ∀ (l m : List ItemL) (now : List UInt8), looseA now (l ++ m) = (looseA now l).bind (fun n => looseA n m)
  | [], _, _ => rfl
  | y :: l, m, now => by
    rw [List.cons_append, looseA, looseA]
    split
    · exact looseA_app l m now
    · split
      · rfl
      · exact looseA_app l m _
/-- One more place is loosened. -/
theorem looseA_next (now : List UInt8) (l : List ItemL) (j : Nat) (hj : j < l.length) (nowj : List UInt8) (h : looseA now (l.take j) = some nowj) :
    ((l.getD j nokI).ref = 0 → looseA now (l.take (j + 1)) = some nowj) ∧
    ((l.getD j nokI).ref ≠ 0 → nowj.getD (l.getD j nokI).ref.toNat 0 ≠ 0 → looseA now (l.take (j + 1)) = some (nowj.set (l.getD j nokI).ref.toNat (nowj.getD (l.getD j nokI).ref.toNat 0 + 255))) ∧
    ((l.getD j nokI).ref ≠ 0 → nowj.getD (l.getD j nokI).ref.toNat 0 = 0 → looseA now l = none) := by
  have e1 : l.take (j + 1) = l.take j ++ [l.getD j nokI] := by rw [List.take_add_one, get_l l nokI j hj]; rfl
  have e2 : l = l.take j ++ (l.getD j nokI :: l.drop (j + 1)) := by
    have e3 := List.take_append_drop (j + 1) l
    rw [e1, List.append_assoc] at e3
    exact e3.symm
  have a1 := looseA_app (l.take j) [l.getD j nokI] now
  have a2 := looseA_app (l.take j) (l.getD j nokI :: l.drop (j + 1)) now
  rw [← e1, h] at a1
  rw [← e2, h] at a2
  refine ⟨fun h0 => ?_, fun h0 h1 => ?_, fun h0 h1 => ?_⟩
  · rw [a1, Option.bind_some, looseA, if_pos h0]; rfl
  · rw [a1, Option.bind_some, looseA, if_neg h0, if_neg h1]; rfl
  · rw [a2, Option.bind_some, looseA, if_neg h0, if_pos h1]
/-- Behind a node is left. -/
def lvS (s : StoreL) (p : Nat) : Option (List UInt8) := lvF s.disk s.now (sumC s.now + 1) s.now [(p, -1)]
/-- No count is more, and all is as long; fixed blocks stay. -/
structure Less (now now' : List UInt8) : Prop where
  len : now'.length = now.length
  le : ∀ i, (now'.getD i 0).toNat ≤ (now.getD i 0).toNat
  fixed : now'.take 8 = now.take 8
theorem Less.refl (l : List UInt8) : Less l l := ⟨rfl, fun _ => Nat.le_refl _, rfl⟩
theorem Less.trans {a b c : List UInt8} (h : Less a b) (k : Less b c) : Less a c := ⟨k.len.trans h.len, fun i => Nat.le_trans (k.le i) (h.le i), k.fixed.trans h.fixed⟩
theorem take_set8 (l : List UInt8) (i : Nat) (x : UInt8) (h : 8 ≤ i) : (l.set i x).take 8 = l.take 8 := by
  apply List.ext_getElem?
  intro j
  rw [List.getElem?_take, List.getElem?_take]
  split
  · rw [List.getElem?_set_ne (by omega)]
  · rfl
theorem Less.set {l : List UInt8} {i : Nat} {x : UInt8} (h : x.toNat ≤ (l.getD i 0).toNat) (h8 : 8 ≤ i) : Less l (l.set i x) := by
  refine ⟨by simp, fun j => ?_, take_set8 l i x h8⟩
  by_cases hij : i = j
  · subst hij
    rcases Nat.lt_or_ge i l.length with h1 | h1
    · rw [cgetD_set_self _ _ _ h1]; exact h
    · rw [List.set_eq_of_length_le h1]; exact Nat.le_refl _
  · rw [bget_set_ne _ _ _ _ hij]; exact Nat.le_refl _
theorem Less.dn {l : List UInt8} {i : Nat} (h : l.getD i 0 ≠ 0) (h8 : 8 ≤ i) : Less l (l.set i (l.getD i 0 + 255)) := Less.set (by rw [u8_down h]; omega) h8
theorem Less.nought (l : List UInt8) {i : Nat} (h8 : 8 ≤ i) : Less l (l.set i 0) := Less.set (Nat.zero_le _) h8
/-- Items whose places may be. -/
def RefsOk (its : List ItemL) : Prop := ∀ y ∈ its, y.ref = 0 ∨ (8 ≤ y.ref ∧ y.ref < 256)
theorem mayI_ref {x : ItemL} (h : mayI x = true) : x.ref = 0 ∨ (8 ≤ x.ref ∧ x.ref < 256) := by
  unfold mayI at h
  simp at h
  omega
theorem mayN_refs {n : NodeL} (h : mayN n = true) : RefsOk n.items := fun y hy => mayI_ref (mayN_items h y hy)
theorem mayN_above {n : NodeL} (h : mayN n = true) (hl : 0 < n.level) : ∀ y ∈ n.items, 8 ≤ y.ref ∧ y.ref < 256 := by
  intro y hy
  obtain ⟨i, hi, rfl⟩ := mem_getD (d := nokI) hy
  have h1 := (mayN_all h).2.2.2 i hi
  have h2 := mayI_ref (stepN_may h1)
  unfold stepN at h1
  rw [decide_eq_false (by omega : ¬ n.level ≤ 0)] at h1
  generalize n.items.getD i nokI = y at *
  simp at h1
  have := h1.2.1
  omega
theorem looseA_less : ∀ {its : List ItemL} {now now' : List UInt8}, RefsOk its → looseA now its = some now' → Less now now'
  | [], now, now', _, h => by cases h; exact Less.refl _
  | y :: l, now, now', hr, h => by
    have hr' : RefsOk l := fun z hz => hr z (List.mem_cons_of_mem _ hz)
    rw [looseA] at h
    split at h
    · exact looseA_less hr' h
    · rename_i h0
      split at h
      · cases h
      · rename_i h1
        have h8 := hr y (List.mem_cons_self ..)
        exact (Less.dn h1 (by omega)).trans (looseA_less hr' h)
theorem lvF_less (d : DiskL) (first : List UInt8) : ∀ (k : Nat) (now now' : List UInt8) (st : List (Nat × Int)), (∀ x ∈ st, 8 ≤ x.1) → lvF d first k now st = some now' → Less now now'
  | 0, _, _, _, _, h => by cases h
  | k + 1, now, now', [], _, h => by cases h; exact Less.refl _
  | k + 1, now, now', x :: st, hs, h => by
    have hs' : ∀ x ∈ st, 8 ≤ x.1 := fun z hz => hs z (List.mem_cons_of_mem _ hz)
    have h8 := hs x (List.mem_cons_self ..)
    rw [lvF] at h
    split at h
    · cases h
    · rename_i h0
      split at h
      · exact (Less.dn h0 h8).trans (lvF_less d first k _ _ _ hs' h)
      · split at h
        · cases h
        · rename_i hb
          have hN := (back2 (l := seenD d x.1) (Classical.not_not.1 fun e => hb (.inl e))).1
          split at h
          · rename_i hl
            refine (Less.nought now h8).trans (lvF_less d first k _ _ _ (fun z hz => ?_) h)
            rcases List.mem_append.1 hz with hz | hz
            · obtain ⟨y, hy, rfl⟩ := List.mem_map.1 hz
              have := mayN_above hN hl y hy
              show 8 ≤ y.ref.toNat
              omega
            · exact hs' z hz
          · split at h
            · cases h
            · rename_i now2 hA
              exact ((Less.nought now h8).trans (looseA_less (mayN_refs hN) hA)).trans (lvF_less d first k _ _ _ hs' h)
theorem Less.may {now now' : List UInt8} (h : Less now now') (hm : mayT now = true) : mayT now' = true := by
  unfold mayT at hm ⊢
  rw [h.len, h.fixed]
  exact hm
theorem lvS_less {s : StoreL} {p : Nat} {now' : List UInt8} (h8 : 8 ≤ p) (h : lvS s p = some now') : Less s.now now' := lvF_less _ _ _ _ _ _ (fun x hx => by rw [List.mem_singleton.1 hx]; exact h8) h
/-- How many items have a place. -/
def cntR (its : List ItemL) (p : Nat) : Nat := (its.filter fun y => decide (y.ref ≠ 0) && decide (y.ref.toNat = p)).length
theorem cntR_cons (y : ItemL) (l : List ItemL) (p : Nat) : cntR (y :: l) p = cntR l p + if y.ref ≠ 0 ∧ y.ref.toNat = p then 1 else 0 := by
  unfold cntR
  rw [List.filter_cons]
  by_cases h : y.ref ≠ 0 ∧ y.ref.toNat = p
  · rw [if_pos h, if_pos (by simpa using h)]
    rfl
  · rw [if_neg h, if_neg (by simpa using h)]
    rfl
/-- What is loosened of a leaf. -/
theorem looseA_is : ∀ (its : List ItemL) (now : List UInt8), (∀ p, cntR its p ≤ (now.getD p 0).toNat) → ∃ now', looseA now its = some now' ∧ now'.length = now.length ∧ ∀ p, (now'.getD p 0).toNat = (now.getD p 0).toNat - cntR its p
  | [], now, _ => ⟨now, rfl, rfl, fun p => by simp [cntR]⟩
  | y :: l, now, h => by
    rw [looseA]
    by_cases h0 : y.ref = 0
    · rw [if_pos h0]
      obtain ⟨now', a, b, c⟩ := looseA_is l now (fun p => by have := h p; rw [cntR_cons, if_neg (by simp [h0])] at this; simpa using this)
      exact ⟨now', a, b, fun p => by rw [c, cntR_cons, if_neg (by simp [h0])]; rfl⟩
    · rw [if_neg h0]
      have h1 := h y.ref.toNat
      rw [cntR_cons, if_pos ⟨h0, rfl⟩] at h1
      have hz : now.getD y.ref.toNat 0 ≠ 0 := fun e => by rw [e] at h1; have : (0 : UInt8).toNat = 0 := rfl; omega
      rw [if_neg hz]
      have hp := lt_of_nz hz
      have hs : ∀ p, ((now.set y.ref.toNat (now.getD y.ref.toNat 0 + 255)).getD p 0).toNat = (now.getD p 0).toNat - if y.ref.toNat = p then 1 else 0 := by
        intro p
        by_cases e : y.ref.toNat = p
        · subst e
          rw [cgetD_set_self _ _ _ hp, u8_down hz, if_pos rfl]
        · rw [bget_set_ne _ _ _ _ e, if_neg e]; rfl
      obtain ⟨now', a, b, c⟩ := looseA_is l (now.set y.ref.toNat (now.getD y.ref.toNat 0 + 255)) (fun p => by
        have := h p
        rw [cntR_cons] at this
        rw [hs]
        by_cases e : y.ref.toNat = p
        · rw [if_pos ⟨h0, e⟩] at this; rw [if_pos e]; omega
        · rw [if_neg (fun k => e k.2)] at this; rw [if_neg e]; omega)
      refine ⟨now', a, by rw [b]; simp, fun p => ?_⟩
      rw [c, hs, cntR_cons]
      by_cases e : y.ref.toNat = p
      · rw [if_pos e, if_pos ⟨h0, e⟩]; omega
      · rw [if_neg e, if_neg (fun k => e k.2)]; omega
/-- What is left of a node above: all its nodes have other references. -/
theorem lvF_is (d : DiskL) (first : List UInt8) (lv : Int) : ∀ (its : List ItemL) (k : Nat) (now : List UInt8), sumC now < k → (∀ y ∈ its, y.ref ≠ 0) → (∀ p, 0 < cntR its p → cntR its p < (now.getD p 0).toNat) →
    ∃ now', lvF d first k now (its.map fun y => (y.ref.toNat, lv)) = some now' ∧ now'.length = now.length ∧ ∀ p, (now'.getD p 0).toNat = (now.getD p 0).toNat - cntR its p
  | _, 0, _, hk, _, _ => by omega
  | [], k + 1, now, _, _, _ => ⟨now, rfl, rfl, fun p => by simp [cntR]⟩
  | y :: l, k + 1, now, hk, hr, h => by
    have h0 := hr y (List.mem_cons_self ..)
    have h1 := h y.ref.toNat (by rw [cntR_cons, if_pos ⟨h0, rfl⟩]; omega)
    rw [cntR_cons, if_pos ⟨h0, rfl⟩] at h1
    have hz : now.getD y.ref.toNat 0 ≠ 0 := fun e => by rw [e] at h1; have : (0 : UInt8).toNat = 0 := rfl; omega
    rw [List.map_cons, lvF]
    dsimp only
    rw [if_neg hz, if_pos (by omega)]
    have hp := lt_of_nz hz
    have hd := sumC_dn hz
    have hs : ∀ p, ((now.set y.ref.toNat (now.getD y.ref.toNat 0 + 255)).getD p 0).toNat = (now.getD p 0).toNat - if y.ref.toNat = p then 1 else 0 := by
      intro p
      by_cases e : y.ref.toNat = p
      · subst e
        rw [cgetD_set_self _ _ _ hp, u8_down hz, if_pos rfl]
      · rw [bget_set_ne _ _ _ _ e, if_neg e]; rfl
    obtain ⟨now', a, b, c⟩ := lvF_is d first lv l k (now.set y.ref.toNat (now.getD y.ref.toNat 0 + 255)) (by omega) (fun z hz => hr z (List.mem_cons_of_mem _ hz)) (fun p hp => by
      have := h p (by rw [cntR_cons]; omega)
      rw [cntR_cons] at this
      rw [hs]
      by_cases e : y.ref.toNat = p
      · rw [if_pos ⟨h0, e⟩] at this; rw [if_pos e]; omega
      · rw [if_neg (fun k => e k.2)] at this; rw [if_neg e]; omega)
    refine ⟨now', a, by rw [b]; simp, fun p => ?_⟩
    rw [c, hs, cntR_cons]
    by_cases e : y.ref.toNat = p
    · rw [if_pos e, if_pos ⟨h0, e⟩]; omega
    · rw [if_neg e, if_neg (fun k => e k.2)]; omega
/-- A node of one reference is left: the counts of all its places are one less for each, its own is nought. -/
theorem lvS_made {s : StoreL} {p : Nat} {n : NodeL} (h1 : (s.now.getD p 0).toNat = 1) (he : errNd (seenD s.disk p) = 0) (hn : readNd (seenD s.disk p) = n)
    (hc : ∀ q, 0 < cntR n.items q → q ≠ p ∧ cntR n.items q < (s.now.getD q 0).toNat) :
    ∃ now', lvS s p = some now' ∧ now'.length = s.now.length ∧ ∀ q, (now'.getD q 0).toNat = (s.now.getD q 0).toNat - cntR n.items q - if q = p then 1 else 0 := by
  have h0 : s.now.getD p 0 ≠ 0 := fun e => by rw [e] at h1; cases h1
  have hp := lt_of_nz h0
  have hsm := sumC_nought h0
  have hN := (back2 he).1
  rw [hn] at hN
  have h4 : (0 : UInt8).toNat = 0 := rfl
  have hcp : cntR n.items p = 0 := by
    rcases Nat.eq_zero_or_pos (cntR n.items p) with h | h
    · exact h
    · exact absurd rfl (hc p h).1
  have hset : ∀ q, ((s.now.set p 0).getD q 0).toNat = (s.now.getD q 0).toNat - if q = p then 1 else 0 := by
    intro q
    by_cases e : p = q
    · subst e
      rw [cgetD_set_self _ _ _ hp, if_pos rfl, h1]
      rfl
    · rw [bget_set_ne _ _ _ _ e, if_neg (fun k => e k.symm)]; rfl
  unfold lvS
  rw [lvF]
  dsimp only
  rw [if_neg h0, if_neg (by omega), if_neg (by rw [he]; rintro (h | h | h); exact h rfl; exact h0 h; omega), hn]
  split
  · rename_i hl
    obtain ⟨now', a, b, c⟩ := lvF_is s.disk s.now (n.level - 1) n.items (sumC s.now) (s.now.set p 0) (by omega) (fun y hy => by have := mayN_above hN hl y hy; omega) (fun q hq => by
      obtain ⟨c1, c2⟩ := hc q hq
      rw [hset, if_neg c1]; omega)
    refine ⟨now', by rw [List.append_nil]; exact a, by rw [b]; simp, fun q => ?_⟩
    rw [c, hset]
    omega
  · obtain ⟨now', a, b, c⟩ := looseA_is n.items (s.now.set p 0) (fun q => by
      rw [hset]
      rcases Nat.eq_zero_or_pos (cntR n.items q) with h | h
      · omega
      · obtain ⟨c1, c2⟩ := hc q h
        rw [if_neg c1]; omega)
    rw [a]
    obtain ⟨m, hm⟩ : ∃ m, sumC s.now = m + 1 := ⟨sumC s.now - 1, by omega⟩
    refine ⟨now', by rw [hm]; rfl, by rw [b]; simp, fun q => ?_⟩
    rw [c, hset]
    omega
/-- What a node that is made is counted. -/
theorem shS_cnt (s : StoreL) (l : List ItemL) (h : shE s l = 0) : (shS s l).now.length = s.now.length ∧ ∀ p, ((shS s l).now.getD p 0).toNat = (s.now.getD p 0).toNat + cntR l p ∧ (0 < cntR l p → s.now.getD p 0 ≠ 0) := by
  induction l generalizing s with
  | nil => exact ⟨rfl, fun p => ⟨rfl, fun h => by simp [cntR] at h⟩⟩
  | cons y l ih =>
    simp only [shE, shS] at h ⊢
    by_cases h0 : y.ref = 0
    · rw [if_pos h0] at h ⊢
      obtain ⟨a, b⟩ := ih s h
      exact ⟨a, fun p => by rw [cntR_cons, if_neg (by simp [h0])]; exact b p⟩
    · rw [if_neg h0] at h ⊢
      split at h
      · rename_i h1
        rw [if_pos h1]
        obtain ⟨a, b⟩ := ih _ h
        rcases up_cases s y.ref.toNat with ⟨_, h2, _⟩ | ⟨_, h2, _⟩ | ⟨u1, u2, _, u3⟩
        · rw [h1] at h2; cases h2
        · rw [h1] at h2; cases h2
        · have hp := lt_of_nz u1
          have hs : ∀ p, ((upS s y.ref.toNat).now.getD p 0).toNat = (s.now.getD p 0).toNat + (if y.ref.toNat = p then 1 else 0) ∧ ((upS s y.ref.toNat).now.getD p 0 ≠ 0 → s.now.getD p 0 ≠ 0) := by
            intro p
            rw [u3]
            show ((s.now.set y.ref.toNat (s.now.getD y.ref.toNat 0 + 1)).getD p 0).toNat = _ ∧ _
            by_cases e : y.ref.toNat = p
            · subst e
              rw [cgetD_set_self _ _ _ hp, u8_up u2, if_pos rfl]
              exact ⟨rfl, fun _ => u1⟩
            · rw [bget_set_ne _ _ _ _ e, if_neg e]
              exact ⟨rfl, id⟩
          refine ⟨by rw [a, u3]; simp, fun p => ?_⟩
          obtain ⟨b1, b2⟩ := b p
          obtain ⟨s1, s2⟩ := hs p
          rw [cntR_cons, b1, s1]
          by_cases e : y.ref.toNat = p
          · rw [if_pos e, if_pos ⟨h0, e⟩]
            exact ⟨by omega, fun _ => by rw [← e]; exact u1⟩
          · rw [if_neg e, if_neg (fun k => e k.2)]
            exact ⟨by omega, fun hc => s2 (b2 (by omega))⟩
      · rename_i h1
        exact absurd h h1
end Go.Proofs.Ytbddbadmfhplmaa

namespace Go.Proofs.Ytbddbadmfhplmaa
open Go.RowKit Go.Shelf
attribute [local go_sem] Oper.semAt_some

/-- Items as values: the items, and their slices. -/
theorem items_of {w : World} {lo hi n c : Nat} {a : Option Addr} {l : List ItemL} (h : Sl rItem w lo hi (.slice a n c) l) : ∃ bs : List (ItemL × Value), bs.length = l.length ∧
    (∀ i x, bs[i]? = some x → x.1 = l.getD i nokI ∧ (Lit.int .i64 x.1.ref).wf = true ∧ Bytes w lo hi x.2 x.1.val) ∧
    (0 < bs.length → ∃ b off, a = some ⟨b, off, none⟩ ∧ lo ≤ b ∧ b < hi ∧ ∀ i x, bs[i]? = some x → w.cell? ⟨b, off + i * 5, none⟩ = some (bV x.1.key.kind) ∧ w.cell? ⟨b, off + i * 5 + 1, none⟩ = some (wV x.1.key.id) ∧ w.cell? ⟨b, off + i * 5 + 2, none⟩ = some (wV x.1.key.off) ∧ w.cell? ⟨b, off + i * 5 + 3, none⟩ = some (.int .i64 x.1.ref) ∧ w.cell? ⟨b, off + i * 5 + 4, none⟩ = some x.2) := by
  obtain ⟨a', c', e, h1, h2, h3, h4⟩ := h
  cases e
  obtain ⟨bs, hbl, hba⟩ := list_of (n := l.length) (p := fun i (x : ItemL × Value) => x.1 = l.getD i nokI ∧ (Lit.int .i64 x.1.ref).wf = true ∧ Bytes w lo hi x.2 x.1.val ∧ ∀ b off, a = some ⟨b, off, none⟩ → w.cell? ⟨b, off + i * 5, none⟩ = some (bV x.1.key.kind) ∧ w.cell? ⟨b, off + i * 5 + 1, none⟩ = some (wV x.1.key.id) ∧ w.cell? ⟨b, off + i * 5 + 2, none⟩ = some (wV x.1.key.off) ∧ w.cell? ⟨b, off + i * 5 + 3, none⟩ = some (.int .i64 x.1.ref) ∧ w.cell? ⟨b, off + i * 5 + 4, none⟩ = some x.2) (fun i hi => by
    obtain ⟨b, off, rfl, hlo, hhi, hc⟩ := h3 (by omega)
    obtain ⟨f0, f1, f2, f3, f4, v, f5, f6⟩ := hc i _ (get_l l nokI i hi)
    refine ⟨(l.getD i nokI, v), rfl, f4, f6, fun b' off' e => ?_⟩
    cases e
    exact ⟨f0, f1, f2, f3, f5⟩)
  refine ⟨bs, hbl, fun i x hx => ⟨(hba i x hx).1, (hba i x hx).2.1, (hba i x hx).2.2.1⟩, fun hp => ?_⟩
  obtain ⟨b, off, ea, hlo, hhi, hc⟩ := h3 (by omega)
  exact ⟨b, off, ea, hlo, hhi, fun i x hx => (hba i x hx).2.2.2 b off ea⟩

/-- What the rounds must keep: the items' block, and the iterator's own. -/
def KeepI (b Bs : Nat) (A B : World) : Prop := B.heap[b]? = A.heap[b]? ∧ B.heap[Bs]? = A.heap[Bs]?
theorem KeepI.refl (b Bs : Nat) (A : World) : KeepI b Bs A A := ⟨rfl, rfl⟩
theorem KeepI.trans {b Bs : Nat} {A B C : World} (h : KeepI b Bs A B) (k : KeepI b Bs B C) : KeepI b Bs A C := ⟨k.1.trans h.1, k.2.trans h.2⟩
theorem keepI_b {w : World} {b Bs : Nat} (hb : b < w.heap.size) (hB : Bs < w.heap.size) : ∀ (W : World) (l : Nat) (o o' : Obj), w.heap.size ≤ l → W.heap[l]? = some o → o.isCells = false → o.isWalk = false → KeepI b Bs W (W.putObj l o') :=
  fun _ _ _ _ h1 _ _ _ => ⟨World.putObj_heap_other (by omega), World.putObj_heap_other (by omega)⟩

set_option maxRecDepth 100000 in
set_option maxHeartbeats 2000000 in
theorem backi1_in (F : Fence) (n : Nat) (h7 : F.fn 133) (hro : F.round = none) (hn : 1 ≤ n) (l Bs b off cap : Nat) (bs : List (ItemL × Value)) (hlm : bs.length ≤ cap) (hcm : cap ≤ maxLen) (J Jx : List (Fin bs.length) → World → Prop)
    (hY : ∀ pre x W, J pre W → pre.length < bs.length → YieldAt F (n - 1) Try.prog l #[.int .i64 (x.1 : Int), .agg #[bV bs[x.1].1.key.kind, wV bs[x.1].1.key.id, wV bs[x.1].1.key.off, .int .i64 bs[x.1].1.ref, bs[x.1].2]] W fun e W' =>
      (e = .returned (.bool true) ∧ J (pre ++ [x]) W' ∧ KeepI b Bs W W') ∨ (e = .returned (.bool false) ∧ Jx (pre ++ [x]) W'))
    (W : World) (hBs : W.cell? ⟨Bs, 0, none⟩ = some (.slice (some ⟨b, off, none⟩) bs.length cap)) (hc : ∀ i x, bs[i]? = some x → W.cell? ⟨b, off + i * 5, none⟩ = some (bV x.1.key.kind) ∧ W.cell? ⟨b, off + i * 5 + 1, none⟩ = some (wV x.1.key.id) ∧ W.cell? ⟨b, off + i * 5 + 2, none⟩ = some (wV x.1.key.off) ∧ W.cell? ⟨b, off + i * 5 + 3, none⟩ = some (.int .i64 x.1.ref) ∧ W.cell? ⟨b, off + i * 5 + 4, none⟩ = some x.2) (h0 : J [] W) :
    CallsIn F n Try.prog 133 #[.func (.yield l) #[] #[], .pointer (some ⟨Bs, 0, none⟩)] W fun e W' => (∃ v, e = .returned v) ∧
      ((∃ ys, ys = backF bs.length bs.length ∧ J ys W') ∨ (∃ pre, (∃ k, k ≤ bs.length ∧ pre = backF bs.length k) ∧ Jx pre W')) := by
  unfold maxLen at hcm
  refine callsIn_of_wp Try.func133 rfl h7 ?_ hro
  simp only [Try.ntmps133, List.size_toArray, List.length_cons, List.length_nil, Nat.reduceAdd, Nat.reduceSub, Array.replicate_succ, Array.replicate_zero, List.push_toArray, List.append_toArray, List.nil_append, List.cons_append]
  gi_wp2
  gi_loopw [3] (fun i wr => ∃ k : Nat, k ≤ bs.length ∧ i = .int .i64 ((bs.length : Int) - 1 - k) ∧ J (backF bs.length k) wr ∧ KeepI b Bs W wr)
    (fun i _ => (intOf i + 1).toNat)
  case atStart => exact ⟨0, Nat.zero_le _, by simp, h0, KeepI.refl _ _ _⟩
  case round =>
    obtain ⟨k, hk, rfl, hJs, hnx⟩ := hrel
    have hBs' : wr.cell? ⟨Bs, 0, none⟩ = some (.slice (some ⟨b, off, none⟩) bs.length cap) := (World.cell?_of_block hnx.2).trans hBs
    by_cases hlt : k < bs.length
    · obtain ⟨m, hm, hmk⟩ : ∃ m : Nat, m < bs.length ∧ m + 1 + k = bs.length := ⟨bs.length - 1 - k, by omega, by omega⟩
      obtain ⟨hc0, hc1, hc2, hc3, hc4⟩ := hc m bs[m] (by simp [hm])
      have hcx0 : wr.cell? ⟨b, off + m * 5, none⟩ = some (bV bs[m].1.key.kind) := (World.cell?_of_block hnx.1).trans hc0
      have hcx1 : wr.cell? ⟨b, off + m * 5 + 1, none⟩ = some (wV bs[m].1.key.id) := (World.cell?_of_block hnx.1).trans hc1
      have hcx2 : wr.cell? ⟨b, off + m * 5 + 2, none⟩ = some (wV bs[m].1.key.off) := (World.cell?_of_block hnx.1).trans hc2
      have hcx3 : wr.cell? ⟨b, off + m * 5 + 3, none⟩ = some (.int .i64 bs[m].1.ref) := (World.cell?_of_block hnx.1).trans hc3
      have hcx4 : wr.cell? ⟨b, off + m * 5 + 4, none⟩ = some bs[m].2 := (World.cell?_of_block hnx.1).trans hc4
      clear hc0 hc1 hc2 hc3 hc4
      obtain ⟨fn, tmps, assign, body, hy, hR⟩ := hY _ ⟨m, hm⟩ wr hJs (by rw [backF_length _ _ hk]; exact hlt)
      have hsucc : backF bs.length (k + 1) = backF bs.length k ++ [⟨m, hm⟩] := backF_succ _ k m hm hmk
      have HS := Lib.hid hsucc
      clear hsucc
      rw [show ((bs.length : Int) - 1 - (k : Int)) = (m : Int) by omega]
      dsimp only at hy
      obtain ⟨y0, hy0⟩ : ∃ v, bV bs[m].1.key.kind = v := ⟨_, rfl⟩
      obtain ⟨y1, hy1⟩ : ∃ v, wV bs[m].1.key.id = v := ⟨_, rfl⟩
      obtain ⟨y2, hy2⟩ : ∃ v, wV bs[m].1.key.off = v := ⟨_, rfl⟩
      obtain ⟨y3, hy3⟩ : ∃ v, Value.int .i64 bs[m].1.ref = v := ⟨_, rfl⟩
      obtain ⟨y4, hy4⟩ : ∃ v, bs[m].2 = v := ⟨_, rfl⟩
      rw [hy0, hy1, hy2, hy3, hy4] at hy
      rw [hy0] at hcx0
      rw [hy1] at hcx1
      rw [hy2] at hcx2
      rw [hy3] at hcx3
      rw [hy4] at hcx4
      clear hy0 hy1 hy2 hy3 hy4
      have HK := Lib.hid hmk
      clear hmk
      gi_wp2
      refine hR.mono ?_
      rintro e W3 (⟨rfl, hJ3, hk3⟩ | ⟨rfl, hJx3⟩)
      · gi_wp2
        go_roundw
        case rel => exact ⟨k + 1, by omega, by have := HK.out; congr 1 <;> omega, by rw [HS.out]; exact hJ3, hnx.trans hk3⟩
        case measure => (simp [intOf])
      · gi_wp2
        refine bodyPost_ret (results_none rfl _ _ _) rfl ?_
        exact ⟨⟨_, rfl⟩, .inr ⟨_, ⟨k + 1, by omega, HS.out.symm⟩, hJx3⟩⟩
    · obtain rfl : k = bs.length := by omega
      gi_wp2
      go_end0
      exact ⟨⟨_, rfl⟩, .inl ⟨_, rfl, hJs⟩⟩

set_option maxRecDepth 100000 in
set_option maxHeartbeats 1000000 in
theorem backi1_none (F : Fence) (n : Nat) (h7 : F.fn 133) (hro : F.round = none) (l Bs cap : Nat) (a : Option Addr) (J : List (Fin 0) → World → Prop) (W : World) (hBs : W.cell? ⟨Bs, 0, none⟩ = some (.slice a 0 cap)) (h0 : J [] W) :
    CallsIn F n Try.prog 133 #[.func (.yield l) #[] #[], .pointer (some ⟨Bs, 0, none⟩)] W fun e W' => (∃ v, e = .returned v) ∧ J [] W' := by
  refine callsIn_of_wp Try.func133 rfl h7 ?_ hro
  simp only [Try.ntmps133, List.size_toArray, List.length_cons, List.length_nil, Nat.reduceAdd, Nat.reduceSub, Array.replicate_succ, Array.replicate_zero, List.push_toArray, List.append_toArray, List.nil_append, List.cons_append]
  gi_wp2
  gi_loopw [3] (fun i wr => i = .int .i64 (-1) ∧ J [] wr) (fun _ _ => 0)
  case atStart => exact ⟨rfl, h0⟩
  case round =>
    obtain ⟨rfl, hJs⟩ := hrel
    gi_wp2
    go_end0
    exact ⟨⟨_, rfl⟩, hJs⟩

set_option maxHeartbeats 1000000 in
theorem backi_in (F : Fence) (n : Nat) (h5 : F.fn 117) (hro : F.round = none) (a : Option Addr) (len cap : Nat) (w : World) :
    CallsIn F n Try.prog 117 #[.slice a len cap] w fun e w' => e = .returned (.func (.func 133) #[] #[.pointer (some ⟨w.heap.size, 0, none⟩)]) ∧ w' = w.alloc (.cells #[.slice a len cap] 48) := by
  refine callsIn_of_wp Try.func117 rfl h5 ?_ hro
  simp only [Try.ntmps117, List.size_toArray, List.length_cons, List.length_nil, Nat.reduceAdd, Nat.reduceSub, Array.replicate_succ, Array.replicate_zero, List.push_toArray, List.append_toArray, List.nil_append, List.cons_append]
  gi_wp2
  go_ret
  exact ⟨rfl, rfl⟩

/-- The value that slices.Backward hands back: all places and bytes, from behind; or the first k of them. -/
theorem backi_stops (F : Fence) (n : Nat) (h7 : F.fn 133) (hro : F.round = none) (hn : 1 ≤ n) (Bs b : Nat) (a : Option Addr) (c : Nat) (bs : List (ItemL × Value)) (w : World) (hBs : Bs < w.heap.size) (hb : b < w.heap.size)
    (hc : w.cell? ⟨Bs, 0, none⟩ = some (.slice a bs.length c)) (h1 : bs.length ≤ c) (h2 : c ≤ maxLen)
    (h3 : 0 < bs.length → ∃ off, a = some ⟨b, off, none⟩ ∧ ∀ i x, bs[i]? = some x → w.cell? ⟨b, off + i * 5, none⟩ = some (bV x.1.key.kind) ∧ w.cell? ⟨b, off + i * 5 + 1, none⟩ = some (wV x.1.key.id) ∧ w.cell? ⟨b, off + i * 5 + 2, none⟩ = some (wV x.1.key.off) ∧ w.cell? ⟨b, off + i * 5 + 3, none⟩ = some (.int .i64 x.1.ref) ∧ w.cell? ⟨b, off + i * 5 + 4, none⟩ = some x.2) :
    SeqStopsK F n Try.prog 133 #[.pointer (some ⟨Bs, 0, none⟩)] (fun x : Fin bs.length => #[.int .i64 (x.1 : Int), .agg #[bV bs[x.1].1.key.kind, wV bs[x.1].1.key.id, wV bs[x.1].1.key.off, .int .i64 bs[x.1].1.ref, bs[x.1].2]]) (KeepI b Bs) (fun ys => ys = backF bs.length bs.length)
      (fun pre => ∃ k, k ≤ bs.length ∧ pre = backF bs.length k) bs.length w := fun l J Jx W hW _ _ hY h0 => by
  have hc' := (hW.cell (p := ⟨Bs, 0, none⟩) hBs).trans hc
  rcases Nat.eq_zero_or_pos bs.length with hz | hp
  · have : bs = [] := List.eq_nil_of_length_eq_zero hz
    subst this
    exact (backi1_none F n h7 hro l Bs c a J W hc' h0).mono fun e W' ⟨he, hj⟩ => ⟨he, .inl ⟨_, rfl, hj⟩⟩
  · obtain ⟨off, rfl, hcs⟩ := h3 hp
    replace hcs : ∀ i x, bs[i]? = some x → W.cell? ⟨b, off + i * 5, none⟩ = some (bV x.1.key.kind) ∧ W.cell? ⟨b, off + i * 5 + 1, none⟩ = some (wV x.1.key.id) ∧ W.cell? ⟨b, off + i * 5 + 2, none⟩ = some (wV x.1.key.off) ∧ W.cell? ⟨b, off + i * 5 + 3, none⟩ = some (.int .i64 x.1.ref) ∧ W.cell? ⟨b, off + i * 5 + 4, none⟩ = some x.2 := fun i x hx => by
      obtain ⟨d0, d1, d2, d3, d4⟩ := hcs i x hx
      exact ⟨(hW.cell (p := ⟨b, off + i * 5, none⟩) hb).trans d0, (hW.cell (p := ⟨b, off + i * 5 + 1, none⟩) hb).trans d1, (hW.cell (p := ⟨b, off + i * 5 + 2, none⟩) hb).trans d2, (hW.cell (p := ⟨b, off + i * 5 + 3, none⟩) hb).trans d3, (hW.cell (p := ⟨b, off + i * 5 + 4, none⟩) hb).trans d4⟩
    exact backi1_in F n h7 hro hn l Bs b off c bs h1 h2 J Jx hY W hc' hcs h0
end Go.Proofs.Ytbddbadmfhplmaa

