/- DropLooses: the words and contracts, part 15. -/
import Derived.Test.YtbddbadmfhplmaaDropLoosesQ1
import Derived.Test.YtbddbadmfhplmaaDropLoosesQ2
import Derived.Test.YtbddbadmfhplmaaDropLoosesQ3
import Derived.Test.YtbddbadmfhplmaaDropLoosesQ4
import Derived.Test.YtbddbadmfhplmaaDropLoosesQ5
import Derived.Test.YtbddbadmfhplmaaDropLoosesQ6
import Derived.Test.YtbddbadmfhplmaaDropLoosesQ7
import Derived.Test.YtbddbadmfhplmaaDropLoosesQ8
import Derived.Test.YtbddbadmfhplmaaDropLoosesQ9
import Derived.Test.YtbddbadmfhplmaaDropLoosesQ10
import Derived.Test.YtbddbadmfhplmaaDropLoosesQ11
import Derived.Test.YtbddbadmfhplmaaDropLoosesQ12
import Derived.Test.YtbddbadmfhplmaaDropLoosesQ13
import Derived.Test.YtbddbadmfhplmaaDropLoosesQ14
import Derived.WalkKit
import Derived.WalkLawsBesides
import Derived.WalkSpells
import Derived.Lib.Hide
import Derived.Laws.Rows
import Derived.Laws.AppendOwnNone
import Derived.Maps.AppendAt
import Derived.ProofKit
import Derived.Deep.Slices
import Derived.WideShapes
import Derived.RangeFuncNested
import Derived.RangeFuncBound
import Derived.RangeFuncCalls
import Derived.RangeFuncLeaves
import Derived.RangeFuncBox
import Derived.Shelf.Abstract
import Derived.Shelf.RegionOpen
import Derived.OwnWalkIn
import Derived.TacticsInMore
import Derived.LoopNIn
import Derived.LoopIn
import Derived.Lib.AppendZerosOnto
import Derived.Lib.SliceRun
import Derived.Lib.Walk
import Derived.Deep.LoopGhost
import Derived.Laws.CopyOwn
import Derived.Laws.CopyRow
import Derived.OrdersHeld
import Derived.Deep.QuietTactic
import Derived.BigQuiet
import Derived.StillTailTactics
import Derived.OpenShut
import Derived.Deep.DeepCutAuto
import Derived.Deep.RegionHeld
import Derived.Laws.MakeOwn
import Derived.KernelRfl
import Derived.BigFrameIn
import Derived.OrdersIn
namespace Go.Proofs.Ytbddbadmfhplmaa
open Go.RowKit

theorem openE_zeroN (l : List UInt8) (h : openE l = 0) : l.length = 128 ∧ opensL l = true := by
  unfold openE at h
  split at h
  · split at h
    · exact ⟨by assumption, by assumption⟩
    · cases h
  · cases h
theorem seal_openN (l : List UInt8) (h : openE l = 0) : openL l = l.drop 4 ∧ l.length = 128 ∧ sealL (l.drop 4) = l := by
  obtain ⟨h1, h2⟩ := openE_zeroN l h
  refine ⟨by unfold openL; rw [if_pos h], h1, ?_⟩
  unfold sealL
  rw [show padL (l.drop 4) = l.drop 4 by simp [padL, h1]]
  have hn : getN l 0 4 = (crc (l.drop 4)).toNat := by simpa [opensL] using h2
  have hg := (get_yes' l 0 4 (by omega)).1
  rw [← hn]
  have h4 := four_of l 0 (by omega)
  rw [show getN l 0 4 = numOf ((l.drop 0).take 4) from hg, h4]
  simp
theorem open_sealN (b : List UInt8) (h : b.length ≤ 124) : openE (sealL b) = 0 ∧ openL (sealL b) = padL b := by
  have hl := sealL_length b h
  have ht : (sealL b).take 4 = fourL (crc (padL b)).toNat := by simp [sealL, fourL]
  have hd : (sealL b).drop 4 = padL b := by simp [sealL, fourL]
  have ho : opensL (sealL b) = true := by
    simp only [opensL, beq_iff_eq, getN_zero (sealL b) (by omega), ht, hd]
    exact numOf_fourL (crc (padL b)).toNat (by have := (crc (padL b)).isLt; omega)
  have h1 : openE (sealL b) = 0 := by
    unfold openE
    rw [if_pos hl, if_pos ho]
  exact ⟨h1, by unfold openL; rw [if_pos h1, hd]⟩
theorem bodyN_cons (x : ItemL) (l : List ItemL) : bodyN (x :: l) = itemB x ++ bodyN l := by simp [bodyN]
theorem bodyN_snoc (l : List ItemL) (x : ItemL) : bodyN (l ++ [x]) = bodyN l ++ itemB x := by simp [bodyN]
theorem rdS_body (its : List ItemL) (z : List UInt8) (hm : ∀ x ∈ its, mayI x = true) : ∀ k, k ≤ its.length → rdS (bodyN its ++ z) k = some (its.take k, bodyN (its.drop k) ++ z)
  | 0, _ => rfl
  | k + 1, hk => by
    have hx : k < its.length := hk
    have hd : its.drop k = its[k] :: its.drop (k + 1) := List.drop_eq_getElem_cons hx
    obtain ⟨h1, h2, h3⟩ := read_item its[k] (hm _ (List.getElem_mem hx)) (bodyN (its.drop (k + 1)) ++ z)
    rw [rdS, rdS_body its z hm k (by omega)]
    simp only
    rw [hd, bodyN_cons, List.append_assoc, if_pos h1, h2, h3, List.drop_left, List.take_succ_eq_append_getElem hx]
theorem rdS_join (r : List UInt8) : ∀ (k : Nat) (s : List ItemL × List UInt8), rdS r k = some s → r = bodyN s.1 ++ s.2
  | 0, s, h => by cases h; rfl
  | k + 1, s, h => by
    rw [rdS] at h
    cases h0 : rdS r k with
    | none => rw [h0] at h; cases h
    | some t =>
      rw [h0] at h
      simp only at h
      split at h
      · rename_i hr
        cases h
        have ih := rdS_join r k t h0
        obtain ⟨-, h2, -⟩ := item_read t.2 hr
        rw [bodyN_snoc, h2, List.append_assoc, List.take_append_drop]
        exact ih
      · cases h
theorem back1 {n : NodeL} (h : mayN n = true) : errNd (blockN n) = 0 ∧ readNd (blockN n) = n ∧ (blockN n).length = 128 := by
  have hlen := bytesN_len h
  have hb : blockN n = sealL (bytesN n) := by unfold blockN; rw [if_pos h]
  obtain ⟨o1, o2⟩ := open_sealN (bytesN n) hlen
  obtain ⟨⟨l0, l6⟩, l5, -, -⟩ := mayN_all h
  obtain ⟨lv, its⟩ := n
  obtain ⟨lv, rfl⟩ := Int.eq_ofNat_of_zero_le l0
  simp only at l6 l5
  have e : padL (bytesN ⟨(lv : Int), its⟩) = 78 :: UInt8.ofNat lv :: UInt8.ofNat its.length :: (bodyN its ++ List.replicate (124 - (bytesN ⟨(lv : Int), its⟩).length) 0) := by
    simp [padL, bytesN, headN]
  rw [e] at o2
  have hr := rdS_body its (List.replicate (124 - (bytesN ⟨(lv : Int), its⟩).length) 0) (mayN_items h) its.length (Nat.le_refl _)
  rw [List.take_length, List.drop_length] at hr
  have n1 : (UInt8.ofNat lv).toNat = lv := by rw [UInt8.toNat_ofNat']; omega
  have n2 : (UInt8.ofNat its.length).toNat = its.length := by rw [UInt8.toNat_ofNat']; omega
  have ha : rdAll (sealL (bytesN ⟨(lv : Int), its⟩)) = some (its, List.replicate (124 - (bytesN ⟨(lv : Int), its⟩).length) 0) := by
    unfold rdAll
    rw [o2]
    simp only [List.drop_succ_cons, List.drop_zero, List.getD_cons_succ, List.getD_cons_zero, n2]
    exact hr
  have hz : maxL (List.replicate (124 - (bytesN ⟨(lv : Int), its⟩).length) (0 : UInt8)) = 0 := (maxL_zero _).2 fun x hx => (List.mem_replicate.1 hx).2
  have hk : okRd (sealL (bytesN ⟨(lv : Int), its⟩)) = true := by
    unfold okRd
    rw [ha, o2]
    simp only [List.getD_cons_succ, List.getD_cons_zero, n1, n2, h, hz]
    simp [l5]
  have he : errNd (sealL (bytesN ⟨(lv : Int), its⟩)) = 0 := by
    unfold errNd
    rw [if_pos o1, if_pos hk]
  refine ⟨by rw [hb]; exact he, ?_, by rw [hb]; exact sealL_length _ hlen⟩
  rw [hb]
  unfold readNd
  rw [if_pos he, ha, o2]
  simp only [List.getD_cons_succ, List.getD_cons_zero, n1, Option.getD_some]
theorem back2 {l : List UInt8} (h : errNd l = 0) : mayN (readNd l) = true ∧ blockN (readNd l) = l := by
  have ho : openE l = 0 := by
    unfold errNd at h
    split at h
    · assumption
    · exact h
  obtain ⟨o1, o2, o3⟩ := seal_openN l ho
  have hk : okRd l = true := by
    unfold errNd at h
    rw [if_pos ho] at h
    cases hk : okRd l with
    | true => rfl
    | false => rw [hk] at h; simp at h
  have hL : (openL l).length = 124 := by rw [o1, List.length_drop]; omega
  have hrn : readNd l = ⟨(((openL l).getD 1 0).toNat : Int), ((rdAll l).getD ([], [])).1⟩ := by
    unfold readNd
    rw [if_pos h]
  unfold okRd at hk
  cases hs : rdAll l with
  | none => rw [hs] at hk; simp at hk
  | some s =>
    rw [hs] at hk hrn
    simp only [Bool.and_eq_true, beq_iff_eq, decide_eq_true_eq] at hk
    obtain ⟨⟨k0, k2⟩, km, kz⟩ := hk
    simp only [Option.getD_some] at hrn
    unfold rdAll at hs
    rw [← o1] at o3
    generalize openL l = L at *
    match L, hL with
    | x0 :: x1 :: x2 :: r, hL =>
      simp only [List.getD_cons_succ, List.getD_cons_zero, List.drop_succ_cons, List.drop_zero] at k0 k2 km hrn hs
      subst k0
      have hj := rdS_join _ _ _ hs
      have hl := (rdS_len hs).1
      refine ⟨by rw [hrn]; exact km, ?_⟩
      rw [hrn]
      unfold blockN
      rw [if_pos km]
      have hby : bytesN ⟨(x1.toNat : Int), s.1⟩ = 78 :: x1 :: x2 :: bodyN s.1 := by
        simp [bytesN, headN, hl]
      have hz : s.2 = List.replicate s.2.length 0 := List.eq_replicate_iff.2 ⟨rfl, (maxL_zero _).1 kz⟩
      have hp : padL (bytesN ⟨(x1.toNat : Int), s.1⟩) = 78 :: x1 :: x2 :: r := by
        have hrl : r.length = (bodyN s.1).length + s.2.length := by rw [hj, List.length_append]
        have h3 : r.length = 121 := by simpa using hL
        unfold padL
        rw [hby]
        simp only [List.length_cons, List.cons_append]
        rw [show 124 - ((bodyN s.1).length + 1 + 1 + 1) = s.2.length by omega, ← hz, ← hj]
      have hp2 : padL (78 :: x1 :: x2 :: r) = 78 :: x1 :: x2 :: r := by
        unfold padL
        rw [hL]
        simp
      rw [← o3]
      unfold sealL
      rw [hp, hp2]
    | [], hL => simp at hL
    | [_], hL => simp at hL
    | [_, _], hL => simp at hL
end Go.Proofs.Ytbddbadmfhplmaa

namespace Go.Proofs.Ytbddbadmfhplmaa
open Go.RowKit

/-- All places of a leaf's items are loosened; none: one has no count. -/
def looseA : List UInt8 → List ItemL → Option (List UInt8)
  | now, [] => some now
  | now, y :: l => if y.ref = 0 then looseA now l else if now.getD y.ref.toNat 0 = 0 then none else looseA (now.set y.ref.toNat (now.getD y.ref.toNat 0 + 255)) l
/-- The counts behind what waits to be left (the first one first); none: it can't be. The number: more than all counts. -/
def lvF (d : DiskL) (first : List UInt8) : Nat → List UInt8 → List (Nat × Int) → Option (List UInt8)
  | 0, _, _ => none
  | _ + 1, now, [] => some now
  | k + 1, now, x :: st =>
    if now.getD x.1 0 = 0 then none
    else if 1 < (now.getD x.1 0).toNat then lvF d first k (now.set x.1 (now.getD x.1 0 + 255)) st
    else if errNd (seenD d x.1) ≠ 0 ∨ first.getD x.1 0 = 0 ∨ (0 ≤ x.2 ∧ (readNd (seenD d x.1)).level ≠ x.2) then none
    else if 0 < (readNd (seenD d x.1)).level then lvF d first k (now.set x.1 0) ((readNd (seenD d x.1)).items.map (fun y => (y.ref.toNat, (readNd (seenD d x.1)).level - 1)) ++ st)
    else match looseA (now.set x.1 0) (readNd (seenD d x.1)).items with
      | none => none
      | some now' => lvF d first k now' st
/-- How much is counted. -/
def sumC (now : List UInt8) : Nat := (now.map UInt8.toNat).sum
theorem sumC_set (l : List UInt8) (i : Nat) (x : UInt8) (h : i < l.length) : sumC (l.set i x) + (l.getD i 0).toNat = sumC l + x.toNat := by
  unfold sumC
  induction l generalizing i with
  | nil => simp at h
  | cons a l ih =>
    cases i with
    | zero => simp; omega
    | succ i =>
      have := ih i (by simpa using h)
      simp only [List.set_cons_succ, List.map_cons, List.sum_cons, List.getD_cons_succ]
      omega
theorem getD_out (l : List UInt8) (i : Nat) (h : l.length ≤ i) : l.getD i 0 = 0 := by simp [h]
theorem lt_of_nz {l : List UInt8} {i : Nat} (h : l.getD i 0 ≠ 0) : i < l.length := by
  rcases Nat.lt_or_ge i l.length with h1 | h1
  · exact h1
  · exact absurd (getD_out l i h1) h
theorem sumC_dn {l : List UInt8} {i : Nat} (h : l.getD i 0 ≠ 0) : sumC (l.set i (l.getD i 0 + 255)) + 1 = sumC l := by
  have h1 := sumC_set l i (l.getD i 0 + 255) (lt_of_nz h)
  have h2 := u8_down h
  have h3 : (l.getD i 0).toNat ≠ 0 := fun e => h (u8_inj e)
  omega
theorem sumC_nought {l : List UInt8} {i : Nat} (h : l.getD i 0 ≠ 0) : sumC (l.set i 0) + 1 ≤ sumC l := by
  have h1 := sumC_set l i 0 (lt_of_nz h)
  have h3 : (l.getD i 0).toNat ≠ 0 := fun e => h (u8_inj e)
  have h4 : (0 : UInt8).toNat = 0 := rfl
  omega
theorem looseA_sum : ∀ {its : List ItemL} {now now' : List UInt8}, looseA now its = some now' → sumC now' ≤ sumC now
  | [], now, now', h => by cases h; exact Nat.le_refl _
  | y :: l, now, now', h => by
    rw [looseA] at h
    split at h
    · exact looseA_sum h
    · split at h
      · cases h
      · rename_i h1
        have := looseA_sum h
        have := sumC_dn h1
        omega
/-- The number does not matter, where it is great enough. -/
theorem lvF_any (d : DiskL) (first : List UInt8) : ∀ (k m : Nat) (now : List UInt8) (st : List (Nat × Int)), sumC now < k → sumC now < m → lvF d first k now st = lvF d first m now st
  | 0, _, _, _, h, _ => by omega
  | _, 0, _, _, _, h => by omega
  | k + 1, m + 1, now, [], _, _ => rfl
  | k + 1, m + 1, now, x :: st, hk, hm => by
    rw [lvF, lvF]
    split
    · rfl
    · rename_i h0
      have h1 := sumC_dn h0
      have h2 := sumC_nought h0
      split
      · exact lvF_any d first k m _ _ (by omega) (by omega)
      · split
        · rfl
        · split
          · exact lvF_any d first k m _ _ (by omega) (by omega)
          · cases h : looseA (now.set x.1 0) (readNd (seenD d x.1)).items with
            | none => rfl
            | some now' =>
              have := looseA_sum h
              exact lvF_any d first k m _ _ (by omega) (by omega)
theorem sumC_le256 (l : List UInt8) : sumC l ≤ l.length * 255 := by
  unfold sumC
  induction l with
  | nil => exact Nat.le_refl _
  | cons a l ih =>
    have := a.toNat_lt
    simp only [List.map_cons, List.sum_cons, List.length_cons]
    omega
theorem looseA_app : ∀ (l m : List ItemL) (now : List UInt8), looseA now (l ++ m) = (looseA now l).bind (fun n => looseA n m)
  | [], _, _ => rfl
  | y :: l, m, now => by
    rw [List.cons_append, looseA, looseA]
    split
    · exact looseA_app l m now
    · split
      · rfl
      · exact looseA_app l m _
/-- One more place is loosened. -/
theorem looseA_next (now : List UInt8) (l : List ItemL) (j : Nat) (hj : j < l.length) (nowj : List UInt8) (h : looseA now (l.take j) = some nowj) :
    ((l.getD j nokI).ref = 0 → looseA now (l.take (j + 1)) = some nowj) ∧
    ((l.getD j nokI).ref ≠ 0 → nowj.getD (l.getD j nokI).ref.toNat 0 ≠ 0 → looseA now (l.take (j + 1)) = some (nowj.set (l.getD j nokI).ref.toNat (nowj.getD (l.getD j nokI).ref.toNat 0 + 255))) ∧
    ((l.getD j nokI).ref ≠ 0 → nowj.getD (l.getD j nokI).ref.toNat 0 = 0 → looseA now l = none) := by
  have e1 : l.take (j + 1) = l.take j ++ [l.getD j nokI] := by rw [List.take_add_one, get_l l nokI j hj]; rfl
  have e2 : l = l.take j ++ (l.getD j nokI :: l.drop (j + 1)) := by
    have e3 := List.take_append_drop (j + 1) l
    rw [e1, List.append_assoc] at e3
    exact e3.symm
  have a1 := looseA_app (l.take j) [l.getD j nokI] now
  have a2 := looseA_app (l.take j) (l.getD j nokI :: l.drop (j + 1)) now
  rw [← e1, h] at a1
  rw [← e2, h] at a2
  refine ⟨fun h0 => ?_, fun h0 h1 => ?_, fun h0 h1 => ?_⟩
  · rw [a1, Option.bind_some, looseA, if_pos h0]; rfl
  · rw [a1, Option.bind_some, looseA, if_neg h0, if_neg h1]; rfl
  · rw [a2, Option.bind_some, looseA, if_neg h0, if_pos h1]
/-- Behind a node is left. -/
def lvS (s : StoreL) (p : Nat) : Option (List UInt8) := lvF s.disk s.now (sumC s.now + 1) s.now [(p, -1)]
/-- No count is more, and all is as long; fixed blocks stay. -/
structure Less (now now' : List UInt8) : Prop where
  len : now'.length = now.length
  le : ∀ i, (now'.getD i 0).toNat ≤ (now.getD i 0).toNat
  fixed : now'.take 8 = now.take 8
theorem Less.refl (l : List UInt8) : Less l l := ⟨rfl, fun _ => Nat.le_refl _, rfl⟩
theorem Less.trans {a b c : List UInt8} (h : Less a b) (k : Less b c) : Less a c := ⟨k.len.trans h.len, fun i => Nat.le_trans (k.le i) (h.le i), k.fixed.trans h.fixed⟩
theorem take_set8 (l : List UInt8) (i : Nat) (x : UInt8) (h : 8 ≤ i) : (l.set i x).take 8 = l.take 8 := by
  apply List.ext_getElem?
  intro j
  rw [List.getElem?_take, List.getElem?_take]
  split
  · rw [List.getElem?_set_ne (by omega)]
  · rfl
theorem Less.set {l : List UInt8} {i : Nat} {x : UInt8} (h : x.toNat ≤ (l.getD i 0).toNat) (h8 : 8 ≤ i) : Less l (l.set i x) := by
  refine ⟨by simp, fun j => ?_, take_set8 l i x h8⟩
  by_cases hij : i = j
  · subst hij
    rcases Nat.lt_or_ge i l.length with h1 | h1
    · rw [cgetD_set_self _ _ _ h1]; exact h
    · rw [List.set_eq_of_length_le h1]; exact Nat.le_refl _
  · rw [bget_set_ne _ _ _ _ hij]; exact Nat.le_refl _
theorem Less.dn {l : List UInt8} {i : Nat} (h : l.getD i 0 ≠ 0) (h8 : 8 ≤ i) : Less l (l.set i (l.getD i 0 + 255)) := Less.set (by rw [u8_down h]; omega) h8
theorem Less.nought (l : List UInt8) {i : Nat} (h8 : 8 ≤ i) : Less l (l.set i 0) := Less.set (Nat.zero_le _) h8
/-- Items whose places may be. -/
def RefsOk (its : List ItemL) : Prop := ∀ y ∈ its, y.ref = 0 ∨ (8 ≤ y.ref ∧ y.ref < 256)
theorem mayI_ref {x : ItemL} (h : mayI x = true) : x.ref = 0 ∨ (8 ≤ x.ref ∧ x.ref < 256) := by
  unfold mayI at h
  simp at h
  omega
theorem mayN_refs {n : NodeL} (h : mayN n = true) : RefsOk n.items := fun y hy => mayI_ref (mayN_items h y hy)
theorem mayN_above {n : NodeL} (h : mayN n = true) (hl : 0 < n.level) : ∀ y ∈ n.items, 8 ≤ y.ref ∧ y.ref < 256 := by
  intro y hy
  obtain ⟨i, hi, rfl⟩ := mem_getD (d := nokI) hy
  have h1 := (mayN_all h).2.2.2 i hi
  have h2 := mayI_ref (stepN_may h1)
  unfold stepN at h1
  rw [decide_eq_false (by omega : ¬ n.level ≤ 0)] at h1
  generalize n.items.getD i nokI = y at *
  simp at h1
  have := h1.2.1
  omega
theorem looseA_less : ∀ {its : List ItemL} {now now' : List UInt8}, RefsOk its → looseA now its = some now' → Less now now'
  | [], now, now', _, h => by cases h; exact Less.refl _
  | y :: l, now, now', hr, h => by
    have hr' : RefsOk l := fun z hz => hr z (List.mem_cons_of_mem _ hz)
    rw [looseA] at h
    split at h
    · exact looseA_less hr' h
    · rename_i h0
      split at h
      · cases h
      · rename_i h1
        have h8 := hr y (List.mem_cons_self ..)
        exact (Less.dn h1 (by omega)).trans (looseA_less hr' h)
theorem lvF_less (d : DiskL) (first : List UInt8) : ∀ (k : Nat) (now now' : List UInt8) (st : List (Nat × Int)), (∀ x ∈ st, 8 ≤ x.1) → lvF d first k now st = some now' → Less now now'
  | 0, _, _, _, _, h => by cases h
  | k + 1, now, now', [], _, h => by cases h; exact Less.refl _
  | k + 1, now, now', x :: st, hs, h => by
    have hs' : ∀ x ∈ st, 8 ≤ x.1 := fun z hz => hs z (List.mem_cons_of_mem _ hz)
    have h8 := hs x (List.mem_cons_self ..)
    rw [lvF] at h
    split at h
    · cases h
    · rename_i h0
      split at h
      · exact (Less.dn h0 h8).trans (lvF_less d first k _ _ _ hs' h)
      · split at h
        · cases h
        · rename_i hb
          have hN := (back2 (l := seenD d x.1) (Classical.not_not.1 fun e => hb (.inl e))).1
          split at h
          · rename_i hl
            refine (Less.nought now h8).trans (lvF_less d first k _ _ _ (fun z hz => ?_) h)
            rcases List.mem_append.1 hz with hz | hz
            · obtain ⟨y, hy, rfl⟩ := List.mem_map.1 hz
              have := mayN_above hN hl y hy
              show 8 ≤ y.ref.toNat
              omega
            · exact hs' z hz
          · split at h
            · cases h
            · rename_i now2 hA
              exact ((Less.nought now h8).trans (looseA_less (mayN_refs hN) hA)).trans (lvF_less d first k _ _ _ hs' h)
theorem Less.may {now now' : List UInt8} (h : Less now now') (hm : mayT now = true) : mayT now' = true := by
  unfold mayT at hm ⊢
  rw [h.len, h.fixed]
  exact hm
theorem lvS_less {s : StoreL} {p : Nat} {now' : List UInt8} (h8 : 8 ≤ p) (h : lvS s p = some now') : Less s.now now' := lvF_less _ _ _ _ _ _ (fun x hx => by rw [List.mem_singleton.1 hx]; exact h8) h
end Go.Proofs.Ytbddbadmfhplmaa

namespace Go.Proofs.Ytbddbadmfhplmaa
open Go.RowKit Go.Shelf
attribute [local go_sem] Oper.semAt_some

/-- Items as values: the items, and their slices. -/
theorem items_of {w : World} {lo hi n c : Nat} {a : Option Addr} {l : List ItemL} (h : Sl rItem w lo hi (.slice a n c) l) : ∃ bs : List (ItemL × Value), bs.length = l.length ∧
    (∀ i x, bs[i]? = some x → x.1 = l.getD i nokI ∧ (Lit.int .i64 x.1.ref).wf = true ∧ Bytes w lo hi x.2 x.1.val) ∧
    (0 < bs.length → ∃ b off, a = some ⟨b, off, none⟩ ∧ lo ≤ b ∧ b < hi ∧ ∀ i x, bs[i]? = some x → w.cell? ⟨b, off + i * 5, none⟩ = some (bV x.1.key.kind) ∧ w.cell? ⟨b, off + i * 5 + 1, none⟩ = some (wV x.1.key.id) ∧ w.cell? ⟨b, off + i * 5 + 2, none⟩ = some (wV x.1.key.off) ∧ w.cell? ⟨b, off + i * 5 + 3, none⟩ = some (.int .i64 x.1.ref) ∧ w.cell? ⟨b, off + i * 5 + 4, none⟩ = some x.2) := by
  obtain ⟨a', c', e, h1, h2, h3, h4⟩ := h
  cases e
  obtain ⟨bs, hbl, hba⟩ := list_of (n := l.length) (p := fun i (x : ItemL × Value) => x.1 = l.getD i nokI ∧ (Lit.int .i64 x.1.ref).wf = true ∧ Bytes w lo hi x.2 x.1.val ∧ ∀ b off, a = some ⟨b, off, none⟩ → w.cell? ⟨b, off + i * 5, none⟩ = some (bV x.1.key.kind) ∧ w.cell? ⟨b, off + i * 5 + 1, none⟩ = some (wV x.1.key.id) ∧ w.cell? ⟨b, off + i * 5 + 2, none⟩ = some (wV x.1.key.off) ∧ w.cell? ⟨b, off + i * 5 + 3, none⟩ = some (.int .i64 x.1.ref) ∧ w.cell? ⟨b, off + i * 5 + 4, none⟩ = some x.2) (fun i hi => by
    obtain ⟨b, off, rfl, hlo, hhi, hc⟩ := h3 (by omega)
    obtain ⟨f0, f1, f2, f3, f4, v, f5, f6⟩ := hc i _ (get_l l nokI i hi)
    refine ⟨(l.getD i nokI, v), rfl, f4, f6, fun b' off' e => ?_⟩
    cases e
    exact ⟨f0, f1, f2, f3, f5⟩)
  refine ⟨bs, hbl, fun i x hx => ⟨(hba i x hx).1, (hba i x hx).2.1, (hba i x hx).2.2.1⟩, fun hp => ?_⟩
  obtain ⟨b, off, ea, hlo, hhi, hc⟩ := h3 (by omega)
  exact ⟨b, off, ea, hlo, hhi, fun i x hx => (hba i x hx).2.2.2 b off ea⟩

/-- What the rounds must keep: the items' block, and the iterator's own. -/
def KeepI (b Bs : Nat) (A B : World) : Prop := B.heap[b]? = A.heap[b]? ∧ B.heap[Bs]? = A.heap[Bs]?
theorem KeepI.refl (b Bs : Nat) (A : World) : KeepI b Bs A A := ⟨rfl, rfl⟩
theorem KeepI.trans {b Bs : Nat} {A B C : World} (h : KeepI b Bs A B) (k : KeepI b Bs B C) : KeepI b Bs A C := ⟨k.1.trans h.1, k.2.trans h.2⟩
theorem keepI_b {w : World} {b Bs : Nat} (hb : b < w.heap.size) (hB : Bs < w.heap.size) : ∀ (W : World) (l : Nat) (o o' : Obj), w.heap.size ≤ l → W.heap[l]? = some o → o.isCells = false → o.isWalk = false → KeepI b Bs W (W.putObj l o') :=
  fun _ _ _ _ h1 _ _ _ => ⟨World.putObj_heap_other (by omega), World.putObj_heap_other (by omega)⟩

set_option maxRecDepth 100000 in
set_option maxHeartbeats 2000000 in
theorem backi1_in (F : Fence) (n : Nat) (h7 : F.fn 133) (hro : F.round = none) (hn : 1 ≤ n) (l Bs b off cap : Nat) (bs : List (ItemL × Value)) (hlm : bs.length ≤ cap) (hcm : cap ≤ maxLen) (J Jx : List (Fin bs.length) → World → Prop)
    (hY : ∀ pre x W, J pre W → pre.length < bs.length → YieldAt F (n - 1) Try.prog l #[.int .i64 (x.1 : Int), .agg #[bV bs[x.1].1.key.kind, wV bs[x.1].1.key.id, wV bs[x.1].1.key.off, .int .i64 bs[x.1].1.ref, bs[x.1].2]] W fun e W' =>
      (e = .returned (.bool true) ∧ J (pre ++ [x]) W' ∧ KeepI b Bs W W') ∨ (e = .returned (.bool false) ∧ Jx (pre ++ [x]) W'))
    (W : World) (hBs : W.cell? ⟨Bs, 0, none⟩ = some (.slice (some ⟨b, off, none⟩) bs.length cap)) (hc : ∀ i x, bs[i]? = some x → W.cell? ⟨b, off + i * 5, none⟩ = some (bV x.1.key.kind) ∧ W.cell? ⟨b, off + i * 5 + 1, none⟩ = some (wV x.1.key.id) ∧ W.cell? ⟨b, off + i * 5 + 2, none⟩ = some (wV x.1.key.off) ∧ W.cell? ⟨b, off + i * 5 + 3, none⟩ = some (.int .i64 x.1.ref) ∧ W.cell? ⟨b, off + i * 5 + 4, none⟩ = some x.2) (h0 : J [] W) :
    CallsIn F n Try.prog 133 #[.func (.yield l) #[] #[], .pointer (some ⟨Bs, 0, none⟩)] W fun e W' => (∃ v, e = .returned v) ∧
      ((∃ ys, ys = backF bs.length bs.length ∧ J ys W') ∨ (∃ pre, (∃ k, k ≤ bs.length ∧ pre = backF bs.length k) ∧ Jx pre W')) := by
  unfold maxLen at hcm
  refine callsIn_of_wp Try.func133 rfl h7 ?_ hro
  simp only [Try.ntmps133, List.size_toArray, List.length_cons, List.length_nil, Nat.reduceAdd, Nat.reduceSub, Array.replicate_succ, Array.replicate_zero, List.push_toArray, List.append_toArray, List.nil_append, List.cons_append]
  gi_wp2
  gi_loopw [3] (fun i wr => ∃ k : Nat, k ≤ bs.length ∧ i = .int .i64 ((bs.length : Int) - 1 - k) ∧ J (backF bs.length k) wr ∧ KeepI b Bs W wr)
    (fun i _ => (intOf i + 1).toNat)
  case atStart => exact ⟨0, Nat.zero_le _, by simp, h0, KeepI.refl _ _ _⟩
  case round =>
    obtain ⟨k, hk, rfl, hJs, hnx⟩ := hrel
    have hBs' : wr.cell? ⟨Bs, 0, none⟩ = some (.slice (some ⟨b, off, none⟩) bs.length cap) := (World.cell?_of_block hnx.2).trans hBs
    by_cases hlt : k < bs.length
    · obtain ⟨m, hm, hmk⟩ : ∃ m : Nat, m < bs.length ∧ m + 1 + k = bs.length := ⟨bs.length - 1 - k, by omega, by omega⟩
      obtain ⟨hc0, hc1, hc2, hc3, hc4⟩ := hc m bs[m] (by simp [hm])
      have hcx0 : wr.cell? ⟨b, off + m * 5, none⟩ = some (bV bs[m].1.key.kind) := (World.cell?_of_block hnx.1).trans hc0
      have hcx1 : wr.cell? ⟨b, off + m * 5 + 1, none⟩ = some (wV bs[m].1.key.id) := (World.cell?_of_block hnx.1).trans hc1
      have hcx2 : wr.cell? ⟨b, off + m * 5 + 2, none⟩ = some (wV bs[m].1.key.off) := (World.cell?_of_block hnx.1).trans hc2
      have hcx3 : wr.cell? ⟨b, off + m * 5 + 3, none⟩ = some (.int .i64 bs[m].1.ref) := (World.cell?_of_block hnx.1).trans hc3
      have hcx4 : wr.cell? ⟨b, off + m * 5 + 4, none⟩ = some bs[m].2 := (World.cell?_of_block hnx.1).trans hc4
      clear hc0 hc1 hc2 hc3 hc4
      obtain ⟨fn, tmps, assign, body, hy, hR⟩ := hY _ ⟨m, hm⟩ wr hJs (by rw [backF_length _ _ hk]; exact hlt)
      have hsucc : backF bs.length (k + 1) = backF bs.length k ++ [⟨m, hm⟩] := backF_succ _ k m hm hmk
      have HS := Lib.hid hsucc
      clear hsucc
      rw [show ((bs.length : Int) - 1 - (k : Int)) = (m : Int) by omega]
      dsimp only at hy
      obtain ⟨y0, hy0⟩ : ∃ v, bV bs[m].1.key.kind = v := ⟨_, rfl⟩
      obtain ⟨y1, hy1⟩ : ∃ v, wV bs[m].1.key.id = v := ⟨_, rfl⟩
      obtain ⟨y2, hy2⟩ : ∃ v, wV bs[m].1.key.off = v := ⟨_, rfl⟩
      obtain ⟨y3, hy3⟩ : ∃ v, Value.int .i64 bs[m].1.ref = v := ⟨_, rfl⟩
      obtain ⟨y4, hy4⟩ : ∃ v, bs[m].2 = v := ⟨_, rfl⟩
      rw [hy0, hy1, hy2, hy3, hy4] at hy
      rw [hy0] at hcx0
      rw [hy1] at hcx1
      rw [hy2] at hcx2
      rw [hy3] at hcx3
      rw [hy4] at hcx4
      clear hy0 hy1 hy2 hy3 hy4
      have HK := Lib.hid hmk
      clear hmk
      gi_wp2
      refine hR.mono ?_
      rintro e W3 (⟨rfl, hJ3, hk3⟩ | ⟨rfl, hJx3⟩)
      · gi_wp2
        go_roundw
        case rel => exact ⟨k + 1, by omega, by have := HK.out; congr 1 <;> omega, by rw [HS.out]; exact hJ3, hnx.trans hk3⟩
        case measure => (simp [intOf])
      · gi_wp2
        refine bodyPost_ret (results_none rfl _ _ _) rfl ?_
        exact ⟨⟨_, rfl⟩, .inr ⟨_, ⟨k + 1, by omega, HS.out.symm⟩, hJx3⟩⟩
    · obtain rfl : k = bs.length := by omega
      gi_wp2
      go_end0
      exact ⟨⟨_, rfl⟩, .inl ⟨_, rfl, hJs⟩⟩

set_option maxRecDepth 100000 in
set_option maxHeartbeats 1000000 in
theorem backi1_none (F : Fence) (n : Nat) (h7 : F.fn 133) (hro : F.round = none) (l Bs cap : Nat) (a : Option Addr) (J : List (Fin 0) → World → Prop) (W : World) (hBs : W.cell? ⟨Bs, 0, none⟩ = some (.slice a 0 cap)) (h0 : J [] W) :
    CallsIn F n Try.prog 133 #[.func (.yield l) #[] #[], .pointer (some ⟨Bs, 0, none⟩)] W fun e W' => (∃ v, e = .returned v) ∧ J [] W' := by
  refine callsIn_of_wp Try.func133 rfl h7 ?_ hro
  simp only [Try.ntmps133, List.size_toArray, List.length_cons, List.length_nil, Nat.reduceAdd, Nat.reduceSub, Array.replicate_succ, Array.replicate_zero, List.push_toArray, List.append_toArray, List.nil_append, List.cons_append]
  gi_wp2
  gi_loopw [3] (fun i wr => i = .int .i64 (-1) ∧ J [] wr) (fun _ _ => 0)
  case atStart => exact ⟨rfl, h0⟩
  case round =>
    obtain ⟨rfl, hJs⟩ := hrel
    gi_wp2
    go_end0
    exact ⟨⟨_, rfl⟩, hJs⟩

set_option maxHeartbeats 1000000 in
theorem backi_in (F : Fence) (n : Nat) (h5 : F.fn 117) (hro : F.round = none) (a : Option Addr) (len cap : Nat) (w : World) :
    CallsIn F n Try.prog 117 #[.slice a len cap] w fun e w' => e = .returned (.func (.func 133) #[] #[.pointer (some ⟨w.heap.size, 0, none⟩)]) ∧ w' = w.alloc (.cells #[.slice a len cap] 48) := by
  refine callsIn_of_wp Try.func117 rfl h5 ?_ hro
  simp only [Try.ntmps117, List.size_toArray, List.length_cons, List.length_nil, Nat.reduceAdd, Nat.reduceSub, Array.replicate_succ, Array.replicate_zero, List.push_toArray, List.append_toArray, List.nil_append, List.cons_append]
  gi_wp2
  go_ret
  exact ⟨rfl, rfl⟩

/-- The value that slices.Backward hands back: all places and bytes, from behind; or the first k of them. -/
theorem backi_stops (F : Fence) (n : Nat) (h7 : F.fn 133) (hro : F.round = none) (hn : 1 ≤ n) (Bs b : Nat) (a : Option Addr) (c : Nat) (bs : List (ItemL × Value)) (w : World) (hBs : Bs < w.heap.size) (hb : b < w.heap.size)
    (hc : w.cell? ⟨Bs, 0, none⟩ = some (.slice a bs.length c)) (h1 : bs.length ≤ c) (h2 : c ≤ maxLen)
    (h3 : 0 < bs.length → ∃ off, a = some ⟨b, off, none⟩ ∧ ∀ i x, bs[i]? = some x → w.cell? ⟨b, off + i * 5, none⟩ = some (bV x.1.key.kind) ∧ w.cell? ⟨b, off + i * 5 + 1, none⟩ = some (wV x.1.key.id) ∧ w.cell? ⟨b, off + i * 5 + 2, none⟩ = some (wV x.1.key.off) ∧ w.cell? ⟨b, off + i * 5 + 3, none⟩ = some (.int .i64 x.1.ref) ∧ w.cell? ⟨b, off + i * 5 + 4, none⟩ = some x.2) :
    SeqStopsK F n Try.prog 133 #[.pointer (some ⟨Bs, 0, none⟩)] (fun x : Fin bs.length => #[.int .i64 (x.1 : Int), .agg #[bV bs[x.1].1.key.kind, wV bs[x.1].1.key.id, wV bs[x.1].1.key.off, .int .i64 bs[x.1].1.ref, bs[x.1].2]]) (KeepI b Bs) (fun ys => ys = backF bs.length bs.length)
      (fun pre => ∃ k, k ≤ bs.length ∧ pre = backF bs.length k) bs.length w := fun l J Jx W hW _ _ hY h0 => by
  have hc' := (hW.cell (p := ⟨Bs, 0, none⟩) hBs).trans hc
  rcases Nat.eq_zero_or_pos bs.length with hz | hp
  · have : bs = [] := List.eq_nil_of_length_eq_zero hz
    subst this
    exact (backi1_none F n h7 hro l Bs c a J W hc' h0).mono fun e W' ⟨he, hj⟩ => ⟨he, .inl ⟨_, rfl, hj⟩⟩
  · obtain ⟨off, rfl, hcs⟩ := h3 hp
    replace hcs : ∀ i x, bs[i]? = some x → W.cell? ⟨b, off + i * 5, none⟩ = some (bV x.1.key.kind) ∧ W.cell? ⟨b, off + i * 5 + 1, none⟩ = some (wV x.1.key.id) ∧ W.cell? ⟨b, off + i * 5 + 2, none⟩ = some (wV x.1.key.off) ∧ W.cell? ⟨b, off + i * 5 + 3, none⟩ = some (.int .i64 x.1.ref) ∧ W.cell? ⟨b, off + i * 5 + 4, none⟩ = some x.2 := fun i x hx => by
      obtain ⟨d0, d1, d2, d3, d4⟩ := hcs i x hx
      exact ⟨(hW.cell (p := ⟨b, off + i * 5, none⟩) hb).trans d0, (hW.cell (p := ⟨b, off + i * 5 + 1, none⟩) hb).trans d1, (hW.cell (p := ⟨b, off + i * 5 + 2, none⟩) hb).trans d2, (hW.cell (p := ⟨b, off + i * 5 + 3, none⟩) hb).trans d3, (hW.cell (p := ⟨b, off + i * 5 + 4, none⟩) hb).trans d4⟩
    exact backi1_in F n h7 hro hn l Bs b off c bs h1 h2 J Jx hY W hc' hcs h0
end Go.Proofs.Ytbddbadmfhplmaa

namespace Go.Proofs.Ytbddbadmfhplmaa
open Go.RowKit Go.Shelf
attribute [local go_sem] Oper.semAt_some

/-- A bench whose counts have turned since w; all else is as it was there. -/
structure BL (w : World) (lo g nb no nc : Nat) (b u y : Value) (s : StoreL) (now : List UInt8) (V : World) : Prop where
  base : BenAt w lo g nb no nc b u y s
  fr : ∀ k, k < w.heap.size → k ≠ nb → V.heap[k]? = w.heap[k]?
  size : w.heap.size ≤ V.heap.size
  cells : ∀ i x, now[i]? = some x → V.cell? ⟨nb, no + i, none⟩ = some (bV x)
  thaw : ∀ i, i < 256 → V.frozen? ⟨nb, no + i, none⟩ = false
  len : now.length = 256
section
variable {w V V' : World} {lo g nb no nc : Nat} {b u y : Value} {s : StoreL} {now : List UInt8}
theorem BL.start (h : BenAt w lo g nb no nc b u y s) : BL w lo g nb no nc b u y s s.now w :=
  ⟨h, fun _ _ _ => rfl, Nat.le_refl _, fun i x hx => h.now.cellAt i x hx, fun i hi => h.thaw _ _ _ _ rfl i hi, h.len⟩
theorem BL.nbl (h : BL w lo g nb no nc b u y s now V) : nb < w.heap.size := h.base.lo_.2.2.2
theorem BL.gl (h : BL w lo g nb no nc b u y s now V) : g < w.heap.size := (Array.getElem?_eq_some_iff.1 h.base.blk).1
theorem BL.keep (h : BL w lo g nb no nc b u y s now V) (hk : ∀ k, k < w.heap.size → V'.heap[k]? = V.heap[k]?) (hs : V.heap.size ≤ V'.heap.size) : BL w lo g nb no nc b u y s now V' :=
  ⟨h.base, fun k h1 h2 => (hk k h1).trans (h.fr k h1 h2), Nat.le_trans h.size hs, fun i x hx => (World.cell?_of_block (hk nb h.nbl)).trans (h.cells i x hx), fun i hi => (World.frozen?_of_block (hk nb h.nbl)).trans (h.thaw i hi), h.len⟩
theorem BL.step (h : BL w lo g nb no nc b u y s now V) (hb : Below V.heap.size V V') : BL w lo g nb no nc b u y s now V' := h.keep (fun k hk => hb.block k (Nat.lt_of_lt_of_le hk h.size)) hb.size
theorem BL.out {n0 h0 : Nat} (h : BL w lo g nb no nc b u y s now V) (hs : V.heap.size ≤ V'.heap.size) (hf : ∀ x, x < V.heap.size → (x < n0 ∨ h0 ≤ x) → V'.heap[x]? = V.heap[x]?) (hd : w.heap.size ≤ n0) : BL w lo g nb no nc b u y s now V' :=
  h.keep (fun k hk => hf k (Nat.lt_of_lt_of_le hk h.size) (.inl (Nat.lt_of_lt_of_le hk hd))) hs
theorem BL.set (h : BL w lo g nb no nc b u y s now V) (i : Nat) (x : UInt8) (_ : i < 256) : BL w lo g nb no nc b u y s (now.set i x) (V.setCell ⟨nb, no + i, none⟩ (bV x)) := by
  refine ⟨h.base, fun k h1 h2 => (set_other V nb _ _ k h2).trans (h.fr k h1 h2), by rw [World.size_setCell]; exact h.size, fun j z hj => ?_, fun j hj => ?_, by simp [h.len]⟩
  · rcases Nat.lt_or_ge j now.length with hl | hl
    · by_cases e : i = j
      · subst e
        rw [List.getElem?_set_self hl] at hj
        cases hj
        exact World.cell?_setCell_same' _ _ _ (by rw [h.cells i _ (get_l _ 0 i hl)]; rfl)
      · rw [List.getElem?_set_ne e] at hj
        rw [World.cell?_setCell_other _ _ _ _ (by simp only [ne_eq, Addr.mk.injEq]; omega)]
        exact h.cells j z hj
    · rw [List.getElem?_eq_none (by simpa using hl)] at hj
      cases hj
  · have : Thawed V (.slice (some ⟨nb, no, none⟩) 256 256) := by
      intro b off n c e i hi
      cases e
      exact h.thaw i hi
    exact (this.set ⟨nb, no + i, none⟩ (bV x)) _ _ _ _ rfl j hj
theorem BL.ben (h : BL w lo g nb no nc b u y s now V) : BenAt V lo g nb no nc b u y ⟨s.disk, now, s.last⟩ := by
  have hc : CKc (hideW w (hidN nb g)) (hideW V (hidN nb g)) := hideW_ck fun k hk hS => ⟨hS, h.fr k hk (fun e => by subst e; simp [hidN] at hS)⟩
  obtain ⟨a, c, e, h1, h2, h3, h4⟩ := h.base.now
  injection e with e1 e2 e3
  subst e1 e3
  refine ⟨(h.fr g h.gl h.base.lo_.2.2.1).trans h.base.blk, DiskV.more (h.base.disk.ck hc) (Nat.le_refl _) h.size, ⟨_, _, by rw [h.len], by rw [h.len, e2]; exact h1, h2, fun _ => ⟨nb, no, rfl, h.base.lo_.1, Nat.lt_of_lt_of_le h.nbl h.size, h.cells⟩, fun e => by cases e⟩, ?_, (h.base.last.ck hc).more (Nat.le_refl _) h.size, h.len, h.base.lo_.1, h.base.lo_.2.1, h.base.lo_.2.2.1, Nat.lt_of_lt_of_le h.nbl h.size⟩
  intro b off n c e i hi
  cases e
  exact h.thaw i hi
theorem BL.cell (h : BL w lo g nb no nc b u y s now V) (i : Nat) (hi : i < 256) : V.cell? ⟨nb, no + i, none⟩ = some (bV (now.getD i 0)) := h.cells i _ (get_l _ _ _ (by rw [h.len]; exact hi))
theorem BL.blk (h : BL w lo g nb no nc b u y s now V) : V.heap[g]? = some (.cells #[b, u, .slice (some ⟨nb, no, none⟩) 256 nc, y] 139 (0, 0)) := (h.fr g h.gl h.base.lo_.2.2.1).trans h.base.blk
/-- Behind a call that turned the counts alone. -/
theorem BL.turn (h : BL w lo g nb no nc b u y s now V) {now' : List UInt8} (hb : BenAt V' lo g nb no nc b u y ⟨s.disk, now', s.last⟩) (hs : V.heap.size ≤ V'.heap.size) (hf : ∀ k, k ≠ nb → V'.heap[k]? = V.heap[k]?) : BL w lo g nb no nc b u y s now' V' :=
  ⟨h.base, fun k h1 h2 => (hf k h2).trans (h.fr k h1 h2), Nat.le_trans h.size hs, fun i x hx => hb.now.cellAt i x hx, fun i hi => hb.thaw _ _ _ _ rfl i hi, hb.len⟩
end

/-- What waits to be left, in a row of the call's own. -/
def cellsO (l : List (Nat × Int)) : List Value := (l.map fun x => [Value.int .i64 (x.1 : Int), .int .i64 x.2]).flatten
theorem cellsO_len (l : List (Nat × Int)) : (cellsO l).length = l.length * 2 := by
  unfold cellsO
  induction l with
  | nil => rfl
  | cons a l ih => simp only [List.map_cons, List.flatten_cons, List.length_append, ih, List.length_cons, List.length_nil]; omega
theorem cellsO_app (l m : List (Nat × Int)) : cellsO (l ++ m) = cellsO l ++ cellsO m := by unfold cellsO; rw [List.map_append, List.flatten_append]
def RowO (base : Nat) (v : Value) (l : List (Nat × Int)) (V : World) : Prop := V.ownsRow base 145 2 v l.length (cellsO l)
theorem RowO.lt {base : Nat} {v : Value} {l : List (Nat × Int)} {V : World} (h : RowO base v l V) : ∀ k, v.ownBlock = some k → base ≤ k ∧ k < V.heap.size := World.ownsRow.lt h
theorem RowO.of {base : Nat} {v : Value} {l : List (Nat × Int)} {V V' : World} (h : RowO base v l V) (hk : ∀ k, v.ownBlock = some k → V'.heap[k]? = V.heap[k]?) : RowO base v l V' := by
  obtain ⟨h1, h2⟩ := h
  refine ⟨h1, ?_⟩
  rcases h2 with h2 | ⟨g, cap, cur, rfl, hg, hh, r⟩
  · exact .inl h2
  · exact .inr ⟨g, cap, cur, rfl, hg, (hk g rfl).trans hh, r⟩
theorem RowO.step {base : Nat} {v : Value} {l : List (Nat × Int)} {V V' : World} (h : RowO base v l V) (hb : Below V.heap.size V V') : RowO base v l V' := h.of fun k hk => hb.block k (h.lt k hk).2
theorem RowO.out {base n0 h0 : Nat} {v : Value} {l : List (Nat × Int)} {V V' : World} (h : RowO base v l V) (_ : V.heap.size ≤ V'.heap.size) (hf : ∀ x, x < V.heap.size → (x < n0 ∨ h0 ≤ x) → V'.heap[x]? = V.heap[x]?) (hd : h0 ≤ base) : RowO base v l V' :=
  h.of fun k hk => hf k (h.lt k hk).2 (.inr (Nat.le_trans hd (h.lt k hk).1))
theorem RowO.ne {base x : Nat} {v : Value} {l : List (Nat × Int)} {V : World} {cs : Array Value} (h : RowO base v l V) (hx : V.heap[x]? = some (.cells cs 146 (0, 0))) : ∀ k, v.ownBlock = some k → k ≠ x := by
  intro k hk e
  subst e
  rcases h.2 with ⟨rfl, -⟩ | ⟨g, cap, cur, rfl, -, hh, -⟩
  · cases hk
  · cases hk
    rw [hx] at hh
    cases hh
/-- The last one. -/
theorem RowO.last {base : Nat} {v : Value} {l : List (Nat × Int)} {x : Nat × Int} {V : World} (h : RowO base v (l ++ [x]) V) : ∃ gr c, v = .slice (some ⟨gr, 0, none⟩) (l.length + 1) c ∧ l.length + 1 ≤ c ∧ c ≤ maxLen ∧ gr < V.heap.size ∧
    V.cell? ⟨gr, l.length * 2, none⟩ = some (.int .i64 (x.1 : Int)) ∧ V.cell? ⟨gr, l.length * 2 + 1, none⟩ = some (.int .i64 x.2) ∧ RowO base (.slice (some ⟨gr, 0, none⟩) l.length c) l V := by
  obtain ⟨h1, h2⟩ := h
  rw [List.length_append] at h2
  rcases h2 with ⟨rfl, h0⟩ | ⟨g, cap, cur, rfl, hg, hh, r1, r2, r3, r4⟩
  · simp at h0
  · rw [cellsO_app] at r4
    have hl := cellsO_len l
    have hc : ∀ j u, (cellsO l ++ cellsO [x])[j]? = some u → V.cell? ⟨g, j, none⟩ = some u := by
      intro j u hu
      rw [cell_of_row V g j cur _ (0, 0) hh, ← hu, ← r4, List.getElem?_take, if_pos]
      · simp
      · have := (List.getElem?_eq_some_iff.1 hu).1
        rw [List.length_append, hl, cellsO_len] at this
        simp at this ⊢
        omega
    refine ⟨g, cap, rfl, r1, r2, (Array.getElem?_eq_some_iff.1 hh).1, hc _ _ ?_, hc _ _ ?_, ⟨cellsO_len l, .inr ⟨g, cap, cur, rfl, hg, hh, by simp at r1; omega, r2, r3, ?_⟩⟩⟩
    · rw [List.getElem?_append_right (by omega), hl, Nat.sub_self]
      rfl
    · rw [List.getElem?_append_right (by omega), hl, Nat.add_sub_cancel_left]
      rfl
    · have := congrArg (List.take (l.length * 2)) r4
      rw [List.take_take, Nat.min_eq_left (by simp; omega), ← hl, List.take_left] at this
      rw [← hl]
      exact this
theorem RowO.form {base : Nat} {v : Value} {l : List (Nat × Int)} {V : World} (h : RowO base v l V) : ∃ ad c, v = .slice ad l.length c := own_form h
theorem RowO.one (w : World) (base : Nat) (hb : base ≤ w.heap.size) (p : Nat) (l : Int) : RowO base (.slice (some ⟨w.heap.size, 0, none⟩) 1 1) [(p, l)] (w.alloc (.cells #[.int .i64 (p : Int), .int .i64 l] 145)) :=
  ⟨rfl, .inr ⟨w.heap.size, 1, #[.int .i64 (p : Int), .int .i64 l], rfl, hb, World.alloc_heap_new _ _, Nat.le_refl _, by unfold maxLen; omega, rfl, rfl⟩⟩
theorem run_preO (a : Option Addr) (len c n : Nat) (h : n ≤ c) (w : World) : (Instr.sliceAt 146 (.slice a len c) none (some (.int .i64 n)) none).run Try.prog w = .ok (.slice a n c) w := by
  cases a with
  | none => simp [go_sem, h]
  | some ad => simp [go_sem, h]

/-- Marks of loops that are over: behind base each, unlike, and empty. -/
def mkD (D : Nat) : Deferred := { target := .collected D, args := #[] }
def MK (base : Nat) (ds : List Deferred) (V : World) : Prop := ∃ Ds : List Nat, ds = Ds.map mkD ∧ Ds.Nodup ∧ ∀ D ∈ Ds, base ≤ D ∧ V.heap[D]? = some (.deferred (some []))
section
variable {base : Nat} {ds : List Deferred} {V V' : World}
theorem MK.nil_ (base : Nat) (V : World) : MK base [] V := ⟨[], rfl, List.nodup_nil, fun D h => by cases h⟩
theorem MK.of (h : MK base ds V) (hk : ∀ k, base ≤ k → V.heap[k]? = some (.deferred (some [])) → V'.heap[k]? = V.heap[k]?) : MK base ds V' := by
  obtain ⟨Ds, h1, h2, h3⟩ := h
  exact ⟨Ds, h1, h2, fun D hD => ⟨(h3 D hD).1, (hk D (h3 D hD).1 (h3 D hD).2).trans (h3 D hD).2⟩⟩
theorem MK.step (h : MK base ds V) (hb : Below V.heap.size V V') : MK base ds V' := h.of fun k _ hk => hb.block k (Array.getElem?_eq_some_iff.1 hk).1
theorem MK.out {n0 h0 : Nat} (h : MK base ds V) (_ : V.heap.size ≤ V'.heap.size) (hf : ∀ x, x < V.heap.size → (x < n0 ∨ h0 ≤ x) → V'.heap[x]? = V.heap[x]?) (hd : h0 ≤ base) : MK base ds V' :=
  h.of fun k hb hk => hf k (Array.getElem?_eq_some_iff.1 hk).1 (.inr (Nat.le_trans hd hb))
theorem MK.cons {D : Nat} (h : MK base ds V) (hD : V.heap[D]? = some (.deferred (some []))) (hb : base ≤ D) (hn : ∀ d ∈ ds, d ≠ mkD D) : MK base (mkD D :: ds) V := by
  obtain ⟨Ds, h1, h2, h3⟩ := h
  refine ⟨D :: Ds, by rw [h1]; rfl, List.nodup_cons.2 ⟨fun hm => hn (mkD D) (by rw [h1]; exact List.mem_map.2 ⟨D, hm, rfl⟩) rfl, h2⟩, fun E hE => ?_⟩
  rcases List.mem_cons.1 hE with rfl | hE
  · exact ⟨hb, hD⟩
  · exact h3 E hE
theorem MK.lt (h : MK base ds V) {D : Nat} (hD : V.heap.size ≤ D) : ∀ d ∈ ds, d ≠ mkD D := by
  obtain ⟨Ds, h1, h2, h3⟩ := h
  intro d hd e
  rw [h1] at hd
  obtain ⟨E, hE, rfl⟩ := List.mem_map.1 hd
  have := (Array.getElem?_eq_some_iff.1 (h3 E hE).2).1
  unfold mkD at e
  injection e with e1
  injection e1 with e1
  omega
theorem mk_leaves {F : Fence} {n : Nat} {P : Program} {fn : Func} {tmps : Array Value} {R : Ending → World → Prop} (h : MK base ds V) (hR : ∀ w', Below base V w' → LeavesIn F n P fn tmps R [] .returning w') : LeavesInM F n P fn tmps R ds .returning V := by
  obtain ⟨Ds, rfl, h2, h3⟩ := h
  induction Ds generalizing V with
  | nil => exact hR V (Below.refl _ _)
  | cons D Ds ih =>
    obtain ⟨n1, n2⟩ := List.nodup_cons.1 h2
    obtain ⟨b1, b2⟩ := h3 D (List.mem_cons_self ..)
    have hlt := (Array.getElem?_eq_some_iff.1 b2).1
    refine ⟨by simp, .inl ⟨_, _, rfl, run_takeDeferred b2, ih (fun w' hw => hR w' ?_) n2 (fun E hE => ⟨(h3 E (List.mem_cons_of_mem _ hE)).1, ?_⟩)⟩⟩
    · have hp : Below base V (V.putObj D (.deferred none)) := ⟨rfl, rfl, rfl, by simp, fun k hk => World.putObj_heap_other (by omega)⟩
      exact hp.trans hw
    · exact (World.putObj_heap_other (fun e => by subst e; exact n1 hE)).trans (h3 E (List.mem_cons_of_mem _ hE)).2
/-- All marks stay. -/
def DF (V W : World) : Prop := ∀ k : Nat, V.heap[k]? = some (Obj.deferred (some [])) → W.heap[k]? = some (Obj.deferred (some []))
theorem df_own (V : World) {α : Type} : OwnFrom V.heap.size (fun (_ : α) W => DF V W) := by
  intro s W W' row hs hg hr k hk
  have h1 := hs k hk
  have hl := (Array.getElem?_eq_some_iff.1 hk).1
  refine (hg.block k (Array.getElem?_eq_some_iff.1 h1).1 (fun e => ?_)).trans h1
  have := (hr k e.symm).1
  omega
theorem MK.df (h : MK base ds V) (hd : DF V V') : MK base ds V' := h.of fun k _ hk => (hd k hk).trans hk.symm
end

/-- append of one to such a row. -/
theorem wpListIn_appO {F : Fence} {n : Nat} {w : World} {ops : Array Oper} {rest : List Oper} {o : Oper} {a : Act} {Q : Exit → Act → World → Prop} (hg : o.guard = none) (s x : Operand)
    (hop : o.op = Op.call { callee := Callee.builtin Builtin.append, args := #[s, x], argTypes := #[146, 146] }) (base : Nat) (v : Value) (l : List (Nat × Int)) (hs : a.eval s = v) (hown : RowO base v l w)
    (g0 p : Nat) (lv : Int) (hx : a.eval x = .slice (some ⟨g0, 0, none⟩) 1 1) (hc : w.heap[g0]? = some (.cells #[.int .i64 (p : Int), .int .i64 lv] 145 (0, 0))) (hlen : l.length ≤ 1000000) (b3 : base ≤ w.heap.size)
    (hK : ∀ v' w', RowO base v' (l ++ [(p, lv)]) w' → w.grownBy w' v.ownBlock → (v'.ownBlock = v.ownBlock ∨ v'.ownBlock = some w.heap.size) → wpListIn F n Try.prog ops Q rest (a.put o.dst v') w') : wpListIn F n Try.prog ops Q (o :: rest) a w := by
  obtain ⟨i0, hi0, hz0, hz1, hz2⟩ := info_parts (P := Try.prog) (e := 145) (z := .agg #[.int .i64 0, .int .i64 0]) (size := 2) (bytes := 16) (by kernel_rfl)
  obtain ⟨v', w', hrun, r1, r2, -, r4⟩ := run_append_own_at (P := Try.prog) w base 146 o.type 145 i0 _ 2 16 Try.underlying146 hi0 hz0 hz1 hz2 rfl (by decide) v l.length (cellsO l) hown ⟨g0, 0, none⟩ 1 1 [.int .i64 (p : Int), .int .i64 lv] rfl
    (fun j u hj => by rw [Addr.add_lit, cell_of_row w g0 (0 + j) _ _ (0, 0) hc, Nat.zero_add]; simpa using hj) (fun u hu => by simp at hu; rcases hu with rfl | rfl <;> rfl) (by unfold maxLen; omega) (by omega) b3
  refine wpListIn_plain hg fun K hK' => ?_
  have hrow : RowO base v' (l ++ [(p, lv)]) w' := by
    unfold RowO
    rw [List.length_append, cellsO_app]
    exact r1
  unfold Oper.wpIn
  refine ⟨?_, ?_⟩
  · simp [Oper.about, hop, resolve, Target.leads, Sem.run_pure]
  · rw [Oper.semAt_plain F _ _ (by rw [hop]; intro c hc'; cases hc')]
    simp [execOp, hop, resolve, invoke, builtin, hs, hx, hrun, Result.andThen]
    exact hK' _ _ (hK v' w' hrow r2 r4)
theorem backF_all {β : Type} (n : Nat) (F : Fin n → β) (m : List β) (hm : m.length = n) (h : ∀ i : Fin n, m[i.1]? = some (F i)) : (backF n n).map F = m.reverse := by
  have key : ∀ k, k ≤ n → (backF n k).map F = (m.drop (n - k)).reverse := by
    intro k
    induction k with
    | zero => intro _; rw [Nat.sub_zero, List.drop_eq_nil_of_le (by omega)]; rfl
    | succ k ih =>
      intro hk
      rw [backF_succ n k (n - (k + 1)) (by omega) (by omega), List.map_append, ih (by omega)]
      have hlt : n - (k + 1) < m.length := by omega
      rw [List.drop_eq_getElem_cons hlt, List.reverse_cons, show n - (k + 1) + 1 = n - k by omega]
      have := h ⟨n - (k + 1), by omega⟩
      rw [List.getElem?_eq_getElem hlt] at this
      injection this with this
      rw [this]
      rfl
  have := key n (Nat.le_refl _)
  rw [Nat.sub_self] at this
  exact this
end Go.Proofs.Ytbddbadmfhplmaa

