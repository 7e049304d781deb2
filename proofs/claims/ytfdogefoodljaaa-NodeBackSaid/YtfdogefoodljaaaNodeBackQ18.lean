/- NodeBack: the words and contracts, part 18. -/
import Derived.Test.YtfdogefoodljaaaNodeBackQ1
import Derived.Test.YtfdogefoodljaaaNodeBackQ2
import Derived.Test.YtfdogefoodljaaaNodeBackQ3
import Derived.Test.YtfdogefoodljaaaNodeBackQ4
import Derived.Test.YtfdogefoodljaaaNodeBackQ5
import Derived.Test.YtfdogefoodljaaaNodeBackQ6
import Derived.Test.YtfdogefoodljaaaNodeBackQ7
import Derived.Test.YtfdogefoodljaaaNodeBackQ8
import Derived.Test.YtfdogefoodljaaaNodeBackQ9
import Derived.Test.YtfdogefoodljaaaNodeBackQ10
import Derived.Test.YtfdogefoodljaaaNodeBackQ11
import Derived.Test.YtfdogefoodljaaaNodeBackQ12
import Derived.Test.YtfdogefoodljaaaNodeBackQ13
import Derived.Test.YtfdogefoodljaaaNodeBackQ14
import Derived.Test.YtfdogefoodljaaaNodeBackQ15
import Derived.Test.YtfdogefoodljaaaNodeBackQ16
import Derived.Test.YtfdogefoodljaaaNodeBackQ17
import Derived.WalkKit
import Derived.WalkLawsBesides
import Derived.WalkSpells
import Derived.Lib.Hide
import Derived.Laws.Rows
import Derived.Laws.AppendOwnNone
import Derived.Maps.AppendAt
import Derived.ProofKit
import Derived.Deep.Slices
import Derived.WideShapes
import Derived.RangeFuncNested
import Derived.RangeFuncBound
import Derived.RangeFuncCalls
import Derived.RangeFuncLeaves
import Derived.RangeFuncBox
import Derived.Shelf.Abstract
import Derived.Shelf.RegionOpen
import Derived.OwnWalkIn
import Derived.TacticsInMore
import Derived.LoopNIn
import Derived.LoopIn
import Derived.Lib.AppendZerosOnto
import Derived.Lib.SliceRun
import Derived.Lib.Walk
import Derived.Deep.LoopGhost
import Derived.Laws.CopyOwn
import Derived.Laws.CopyRow
import Derived.OrdersHeld
import Derived.Deep.QuietTactic
import Derived.BigQuiet
import Derived.StillTailTactics
import Derived.OpenShut
import Derived.Deep.DeepCutAuto
import Derived.Deep.RegionHeld
import Derived.Laws.MakeOwn
import Derived.KernelRfl
import Derived.BigFrameIn
namespace Go.Proofs.Ytfdogefoodljaaa
open Go.RowKit

theorem openE_zeroN (l : List UInt8) (h : openE l = 0) : l.length = 128 ∧ opensL l = true := by
  unfold openE at h
  split at h
  · split at h
    · exact ⟨by assumption, by assumption⟩
    · cases h
  · cases h
theorem seal_openN (l : List UInt8) (h : openE l = 0) : openL l = l.drop 4 ∧ l.length = 128 ∧ sealL (l.drop 4) = l := by
  obtain ⟨h1, h2⟩ := openE_zeroN l h
  refine ⟨by unfold openL; rw [if_pos h], h1, ?_⟩
  unfold sealL
  rw [show padL (l.drop 4) = l.drop 4 by simp [padL, h1]]
  have hn : getN l 0 4 = (crc (l.drop 4)).toNat := by simpa [opensL] using h2
  have hg := (get_yes' l 0 4 (by omega)).1
  rw [← hn]
  have h4 := four_of l 0 (by omega)
  rw [show getN l 0 4 = numOf ((l.drop 0).take 4) from hg, h4]
  simp
theorem open_sealN (b : List UInt8) (h : b.length ≤ 124) : openE (sealL b) = 0 ∧ openL (sealL b) = padL b := by
  have hl := sealL_length b h
  have ht : (sealL b).take 4 = fourL (crc (padL b)).toNat := by simp [sealL, fourL]
  have hd : (sealL b).drop 4 = padL b := by simp [sealL, fourL]
  have ho : opensL (sealL b) = true := by
    simp only [opensL, beq_iff_eq, getN_zero (sealL b) (by omega), ht, hd]
    exact numOf_fourL (crc (padL b)).toNat (by have := (crc (padL b)).isLt; omega)
  have h1 : openE (sealL b) = 0 := by
    unfold openE
    rw [if_pos hl, if_pos ho]
  exact ⟨h1, by unfold openL; rw [if_pos h1, hd]⟩
theorem bodyN_cons (x : ItemL) (l : List ItemL) : bodyN (x :: l) = itemB x ++ bodyN l := by simp [bodyN]
theorem bodyN_snoc (l : List ItemL) (x : ItemL) : bodyN (l ++ [x]) = bodyN l ++ itemB x := by simp [bodyN]
theorem rdS_body (its : List ItemL) (z : List UInt8) (hm : ∀ x ∈ its, mayI x = true) : ∀ k, k ≤ its.length → rdS (bodyN its ++ z) k = some (its.take k, bodyN (its.drop k) ++ z)
  | 0, _ => rfl
  | k + 1, hk => by
    have hx : k < its.length := hk
    have hd : its.drop k = its[k] :: its.drop (k + 1) := List.drop_eq_getElem_cons hx
    obtain ⟨h1, h2, h3⟩ := read_item its[k] (hm _ (List.getElem_mem hx)) (bodyN (its.drop (k + 1)) ++ z)
    rw [rdS, rdS_body its z hm k (by omega)]
    simp only
    rw [hd, bodyN_cons, List.append_assoc, if_pos h1, h2, h3, List.drop_left, List.take_succ_eq_append_getElem hx]
theorem rdS_join (r : List UInt8) : ∀ (k : Nat) (s : List ItemL × List UInt8), rdS r k = some s → r = bodyN s.1 ++ s.2
  | 0, s, h => by cases h; rfl
  | k + 1, s, h => by
    rw [rdS] at h
    cases h0 : rdS r k with
    | none => rw [h0] at h; cases h
    | some t =>
      rw [h0] at h
      simp only at h
      split at h
      · rename_i hr
        cases h
        have ih := rdS_join r k t h0
        obtain ⟨-, h2, -⟩ := item_read t.2 hr
        rw [bodyN_snoc, h2, List.append_assoc, List.take_append_drop]
        exact ih
      · cases h
theorem back1 {n : NodeL} (h : mayN n = true) : errNd (blockN n) = 0 ∧ readNd (blockN n) = n ∧ (blockN n).length = 128 := by
  have hlen := bytesN_len h
  have hb : blockN n = sealL (bytesN n) := by unfold blockN; rw [if_pos h]
  obtain ⟨o1, o2⟩ := open_sealN (bytesN n) hlen
  obtain ⟨⟨l0, l6⟩, l5, -, -⟩ := mayN_all h
  obtain ⟨lv, its⟩ := n
  obtain ⟨lv, rfl⟩ := Int.eq_ofNat_of_zero_le l0
  simp only at l6 l5
  have e : padL (bytesN ⟨(lv : Int), its⟩) = 78 :: UInt8.ofNat lv :: UInt8.ofNat its.length :: (bodyN its ++ List.replicate (124 - (bytesN ⟨(lv : Int), its⟩).length) 0) := by
    simp [padL, bytesN, headN]
  rw [e] at o2
  have hr := rdS_body its (List.replicate (124 - (bytesN ⟨(lv : Int), its⟩).length) 0) (mayN_items h) its.length (Nat.le_refl _)
  rw [List.take_length, List.drop_length] at hr
  have n1 : (UInt8.ofNat lv).toNat = lv := by rw [UInt8.toNat_ofNat']; omega
  have n2 : (UInt8.ofNat its.length).toNat = its.length := by rw [UInt8.toNat_ofNat']; omega
  have ha : rdAll (sealL (bytesN ⟨(lv : Int), its⟩)) = some (its, List.replicate (124 - (bytesN ⟨(lv : Int), its⟩).length) 0) := by
    unfold rdAll
    rw [o2]
    simp only [List.drop_succ_cons, List.drop_zero, List.getD_cons_succ, List.getD_cons_zero, n2]
    exact hr
  have hz : maxL (List.replicate (124 - (bytesN ⟨(lv : Int), its⟩).length) (0 : UInt8)) = 0 := (maxL_zero _).2 fun x hx => (List.mem_replicate.1 hx).2
  have hk : okRd (sealL (bytesN ⟨(lv : Int), its⟩)) = true := by
    unfold okRd
    rw [ha, o2]
    simp only [List.getD_cons_succ, List.getD_cons_zero, n1, n2, h, hz]
    simp [l5]
  have he : errNd (sealL (bytesN ⟨(lv : Int), its⟩)) = 0 := by
    unfold errNd
    rw [if_pos o1, if_pos hk]
  refine ⟨by rw [hb]; exact he, ?_, by rw [hb]; exact sealL_length _ hlen⟩
  rw [hb]
  unfold readNd
  rw [if_pos he, ha, o2]
  simp only [List.getD_cons_succ, List.getD_cons_zero, n1, Option.getD_some]
theorem back2 {l : List UInt8} (h : errNd l = 0) : mayN (readNd l) = true ∧ blockN (readNd l) = l := by
  have ho : openE l = 0 := by
    unfold errNd at h
    split at h
    · assumption
    · exact h
  obtain ⟨o1, o2, o3⟩ := seal_openN l ho
  have hk : okRd l = true := by
    unfold errNd at h
    rw [if_pos ho] at h
    cases hk : okRd l with
    | true => rfl
    | false => rw [hk] at h; simp at h
  have hL : (openL l).length = 124 := by rw [o1, List.length_drop]; omega
  have hrn : readNd l = ⟨(((openL l).getD 1 0).toNat : Int), ((rdAll l).getD ([], [])).1⟩ := by
    unfold readNd
    rw [if_pos h]
  unfold okRd at hk
  cases hs : rdAll l with
  | none => rw [hs] at hk; simp at hk
  | some s =>
    rw [hs] at hk hrn
    simp only [Bool.and_eq_true, beq_iff_eq, decide_eq_true_eq] at hk
    obtain ⟨⟨k0, k2⟩, km, kz⟩ := hk
    simp only [Option.getD_some] at hrn
    unfold rdAll at hs
    rw [← o1] at o3
    generalize openL l = L at *
    match L, hL with
    | x0 :: x1 :: x2 :: r, hL =>
      simp only [List.getD_cons_succ, List.getD_cons_zero, List.drop_succ_cons, List.drop_zero] at k0 k2 km hrn hs
      subst k0
      have hj := rdS_join _ _ _ hs
      have hl := (rdS_len hs).1
      refine ⟨by rw [hrn]; exact km, ?_⟩
      rw [hrn]
      unfold blockN
      rw [if_pos km]
      have hby : bytesN ⟨(x1.toNat : Int), s.1⟩ = 78 :: x1 :: x2 :: bodyN s.1 := by
        simp [bytesN, headN, hl]
      have hz : s.2 = List.replicate s.2.length 0 := List.eq_replicate_iff.2 ⟨rfl, (maxL_zero _).1 kz⟩
      have hp : padL (bytesN ⟨(x1.toNat : Int), s.1⟩) = 78 :: x1 :: x2 :: r := by
        have hrl : r.length = (bodyN s.1).length + s.2.length := by rw [hj, List.length_append]
        have h3 : r.length = 121 := by simpa using hL
        unfold padL
        rw [hby]
        simp only [List.length_cons, List.cons_append]
        rw [show 124 - ((bodyN s.1).length + 1 + 1 + 1) = s.2.length by omega, ← hz, ← hj]
      have hp2 : padL (78 :: x1 :: x2 :: r) = 78 :: x1 :: x2 :: r := by
        unfold padL
        rw [hL]
        simp
      rw [← o3]
      unfold sealL
      rw [hp, hp2]
    | [], hL => simp at hL
    | [_], hL => simp at hL
    | [_, _], hL => simp at hL
end Go.Proofs.Ytfdogefoodljaaa

