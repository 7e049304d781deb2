/- RoomCounts: the words and contracts, part 17. -/
import Derived.Test.YtbddbadmfhplmaaRoomCountsQ1
import Derived.Test.YtbddbadmfhplmaaRoomCountsQ2
import Derived.Test.YtbddbadmfhplmaaRoomCountsQ3
import Derived.Test.YtbddbadmfhplmaaRoomCountsQ4
import Derived.Test.YtbddbadmfhplmaaRoomCountsQ5
import Derived.Test.YtbddbadmfhplmaaRoomCountsQ6
import Derived.Test.YtbddbadmfhplmaaRoomCountsQ7
import Derived.Test.YtbddbadmfhplmaaRoomCountsQ8
import Derived.Test.YtbddbadmfhplmaaRoomCountsQ9
import Derived.Test.YtbddbadmfhplmaaRoomCountsQ10
import Derived.Test.YtbddbadmfhplmaaRoomCountsQ11
import Derived.Test.YtbddbadmfhplmaaRoomCountsQ12
import Derived.Test.YtbddbadmfhplmaaRoomCountsQ13
import Derived.Test.YtbddbadmfhplmaaRoomCountsQ14
import Derived.Test.YtbddbadmfhplmaaRoomCountsQ15
import Derived.WalkKit
import Derived.WalkLawsBesides
import Derived.WalkSpells
import Derived.Lib.Hide
import Derived.Laws.Rows
import Derived.Laws.AppendOwnNone
import Derived.Maps.AppendAt
import Derived.ProofKit
import Derived.Deep.Slices
import Derived.WideShapes
import Derived.RangeFuncNested
import Derived.RangeFuncBound
import Derived.RangeFuncCalls
import Derived.RangeFuncLeaves
import Derived.RangeFuncBox
import Derived.Shelf.Abstract
import Derived.Shelf.RegionOpen
import Derived.OwnWalkIn
import Derived.TacticsInMore
import Derived.LoopNIn
import Derived.LoopIn
import Derived.Lib.AppendZerosOnto
import Derived.Lib.SliceRun
import Derived.Lib.Walk
import Derived.Deep.LoopGhost
import Derived.Laws.CopyOwn
import Derived.Laws.CopyRow
import Derived.OrdersHeld
import Derived.Deep.QuietTactic
import Derived.BigQuiet
import Derived.StillTailTactics
import Derived.OpenShut
import Derived.Deep.DeepCutAuto
import Derived.Laws.MakeOwn
import Derived.Deep.RegionHeld
import Derived.KernelRfl
import Derived.BigFrameIn
import Derived.OrdersIn
namespace Go.Proofs.Ytbddbadmfhplmaa
open Go.RowKit

theorem share_law {s : StoreL} {p : Int} (h : errSh s p = 0) : ∃ (pn z : Nat), p = pn ∧ 8 ≤ pn ∧ pn < 256 ∧ z ≠ 0 ∧ z + 1 < 256 ∧ s.now.length = 256 ∧ (shareS s p).now.length = 256 ∧ (shareS s p).disk = s.disk ∧ (shareS s p).last = s.last ∧
    (s.now.getD pn 0).toNat = z ∧ ((shareS s p).now.getD pn 0).toNat = z + 1 ∧ ∀ j, j ≠ pn → (shareS s p).now.getD j 0 = s.now.getD j 0 := by
  obtain ⟨h1, h2, h3, h4, h5, h6, -⟩ := share_is h
  obtain ⟨pn, rfl⟩ : ∃ pn : Nat, p = pn := ⟨p.toNat, by omega⟩
  have h256 := mayT_len (mayS_iff.1 h2).2.1
  rw [Int.toNat_natCast] at h5 h6 h1
  have hs : s.now.length = 256 := by rw [h1] at h256; simpa using h256
  refine ⟨pn, (s.now.getD pn 0).toNat, rfl, by omega, by omega, fun e => h5 (u8_inj e), ?_, hs, h256, by rw [h1], by rw [h1], rfl, ?_, fun j hj => ?_⟩
  · have := (s.now.getD pn 0 + 1).toNat_lt
    omega
  · rw [h1]
    show ((s.now.set pn (s.now.getD pn 0 + 1)).getD pn 0).toNat = _
    rw [cgetD_set_self _ _ _ (by omega), h6]
  · rw [h1]
    exact bget_set_ne _ _ _ _ (Ne.symm hj)

/-- What is so of a store of which a block was taken. -/
theorem take_law {s : StoreL} {b : List UInt8} (h : errTk s b = 0) : ∃ (hn : Nat) (ML : List Int), atTk s b = hn ∧ 8 ≤ hn ∧ hn < 256 ∧ s.now.length = 256 ∧ s.last.length = 256 ∧ (takeS s b).now.length = 256 ∧ (takeS s b).last = s.last ∧
    freeL s = (hn : Int) :: ML ∧ ML.length ≤ 256 ∧ freeL (takeS s b) = ML ∧ errS (takeS s b) = 0 ∧ s.now.getD hn 0 = 0 ∧ s.last.getD hn 0 = 0 ∧ (takeS s b).now.getD hn 0 = 1 ∧ (∀ j, j ≠ hn → (takeS s b).now.getD j 0 = s.now.getD j 0) ∧
    (errA (takeS s b).disk hn = 0 ∧ readB (takeS s b).disk hn = b) ∧ (∀ q, errA (takeS s b).disk q = errA s.disk q) ∧ ∀ q, q ≠ (hn : Int) → readB (takeS s b).disk q = readB s.disk q := by
  obtain ⟨hm, hl, ⟨r, hr⟩, hw⟩ := errTk_zero h
  obtain ⟨p1, p2, p3, p4⟩ := head_free hr
  obtain ⟨e1, e2, e3, e4⟩ := take_is h
  have m1 := (mayS_iff.1 hm).1
  have m2 := (mayS_iff.1 e2).1
  have h256 := mayT_len (mayS_iff.1 hm).2.1
  have h257 := mayT_len (mayS_iff.1 hm).2.2
  have h258 := mayT_len (mayS_iff.1 e2).2.1
  have hA : ∀ q, errA (takeS s b).disk q = errA s.disk q := fun q => errA_same q m2 m1
  have hD : (takeS s b).disk = writeD s.disk (headS s) b := by rw [e1, (write_may hw).1]
  refine ⟨headS s, intsOf (freeS (takeS s b)), e3, p1, p2, h256, h257, h258, by rw [e1], ?_, by unfold intsOf; rw [List.length_map]; exact freeS_len _, ?_, ?_, p3, p4, ?_, fun j hj => ?_, ⟨?_, ?_⟩, hA, fun q hq => ?_⟩
  · unfold freeL
    rw [if_pos hm, e4]
    rfl
  · unfold freeL
    rw [if_pos e2]
  · unfold errS
    rw [if_pos e2]
  · rw [e1]
    exact cgetD_set_self _ _ _ (by omega)
  · rw [e1]
    exact bget_set_ne _ _ _ _ (Ne.symm hj)
  · rw [hA, errA_may _ m1, if_neg (by omega)]
  · rw [hD]
    exact read_write_self hw
  · rw [hD]
    exact read_write_other hw hq
theorem share_free {s : StoreL} {p : Int} (h : errSh s p = 0) : freeL (shareS s p) = freeL s ∧ errS (shareS s p) = 0 := by
  obtain ⟨h1, h2, -, -, -, -, h3⟩ := share_is h
  have hm := (errAs_zero (errSh_zero h).1).1
  unfold freeL errS
  rw [if_pos h2, if_pos h2, if_pos hm, h3]
  exact ⟨rfl, rfl⟩
theorem take_should {s : StoreL} {b : List UInt8} (hm : mayS s = true) : errTk s b = 0 ↔ 0 < (freeL s).length ∧ b.length = 128 ∧ s.disk.waits.length < 4096 := by
  have hF : freeL s = intsOf (freeS s) := by unfold freeL; rw [if_pos hm]
  have hFl : (freeL s).length = (freeS s).length := by rw [hF]; unfold intsOf; rw [List.length_map]
  rw [hFl]
  constructor
  · intro h
    obtain ⟨-, h2, ⟨r, h3⟩, h4⟩ := errTk_zero h
    have := (errW_zero h4).2.2.2.2.1
    exact ⟨by rw [h3]; simp, h2, this⟩
  · rintro ⟨h1, h2, h3⟩
    cases hf : freeS s with
    | nil => rw [hf] at h1; simp at h1
    | cons p r =>
      have he : errTk s b = errW s.disk p b := by unfold errTk; rw [if_pos hm, if_pos h2, hf]
      have hp := freeN_mem.1 (show p ∈ freeN s 256 by rw [show freeN s 256 = p :: r from hf]; exact List.mem_cons_self ..)
      have ha : errA s.disk p = 0 := by rw [errA_may _ (mayS_iff.1 hm).1, if_neg (by omega)]
      rw [he]
      unfold errW
      rw [ha, if_neg (by simp), if_neg (by omega), if_neg (by omega)]
theorem freeL_le (s : StoreL) : (freeL s).length ≤ 256 := by
  unfold freeL
  split
  · unfold intsOf
    rw [List.length_map]
    exact freeS_len s
  · exact Nat.zero_le _
end Go.Proofs.Ytbddbadmfhplmaa

