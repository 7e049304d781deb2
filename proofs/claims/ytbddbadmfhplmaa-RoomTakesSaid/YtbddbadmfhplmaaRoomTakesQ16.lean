/- RoomTakes: the words and contracts, part 16. -/
import Derived.Test.YtbddbadmfhplmaaRoomTakesQ1
import Derived.Test.YtbddbadmfhplmaaRoomTakesQ2
import Derived.Test.YtbddbadmfhplmaaRoomTakesQ3
import Derived.Test.YtbddbadmfhplmaaRoomTakesQ4
import Derived.Test.YtbddbadmfhplmaaRoomTakesQ5
import Derived.Test.YtbddbadmfhplmaaRoomTakesQ6
import Derived.Test.YtbddbadmfhplmaaRoomTakesQ7
import Derived.Test.YtbddbadmfhplmaaRoomTakesQ8
import Derived.Test.YtbddbadmfhplmaaRoomTakesQ9
import Derived.Test.YtbddbadmfhplmaaRoomTakesQ10
import Derived.Test.YtbddbadmfhplmaaRoomTakesQ11
import Derived.Test.YtbddbadmfhplmaaRoomTakesQ12
import Derived.Test.YtbddbadmfhplmaaRoomTakesQ13
import Derived.Test.YtbddbadmfhplmaaRoomTakesQ14
import Derived.WalkKit
import Derived.WalkLawsBesides
import Derived.WalkSpells
import Derived.Lib.Hide
import Derived.Laws.Rows
import Derived.Laws.AppendOwnNone
import Derived.Maps.AppendAt
import Derived.ProofKit
import Derived.Deep.Slices
import Derived.WideShapes
import Derived.RangeFuncNested
import Derived.RangeFuncBound
import Derived.RangeFuncCalls
import Derived.RangeFuncLeaves
import Derived.RangeFuncBox
import Derived.Shelf.Abstract
import Derived.Shelf.RegionOpen
import Derived.OwnWalkIn
import Derived.TacticsInMore
import Derived.LoopNIn
import Derived.LoopIn
import Derived.Lib.AppendZerosOnto
import Derived.Lib.SliceRun
import Derived.Lib.Walk
import Derived.Deep.LoopGhost
import Derived.Laws.CopyOwn
import Derived.Laws.CopyRow
import Derived.OrdersHeld
import Derived.Deep.QuietTactic
import Derived.BigQuiet
import Derived.StillTailTactics
import Derived.OpenShut
import Derived.Deep.DeepCutAuto
import Derived.Laws.MakeOwn
import Derived.Deep.RegionHeld
import Derived.KernelRfl
import Derived.BigFrameIn
import Derived.OrdersIn
namespace Go.Proofs.Ytbddbadmfhplmaa
open Go.RowKit

/-- What is so of a store of which a block was taken. -/
theorem take_law {s : StoreL} {b : List UInt8} (h : errTk s b = 0) : ∃ (hn : Nat) (ML : List Int), atTk s b = hn ∧ 8 ≤ hn ∧ hn < 256 ∧ s.now.length = 256 ∧ s.last.length = 256 ∧ (takeS s b).now.length = 256 ∧ (takeS s b).last = s.last ∧
    freeL s = (hn : Int) :: ML ∧ ML.length ≤ 256 ∧ freeL (takeS s b) = ML ∧ errS (takeS s b) = 0 ∧ s.now.getD hn 0 = 0 ∧ s.last.getD hn 0 = 0 ∧ (takeS s b).now.getD hn 0 = 1 ∧ (∀ j, j ≠ hn → (takeS s b).now.getD j 0 = s.now.getD j 0) ∧
    (errA (takeS s b).disk hn = 0 ∧ readB (takeS s b).disk hn = b) ∧ (∀ q, errA (takeS s b).disk q = errA s.disk q) ∧ ∀ q, q ≠ (hn : Int) → readB (takeS s b).disk q = readB s.disk q := by
  obtain ⟨hm, hl, ⟨r, hr⟩, hw⟩ := errTk_zero h
  obtain ⟨p1, p2, p3, p4⟩ := head_free hr
  obtain ⟨e1, e2, e3, e4⟩ := take_is h
  have m1 := (mayS_iff.1 hm).1
  have m2 := (mayS_iff.1 e2).1
  have h256 := mayT_len (mayS_iff.1 hm).2.1
  have h257 := mayT_len (mayS_iff.1 hm).2.2
  have h258 := mayT_len (mayS_iff.1 e2).2.1
  have hA : ∀ q, errA (takeS s b).disk q = errA s.disk q := fun q => errA_same q m2 m1
  have hD : (takeS s b).disk = writeD s.disk (headS s) b := by rw [e1, (write_may hw).1]
  refine ⟨headS s, intsOf (freeS (takeS s b)), e3, p1, p2, h256, h257, h258, by rw [e1], ?_, by unfold intsOf; rw [List.length_map]; exact freeS_len _, ?_, ?_, p3, p4, ?_, fun j hj => ?_, ⟨?_, ?_⟩, hA, fun q hq => ?_⟩
  · unfold freeL
    rw [if_pos hm, e4]
    rfl
  · unfold freeL
    rw [if_pos e2]
  · unfold errS
    rw [if_pos e2]
  · rw [e1]
    exact cgetD_set_self _ _ _ (by omega)
  · rw [e1]
    exact bget_set_ne _ _ _ _ (Ne.symm hj)
  · rw [hA, errA_may _ m1, if_neg (by omega)]
  · rw [hD]
    exact read_write_self hw
  · rw [hD]
    exact read_write_other hw hq
theorem take_no {s : StoreL} {b : List UInt8} (hm : mayS s = true) (hl : b.length = 128) (h : errTk s b ≠ 0) : errTk s b = 9 ∧ (freeL s = [] ∨ s.disk.waits.length = 4096) := by
  cases hf : freeS s with
  | nil =>
    have he : errTk s b = 9 := by unfold errTk; rw [if_pos hm, if_pos hl, hf]
    rw [he]
    refine ⟨rfl, .inl ?_⟩
    unfold freeL
    rw [if_pos hm, hf]
    rfl
  | cons p r =>
    have he : errTk s b = errW s.disk p b := by unfold errTk; rw [if_pos hm, if_pos hl, hf]
    rw [he] at h ⊢
    have hp := freeN_mem.1 (show p ∈ freeN s 256 by rw [show freeN s 256 = p :: r from hf]; exact List.mem_cons_self ..)
    have ha : errA s.disk p = 0 := by rw [errA_may _ (mayS_iff.1 hm).1, if_neg (by omega)]
    unfold errW at h ⊢
    rw [ha, if_neg (by simp), if_neg (by omega)] at h ⊢
    split at h
    · rename_i hw
      rw [if_pos hw]
      exact ⟨rfl, .inr hw⟩
    · exact absurd rfl h

end Go.Proofs.Ytbddbadmfhplmaa

