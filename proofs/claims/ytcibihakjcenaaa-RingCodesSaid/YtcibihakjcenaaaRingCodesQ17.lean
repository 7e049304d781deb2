/- RingCodes: the words and contracts, part 17. -/
import Derived.Test.YtcibihakjcenaaaRingCodesQ1
import Derived.Test.YtcibihakjcenaaaRingCodesQ2
import Derived.Test.YtcibihakjcenaaaRingCodesQ3
import Derived.Test.YtcibihakjcenaaaRingCodesQ4
import Derived.Test.YtcibihakjcenaaaRingCodesQ5
import Derived.Test.YtcibihakjcenaaaRingCodesQ6
import Derived.Test.YtcibihakjcenaaaRingCodesQ7
import Derived.Test.YtcibihakjcenaaaRingCodesQ8
import Derived.Test.YtcibihakjcenaaaRingCodesQ9
import Derived.Test.YtcibihakjcenaaaRingCodesQ10
import Derived.Test.YtcibihakjcenaaaRingCodesQ11
import Derived.Test.YtcibihakjcenaaaRingCodesQ12
import Derived.Test.YtcibihakjcenaaaRingCodesQ13
import Derived.Test.YtcibihakjcenaaaRingCodesQ15
import Derived.WalkKit
import Derived.WalkLawsBesides
import Derived.WalkSpells
import Derived.Lib.Hide
import Derived.Laws.Rows
import Derived.Laws.AppendOwnNone
import Derived.Maps.AppendAt
import Derived.ProofKit
import Derived.Deep.Slices
import Derived.WideShapes
import Derived.RangeFuncNested
import Derived.RangeFuncBound
import Derived.RangeFuncCalls
import Derived.RangeFuncLeaves
import Derived.RangeFuncBox
import Derived.Shelf.Abstract
import Derived.Shelf.RegionOpen
import Derived.OwnWalkIn
import Derived.TacticsInMore
import Derived.LoopNIn
import Derived.LoopIn
import Derived.Lib.AppendZerosOnto
import Derived.Lib.SliceRun
import Derived.Lib.Walk
import Derived.Deep.LoopGhost
import Derived.Laws.CopyOwn
import Derived.Laws.CopyRow
import Derived.OrdersHeld
import Derived.Deep.QuietTactic
import Derived.BigQuiet
import Derived.StillTailTactics
import Derived.OpenShut
import Derived.Deep.DeepCutAuto
import Derived.Deep.RegionHeld
import Derived.Laws.MakeOwn
import Derived.KernelRfl
import Derived.BigFrameIn
import Derived.ShutString
import Derived.ChangeOld
import Derived.Below
import Derived.Shelf.SlSortCmp.SmallK
import Derived.Shelf.Small.Bits
namespace Go.Proofs.Ytcibihakjcenaaa
open Go.RowKit

set_option linter.unusedSimpArgs false
def LU5 (lo hi : Nat) (v : Value) (x : SupL) (V : World) : Prop := Lv lo hi (fun W => SupV W lo hi v x) V
theorem LU5.of {V : World} {lo hi : Nat} {v : Value} {x : SupL} (h : SupV V lo hi v x) (hh : hi ≤ V.heap.size) : LU5 lo hi v x V := Lv.mk' hh fun _ hk => ⟨h.1, h.2.keep hk⟩
theorem LU5.v {V : World} {lo hi : Nat} {v : Value} {x : SupL} (h : LU5 lo hi v x V) : SupV V 0 V.heap.size v x := ⟨(Lv.get h).1, (Lv.get h).2.more (Nat.zero_le _) (Lv.hi_le h)⟩
theorem LU5.step {V V' : World} {lo hi : Nat} {v : Value} {x : SupL} (h : LU5 lo hi v x V) (hb : Below V.heap.size V V') : LU5 lo hi v x V' := Lv.step h hb

end Go.Proofs.Ytcibihakjcenaaa

