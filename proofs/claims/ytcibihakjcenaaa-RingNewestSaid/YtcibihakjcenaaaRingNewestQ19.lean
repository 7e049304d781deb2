/- RingNewest: the words and contracts, part 19. -/
import Derived.Test.YtcibihakjcenaaaRingNewestQ1
import Derived.Test.YtcibihakjcenaaaRingNewestQ5
import Derived.Test.YtcibihakjcenaaaRingNewestQ12
import Derived.WalkKit
import Derived.WalkLawsBesides
import Derived.WalkSpells
import Derived.Lib.Hide
import Derived.Laws.Rows
import Derived.Laws.AppendOwnNone
import Derived.Maps.AppendAt
import Derived.ProofKit
import Derived.OpenShut
import Derived.ShutString
import Derived.ChangeOld
import Derived.Below
import Derived.Deep.Slices
import Derived.WideShapes
namespace Go.Proofs.Ytcibihakjcenaaa
open Go.ChangeShapes Go.WideShapes Go.ChangeAt Go.RowKit

section
variable {H : Type} {enc : TypeId × Value → H} {W : World} {r : Reach} {base : Nat} {spare : Nat → Bool} {held : Bool} {v : Value} {d : DataW H} {p : List MemPlace}
set_option maxRecDepth 100000 in
theorem arg_disk (hv : Value.okWide Try.prog W r base 44 v) (h : DataW.Trod enc Try.prog W 0 spare held 44 v d p) :
    ∃ (b u : Value) (x : DiskL), v = .agg #[b, u] ∧ DiskV W 0 W.heap.size b u x := by
  have ht : fieldsOf Try.prog 44 = some [(0, 41), (1, 42)] := by kernel_rfl
  have htw : fieldsOf Try.prog 143 = some [(0, 3), (1, 26)] := by kernel_rfl
  obtain ⟨cs, rfl, hsz⟩ := okW_struct ht hv
  obtain ⟨fuel, hf⟩ := h
  obtain ⟨b, u, x, hcs, hD⟩ := open_disk ht Try.underlying41 Try.underlying42 (by kernel_rfl) (by kernel_rfl) htw (by kernel_rfl) Try.underlying3 (by kernel_rfl) (by kernel_rfl) (by kernel_rfl) Try.underlying26 Try.underlying5 (by kernel_rfl) hf
  refine ⟨b, u, x, ?_, hD⟩
  congr 1
  apply Array.toList_inj.1
  exact hcs
end
end Go.Proofs.Ytcibihakjcenaaa

